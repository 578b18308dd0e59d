/- The contract of the statements' helper collide. -/
import Derived.Test.YtbkhkpcnclhoiaaDoorWay
namespace Go.Proofs.YtbkhkpcnclhoiaaDoor
open Go.RowKit Go.Shelf
attribute [local go_sem] gAt gUpon
attribute [local simp] Gr.refl Gr.alloc

theorem collD_step {a b : List ByteArray} {k : Nat} {x y : ByteArray} (ha : a[k]? = some x) (hb : b[k]? = some y) :
    collD (a.drop k) (b.drop k) = ((decide (x ≠ y) && decide (sha x = sha y)) || collD (a.drop (k + 1)) (b.drop (k + 1))) := by
  have h1 := (List.getElem?_eq_some_iff.1 ha)
  have h2 := (List.getElem?_eq_some_iff.1 hb)
  obtain ⟨h1, rfl⟩ := h1
  obtain ⟨h2, rfl⟩ := h2
  rw [List.drop_eq_getElem_cons h1, List.drop_eq_getElem_cons h2, collD]
theorem collD_nil_left {a b : List ByteArray} (h : a.length = 0) : collD a b = false := by
  have : a = [] := List.eq_nil_of_length_eq_zero h
  subst this
  cases b <;> rfl
theorem collD_nil_right {a b : List ByteArray} (h : b.length = 0) : collD a b = false := by
  have : b = [] := List.eq_nil_of_length_eq_zero h
  subst this
  cases a <;> rfl

set_option maxRecDepth 100000 in
set_option maxHeartbeats 4000000 in
theorem coll_any (v u : Value) (a b : List ByteArray) (w : World) (hv : StrsAt v a w) (hu : StrsAt u b w) (ha : a.length ≤ 1000) (hb : b.length ≤ 1000) (hsa : ∀ x ∈ a, x.size ≤ 1000) (hsb : ∀ x ∈ b, x.size ≤ 1000) (hT : Tab w) :
    Calls Tryd.prog 24 #[v, u] w fun e w' => e = .returned (.bool (collD a b)) ∧ Gr w w' := by
  obtain ⟨p, cap, rfl⟩ := hv.shape
  obtain ⟨p', cap', rfl⟩ := hu.shape
  have HV := Lib.hid hv
  have HU := Lib.hid hu
  have HT := Lib.hid hT
  have HSA := Lib.hid hsa
  have HSB := Lib.hid hsb
  clear hv hu hT hsa hsb
  go_enter Tryd.func24, Tryd.ntmps24
  go_wp2_with fail
  go_loopw [5] (fun v5 W => ∃ k : Nat, k ≤ a.length ∧ k ≤ b.length ∧ v5 = .int .i64 (k : Int) ∧ Hid (Gr w W) ∧ Hid (collD a b = collD (a.drop k) (b.drop k))) (fun v5 _ => a.length - (intOf v5).toNat)
  case atStart => exact ⟨0, Nat.zero_le _, Nat.zero_le _, rfl, Lib.hid (Gr.refl _), Lib.hid rfl⟩
  case round =>
    obtain ⟨k, hka, hkb, rfl, HG, HC⟩ := hrel
    by_cases h1 : k < a.length
    · have ht1 : decide (k < a.length) = true := decide_eq_true h1
      by_cases h2 : k < b.length
      · have ht2 : decide (k < b.length) = true := decide_eq_true h2
        obtain ⟨x, hx⟩ : ∃ x, a[k]? = some x := ⟨_, List.getElem?_eq_getElem h1⟩
        obtain ⟨y, hy⟩ : ∃ y, b[k]? = some y := ⟨_, List.getElem?_eq_getElem h2⟩
        obtain ⟨g, off, cc, he, hc4⟩ : ∃ g off cap', Value.slice p a.length cap = .slice (some ⟨g, off, none⟩) a.length cap' ∧ ∀ (j : Nat) x, a[j]? = some x → wr.cell? ⟨g, off + j, none⟩ = some (.string x) := by
          rcases HV.out with ⟨_, rfl⟩ | ⟨g, off, cap', h1, _, _, h2⟩
          · simp at h1
          · exact ⟨g, off, cap', h1, fun j x hj => HG.out.cell (h2 j x hj)⟩
        injection he with he1 _ he2
        subst he1 he2
        obtain ⟨g', off', cc', he', hc4'⟩ : ∃ g off cap'', Value.slice p' b.length cap' = .slice (some ⟨g, off, none⟩) b.length cap'' ∧ ∀ (j : Nat) x, b[j]? = some x → wr.cell? ⟨g, off + j, none⟩ = some (.string x) := by
          rcases HU.out with ⟨_, rfl⟩ | ⟨g, off, cap', h1, _, _, h2⟩
          · simp at h2
          · exact ⟨g, off, cap', h1, fun j x hj => HG.out.cell (h2 j x hj)⟩
        injection he' with he1 _ he2
        subst he1 he2
        have hcx := hc4 k x hx
        have hcy := hc4' k y hy
        have HStep := Lib.hid (collD_step hx hy)
        have HXs : Hid (x.size ≤ 1000) := Lib.hid (HSA.out x (List.mem_of_getElem? hx))
        have HYs : Hid (y.size ≤ 1000) := Lib.hid (HSB.out y (List.mem_of_getElem? hy))
        clear hc4 hc4' hx hy HV HU HSA HSB
        by_cases hxy : x = y
        · have hb1 : (x.toList == y.toList) = true := by rw [beq_string]; exact decide_eq_true hxy
          have HN : Hid (collD a b = collD (a.drop (k + 1)) (b.drop (k + 1))) := Lib.hid (by
            rw [HC.out, HStep.out, decide_eq_false (fun h => h hxy)]; simp)
          clear hxy HStep HC
          go_upto_region 4 with fail
          go_quiet (fail)
          rename_i nq
          have hg5 : Gr wr (wr.drewN nq) := below_drewN (Below.refl _ _) nq
          generalize wr.drewN nq = w5 at hg5 ⊢
          have HG5 := Lib.hid (HG.out.trans hg5)
          clear hg5 hcx hcy
          go_wp2_with fail
          go_roundw
          case rel => exact ⟨k + 1, by omega, by omega, by go_num, HG5, HN⟩
          case measure => simp [intOf]; omega
        · have hb1 : (x.toList == y.toList) = false := by rw [beq_string]; exact decide_eq_false hxy
          have hS1 : ∀ n : GrS wr.drew, n.w.cell? ⟨g, off + k, none⟩ = some (.string x) := fun n => n.h.cell (w := wr.drew) hcx
          have hS2 : ∀ n : GrS wr.drew, n.w.cell? ⟨g', off' + k, none⟩ = some (.string y) := fun n => n.h.cell (w := wr.drew) hcy
          have HA : Hid (∀ w1, Gr wr.drew w1 → Calls Tryd.prog 27 #[.string x] w1 fun e w' => e = .returned (.string (sha x)) ∧ Gr w1 w') := Lib.hid (fun w1 hg => sum_any x w1 (by have := HXs.out; omega) (HT.out.gr (HG.out.trans (Gr.trans (Gr.drew wr) hg))))
          have HB : Hid (∀ w1, Gr wr.drew w1 → Calls Tryd.prog 27 #[.string y] w1 fun e w' => e = .returned (.string (sha y)) ∧ Gr w1 w') := Lib.hid (fun w1 hg => sum_any y w1 (by have := HYs.out; omega) (HT.out.gr (HG.out.trans (Gr.trans (Gr.drew wr) hg))))
          have HN : Hid (sha x ≠ sha y → collD a b = collD (a.drop (k + 1)) (b.drop (k + 1))) := Lib.hid (fun h => by
            rw [HC.out, HStep.out, decide_eq_false h]; simp)
          have HM : Hid (sha x = sha y → collD a b = true) := Lib.hid (fun h => by
            rw [HC.out, HStep.out, decide_eq_true h, decide_eq_true hxy]; simp)
          clear hxy HStep HC HXs HYs
          generalize sha x = X at *
          generalize sha y = Y at *
          go_upto_region 4 with fail
          refine region_grow 21 40 (by kernel_rfl) rfl (by kernel_rfl) rfl rfl ?_
          simp only [List.take_succ_cons, List.take_zero, List.drop_succ_cons, List.drop_zero]
          refine seg 14 rfl rfl rfl rfl ?_
          simp only [List.take_succ_cons, List.take_zero, List.drop_succ_cons, List.drop_zero]
          repeat (go_big_quiet_step (fail))
          refine wpQuiet_nil ?_
          intro _
          refine grow_det (v := .string X) rfl rfl rfl rfl rfl ?_ ?_
          · intro w1 hG
            go_simp
            refine (HA.out w1 hG).mono ?_
            rintro e w' ⟨rfl, hb⟩
            exact ⟨rfl, hb⟩
          simp only [Act.put, List.setIfInBounds_toArray, List.set_cons_zero, List.set_cons_succ]
          refine seg 4 rfl rfl rfl rfl ?_
          simp only [List.take_succ_cons, List.take_zero, List.drop_succ_cons, List.drop_zero]
          repeat (go_big_quiet_step (fail))
          refine wpQuiet_nil ?_
          intro _
          refine grow_det (v := .string Y) rfl rfl rfl rfl rfl ?_ ?_
          · intro w1 hG
            go_simp
            refine (HB.out w1 hG).mono ?_
            rintro e w' ⟨rfl, hb⟩
            exact ⟨rfl, hb⟩
          simp only [Act.put, List.setIfInBounds_toArray, List.set_cons_zero, List.set_cons_succ]
          refine seg 1 rfl rfl rfl rfl ?_
          simp only [List.take_succ_cons, List.take_zero, List.drop_succ_cons, List.drop_zero]
          repeat (go_big_quiet_step (fail))
          refine wpQuiet_nil ?_
          intro _
          refine grow_end0 rfl rfl ?_
          intro w10 hG
          have HG10 : Hid (Gr w w10) := Lib.hid (HG.out.trans (Gr.trans (Gr.drew wr) hG))
          clear hG hS1 hS2 hcx hcy HA HB HG
          by_cases hXY : X = Y
          · have hb2 : (X.toList == Y.toList) = true := by rw [beq_string]; exact decide_eq_true hXY
            have HR := Lib.hid (HM.out hXY)
            clear hXY HN HM
            go_wp2_with fail
            go_ret
            exact ⟨by rw [HR.out]; rfl, HG10.out⟩
          · have hb2 : (X.toList == Y.toList) = false := by rw [beq_string]; exact decide_eq_false hXY
            have HR := Lib.hid (HN.out hXY)
            clear hXY HN HM
            go_wp2_with fail
            go_roundw
            case rel => exact ⟨k + 1, by omega, by omega, by go_num, HG10, HR⟩
            case measure => simp [intOf]; omega
      · have ht2 : decide (k < b.length) = false := decide_eq_false h2
        have HR : Hid (collD a b = false) := Lib.hid (by rw [HC.out]; exact collD_nil_right (by rw [List.length_drop]; omega))
        clear HC
        go_wp2_with fail
        go_ret
        exact ⟨by rw [HR.out]; rfl, HG.out⟩
    · have ht1 : decide (k < a.length) = false := decide_eq_false h1
      have HR : Hid (collD a b = false) := Lib.hid (by rw [HC.out]; exact collD_nil_left (by rw [List.length_drop]; omega))
      clear HC
      go_wp2_with fail
      go_ret
      exact ⟨by rw [HR.out]; rfl, HG.out⟩
end Go.Proofs.YtbkhkpcnclhoiaaDoor
