/- The contracts of the statements' helper heads and of the reference's Same. -/
import Derived.Test.YtbkhkpcnclhoiaaDoorChain
namespace Go.Proofs.YtbkhkpcnclhoiaaDoor
open Go.RowKit Go.Shelf
attribute [local go_sem] gAt gUpon
attribute [local simp] Gr.refl Gr.alloc

theorem eq_take {a b : List ByteArray} {k : Nat} {x y : ByteArray} (ha : a[k]? = some x) (hb : b[k]? = some y) (h : a.take k = b.take k) (hxy : x = y) : a.take (k + 1) = b.take (k + 1) := by
  rw [List.take_add_one, List.take_add_one, ha, hb, h, hxy]

set_option maxRecDepth 100000 in
set_option maxHeartbeats 1000000 in
theorem same_any (v u : Value) (a b : List ByteArray) (w : World) (hv : StrsAt v a w) (hu : StrsAt u b w) (ha : a.length ≤ 1000) (hb : b.length ≤ 1000) :
    Calls Tryd.prog 17 #[v, u] w fun e w' => e = .returned (.bool (decide (a = b))) ∧ Gr w w' := by
  obtain ⟨p, cap, rfl⟩ := hv.shape
  obtain ⟨p', cap', rfl⟩ := hu.shape
  have HV := Lib.hid hv
  have HU := Lib.hid hu
  clear hv hu
  by_cases hl : a.length = b.length
  · have HL := Lib.hid hl
    rw [← hl]
    have hne : ((a.length : Int) != (a.length : Int)) = false := by simp
    clear hl
    go_enter Tryd.func17, Tryd.ntmps17
    go_wp2_with fail
    go_loopw [5] (fun v5 W => ∃ k : Nat, k ≤ a.length ∧ v5 = .int .i64 (k : Int) ∧ Hid (Gr w W) ∧ Hid (a.take k = b.take k)) (fun v5 _ => a.length - (intOf v5).toNat)
    case atStart => exact ⟨0, Nat.zero_le _, rfl, Lib.hid (Gr.refl _), Lib.hid rfl⟩
    case round =>
      obtain ⟨k, hk, rfl, HG, HE⟩ := hrel
      by_cases h1 : k < a.length
      · have ht1 : decide (k < a.length) = true := decide_eq_true h1
        have h2 : k < b.length := by have := HL.out; omega
        obtain ⟨x, hx⟩ : ∃ x, a[k]? = some x := ⟨_, List.getElem?_eq_getElem h1⟩
        obtain ⟨y, hy⟩ : ∃ y, b[k]? = some y := ⟨_, List.getElem?_eq_getElem h2⟩
        obtain ⟨g, off, cc, he, hc4⟩ : ∃ g off cap', Value.slice p a.length cap = .slice (some ⟨g, off, none⟩) a.length cap' ∧ ∀ (j : Nat) x, a[j]? = some x → wr.cell? ⟨g, off + j, none⟩ = some (.string x) := by
          rcases HV.out with ⟨_, rfl⟩ | ⟨g, off, cap', h1, _, _, h2⟩
          · simp at h1
          · exact ⟨g, off, cap', h1, fun j x hj => HG.out.cell (h2 j x hj)⟩
        injection he with he1 _ he2
        subst he1 he2
        obtain ⟨g', off', cc', he', hc4'⟩ : ∃ g off cap'', Value.slice p' b.length cap' = .slice (some ⟨g, off, none⟩) b.length cap'' ∧ ∀ (j : Nat) x, b[j]? = some x → wr.cell? ⟨g, off + j, none⟩ = some (.string x) := by
          rcases HU.out with ⟨_, rfl⟩ | ⟨g, off, cap', h1, _, _, h2⟩
          · simp at h2
          · exact ⟨g, off, cap', h1, fun j x hj => HG.out.cell (h2 j x hj)⟩
        injection he' with he1 _ he2
        subst he1 he2
        have hcx := hc4 k x hx
        have hcy := hc4' k y hy
        have HX := Lib.hid hx
        have HY := Lib.hid hy
        clear hc4 hc4' hx hy HV HU h2
        by_cases hxy : x = y
        · have hb1 : (x.toList == y.toList) = true := by rw [beq_string]; exact decide_eq_true hxy
          have HN := Lib.hid (eq_take HX.out HY.out HE.out hxy)
          clear hxy HE
          go_upto_region 6 with fail
          go_quiet (fail)
          rename_i nq
          have hg5 : Gr wr (wr.drewN nq) := below_drewN (Below.refl _ _) nq
          generalize wr.drewN nq = w5 at hg5 ⊢
          have HG5 := Lib.hid (HG.out.trans hg5)
          clear hg5 hcx hcy
          go_wp2_with fail
          go_roundw
          case rel => exact ⟨k + 1, by omega, by go_num, HG5, HN⟩
          case measure => simp [intOf]; omega
        · have hb1 : (x.toList == y.toList) = false := by rw [beq_string]; exact decide_eq_false hxy
          have HR : Hid (decide (a = b) = false) := Lib.hid (decide_eq_false (fun e => by
            have h1 := HX.out
            rw [e, HY.out] at h1
            exact hxy (Option.some.inj h1).symm))
          clear hxy HE
          go_upto_region 6 with fail
          go_quiet (fail)
          rename_i nq
          have hg5 : Gr wr (wr.drewN nq) := below_drewN (Below.refl _ _) nq
          generalize wr.drewN nq = w5 at hg5 ⊢
          have HG5 := Lib.hid (HG.out.trans hg5)
          clear hg5 hcx hcy
          go_wp2_with fail
          go_ret
          exact ⟨by rw [HR.out]; rfl, HG5.out⟩
      · have ht1 : decide (k < a.length) = false := decide_eq_false h1
        have HR : Hid (decide (a = b) = true) := Lib.hid (decide_eq_true (by
          have h := HE.out
          rw [List.take_of_length_le (by omega), List.take_of_length_le (by have := HL.out; omega)] at h
          exact h))
        clear HE
        go_wp2_with fail
        go_ret
        exact ⟨by rw [HR.out]; rfl, HG.out⟩
  · have hne : ((a.length : Int) != (b.length : Int)) = true := by rw [bne_iff_ne]; omega
    have HR : Hid (decide (a = b) = false) := Lib.hid (decide_eq_false (fun e => hl (by rw [e])))
    clear hl
    go_enter Tryd.func17, Tryd.ntmps17
    go_wp2_with fail
    go_ret
    exact ⟨by rw [HR.out]; rfl, Gr.refl _⟩
end Go.Proofs.YtbkhkpcnclhoiaaDoor
