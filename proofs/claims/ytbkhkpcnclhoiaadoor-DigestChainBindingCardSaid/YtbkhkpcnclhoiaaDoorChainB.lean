/- The walk of the statement DigestChainBinding: it answers true. -/
import Derived.Test.YtbkhkpcnclhoiaaDoorHeadsW
namespace Go.Proofs.YtbkhkpcnclhoiaaDoor
open Go.RowKit Go.Shelf
attribute [local go_sem] gAt gUpon
attribute [local simp] Gr.refl Gr.alloc

theorem zero_bytes2 {w : World} {b : Nat} (h : w.heap[b]? = some (.cells (List.replicate 32 (Value.int .u8 0)).toArray 5 (0, 0))) : Go.Lib.Bytes w b 0 zero32 := by
  intro i hi
  have hi32 : i < 32 := by rw [zero32_size] at hi; exact hi
  have h' : w.heap[b]? = some (.cells (Array.replicate 32 (Value.int .u8 0)) 5 (0, 0)) := h
  rw [cell_of_row _ _ _ _ _ _ h']
  have hz : ∀ h, (zero32[i]'h) = 0 := by
    intro h
    have h2 : ∀ j : _root_.Fin 32, (zero32[j.1]'(by rw [zero32_size]; exact j.2)) = 0 := by decide
    exact h2 ⟨i, hi32⟩
  simp only [hz]
  simp [hi32]
theorem headD_all : ∀ (n : Nat) (l : List ByteArray), l.length = n → (∀ x ∈ l, x.size ≤ 60) → ∀ y ∈ (headD l).1, y.size ≤ 1000 := by
  intro n
  induction n with
  | zero => intro l h _ y hy; have : l = [] := List.eq_nil_of_length_eq_zero h; subst this; cases hy
  | succ n ih =>
    intro l h hs y hy
    rcases snoc_cases l with rfl | ⟨q, x, rfl⟩
    · simp at h
    · rw [headD_snoc] at hy
      rcases List.mem_cons.1 hy with rfl | hy
      · have h1 := headD_size q
        have h2 := hs x (by simp)
        have : (cat 2 [(headD q).2, x]).size = 1 + ((headD q).2.size + x.size) := by rw [cat_size]; simp
        omega
      · exact ih q (by simpa using h) (fun z hz => hs z (by simp [hz])) y hy

set_option maxRecDepth 100000 in
set_option maxHeartbeats 4000000 in
theorem chainb_any (v0 : Value) (l0 : List ByteArray) (v1 : Value) (l1 : List ByteArray) (w : World) (h0 : StrsIn v0 l0 w) (h1 : StrsIn v1 l1 w) (hT : Tab w) :
    Calls Tryd.prog 10 #[v0, v1] w fun e w' => e = .returned (.bool true) ∧ Gr w w' := by
  have H0 := Lib.hid h0
  have H1 := Lib.hid h1
  have HT := Lib.hid hT
  clear h0 h1 hT
  go_enter Tryd.func10, Tryd.ntmps10
  go_wp2_with fail
  refine (sane_any w HT.out).mono ?_
  rintro e w1 ⟨rfl, hg1⟩
  go_wp2_with fail
  refine (few_in v0 l0 20 w1 (H0.out.gr hg1) (by decide)).mono ?_
  rintro e w2 ⟨u0, rfl, ho0, hg2, -⟩
  go_wp2_with fail
  refine (few_in v1 l1 20 w2 (H1.out.gr (hg1.trans hg2)) (by decide)).mono ?_
  rintro e w3 ⟨u1, rfl, ho1, hg3, -⟩
  have hP := fewD_len l0 20
  have hQ := fewD_len l1 20
  have HPs := Lib.hid (fewD_all l0 20)
  have HQs := Lib.hid (fewD_all l1 20)
  have HP := Lib.hid (ho0.strs.2.gr hg3)
  have HQ := Lib.hid ho1.strs.2
  generalize fewD l0 20 = P at hP HP HPs
  generalize fewD l1 20 = Q at hQ HQ HQs
  have hP20 : P.length ≤ 20 := by omega
  have hQ20 : Q.length ≤ 20 := by omega
  have HG3 := Lib.hid (hg1.trans (hg2.trans hg3))
  clear ho0 ho1 hg1 hg2 hg3 hP hQ H0 H1
  have HA := Lib.hid (headD_all P.length P rfl HPs.out)
  have HB := Lib.hid (headD_all Q.length Q rfl HQs.out)
  have HLA := Lib.hid (headD_len P.length P rfl)
  have HLB := Lib.hid (headD_len Q.length Q rfl)
  have hsA := headD_size P
  have hsB := headD_size Q
  have HSame : Hid (P = Q → headD P = headD Q) := Lib.hid (fun e => by rw [e])
  have HFound := Lib.hid (chain_binding (P.length + Q.length) P Q (Nat.le_refl _))
  have HW1 := Lib.hid (heads_any u0 P w3 HP.out (by omega) HPs.out (HT.out.gr HG3.out))
  have HW2 : Hid (∀ w', Gr w3 w' → Calls Tryd.prog 35 #[u1] w' fun e w'' => ∃ u, e = .returned (.tuple #[u, .string (headD Q).2]) ∧ Own w'.heap.size 1 u Q.length (sC (headD Q).1) w'' ∧ Gr w' w'') :=
    Lib.hid (fun w' hg => (heads_any u1 Q w' (HQ.out.gr hg) (by omega) HQs.out (HT.out.gr (HG3.out.trans hg))).mono (fun e w'' ⟨u, h1, h2, h3, _⟩ => ⟨u, h1, h2, h3⟩))
  generalize headD P = RA at *
  generalize headD Q = RB at *
  obtain ⟨X, h⟩ := RA
  obtain ⟨Y, k⟩ := RB
  dsimp only at HA HB HLA HLB hsA hsB HFound HW1 HW2
  go_wp2_with fail
  refine HW1.out.mono ?_
  rintro e w4 ⟨x, rfl, hox, hg4, -⟩
  have HW2' := Lib.hid (HW2.out w4 hg4)
  have HOX := Lib.hid hox
  have HG4 := Lib.hid hg4
  clear hox hg4 HW1 HW2
  go_wp2_with fail
  refine HW2'.out.mono ?_
  rintro e w5 ⟨y, rfl, hoy, hg5⟩
  have HX5 := Lib.hid (HOX.out.gr hg5)
  have HY5 := Lib.hid hoy
  have HG5 := Lib.hid (HG4.out.trans hg5)
  have HSa := Lib.hid (same_any u0 u1 P Q w5 (HP.out.gr (HG4.out.trans hg5)) (HQ.out.gr (HG4.out.trans hg5)) (by omega) (by omega))
  obtain ⟨px, cx, rfl⟩ := HOX.out.slice
  obtain ⟨py, cy, rfl⟩ := hoy.slice
  clear hoy hg5 HOX HG4 HW2'
  obtain ⟨p0, c0, rfl⟩ := HP.out.shape
  go_wp2_with fail
  refine HSa.out.mono ?_
  rintro e w6 ⟨rfl, hg6⟩
  have HX6 := Lib.hid (HX5.out.gr hg6)
  have HY6 := Lib.hid (HY5.out.gr hg6)
  have HGw := Lib.hid (HG3.out.trans (HG5.out.trans hg6))
  have ht32 : ((h.size : Int) != 32) = false := by rw [bne_eq_false_iff_eq]; omega
  clear hg6 HX5 HY5 HSa HG5
  by_cases hPQ : P = Q
  · have hd : decide (P = Q) = true := decide_eq_true hPQ
    have he := HSame.out hPQ
    injection he with he1 he2
    have hb : (h.toList == k.toList) = true := by rw [he2]; simp
    have hb2 : (!(h.toList == k.toList)) = false := by rw [hb]; rfl
    clear hPQ HFound he1 he2 HSame
    go_wp2_with fail
    go_ret
    exact ⟨rfl, HGw.out⟩
  · have hd : decide (P = Q) = false := decide_eq_false hPQ
    by_cases hhk : h = k
    · have hb : (h.toList == k.toList) = true := by rw [hhk]; simp
      have HF := Lib.hid (HFound.out hPQ hhk)
      clear hPQ hhk HFound HSame
      by_cases heq : P.length = Q.length
      · have hcoll : collD X Y = true := by
          rcases HF.out with h1 | ⟨h1, _⟩
          · exact h1
          · exact (h1 (by rw [HLA.out, HLB.out, heq])).elim
        have ht2 : decide (P.length < Q.length) = false := decide_eq_false (by omega)
        have ht3 : ((P.length : Int) != (Q.length : Int)) = false := by rw [bne_eq_false_iff_eq]; omega
        have HCo : Hid (∀ w', Gr w6 w' → Calls Tryd.prog 24 #[.slice px P.length cx, .slice py Q.length cy] w' fun e w'' => e = .returned (.bool true) ∧ Gr w' w'') := Lib.hid (fun w' hg => by
          have h := coll_any _ _ X Y w' (HX6.out.gr hg).strs.2 (HY6.out.gr hg).strs.2 (by rw [HLA.out]; omega) (by rw [HLB.out]; omega) HA.out HB.out (HT.out.gr (HGw.out.trans hg))
          rw [hcoll] at h; exact h)
        clear heq hcoll HF
        go_upto_region 14 with fail
        go_quiet (fail)
        rename_i nq
        have hg5 : Gr w6 (w6.drewN nq) := below_drewN (Below.refl _ _) nq
        generalize w6.drewN nq = w7 at hg5 ⊢
        have HC7 := Lib.hid (HCo.out w7 hg5)
        have HG7 := Lib.hid (HGw.out.trans hg5)
        clear hg5 HCo
        go_wp2_with fail
        refine HC7.out.mono ?_
        rintro e w8 ⟨rfl, hg8⟩
        have HG8 := Lib.hid (HG7.out.trans hg8)
        clear hg8 HC7
        go_wp2_with fail
        go_ret
        exact ⟨rfl, HG8.out⟩
      have ht3 : ((P.length : Int) != (Q.length : Int)) = true := by rw [bne_iff_ne]; omega
      by_cases hlt : P.length < Q.length
      · have ht2 : decide (P.length < Q.length) = true := decide_eq_true hlt
        obtain ⟨z, hz, hzs⟩ : ∃ z, Y[P.length]? = some z ∧ (collD X Y = false → sha z = zero32) := by
          have hl2 : P.length < Y.length := by rw [HLB.out]; omega
          refine ⟨_, List.getElem?_eq_getElem hl2, fun hc => ?_⟩
          rcases HF.out with h1 | ⟨_, z, h2, h3⟩
          · rw [hc] at h1; cases h1
          · rw [HLA.out, HLB.out, Nat.min_eq_left (by omega), longer, if_pos (by rw [HLA.out, HLB.out]; exact hlt), List.getElem?_eq_getElem hl2] at h2
            rw [Option.some.inj h2]; exact h3
        have HZs := Lib.hid hzs
        obtain ⟨g, off, cl, hcl, _, _, _⟩ := HY6.out.shape (by omega)
        injection hcl with e1 _ e2
        subst e1 e2
        have hcell := HY6.out.cell _ _ (show (sC Y)[P.length]? = some (.string z) by rw [sC, List.getElem?_map, hz]; rfl)
        have hzz : z.size ≤ 1000 := HB.out z (List.mem_of_getElem? hz)
        have hS1 : ∀ n : GrS w6.drew, n.w.cell? ⟨g, off + P.length, none⟩ = some (.string z) := fun n => n.h.cell (w := w6.drew) hcell
        have HSum : Hid (∀ w1, Gr w6.drew w1 → Calls Tryd.prog 27 #[.string z] w1 fun e w' => e = .returned (.string (sha z)) ∧ Gr w1 w') := Lib.hid (fun w1 hg => sum_any z w1 (by omega) (HT.out.gr (HGw.out.trans (Gr.trans (Gr.drew w6) hg))))
        have hmn : min (P.length : Int) (Q.length : Int) = (P.length : Int) := by omega
        clear hz hzs hcell HF
        generalize sha z = zz at *
        go_upto_region 14 with fail
        refine region_grow 18 89 (by kernel_rfl) rfl (by kernel_rfl) rfl rfl ?_
        simp only [List.take_succ_cons, List.take_zero, List.drop_succ_cons, List.drop_zero]
        refine seg 11 rfl rfl rfl rfl ?_
        simp only [List.take_succ_cons, List.take_zero, List.drop_succ_cons, List.drop_zero]
        repeat (go_big_quiet_step (fail))
        refine wpQuiet_nil ?_
        intro _
        refine grow_det (v := .int .i64 (P.length : Int)) rfl rfl rfl rfl rfl ?_ ?_
        · intro w1 hG
          go_simp
        simp only [Act.put, List.setIfInBounds_toArray, List.set_cons_zero, List.set_cons_succ]
        refine seg 2 rfl rfl rfl rfl ?_
        simp only [List.take_succ_cons, List.take_zero, List.drop_succ_cons, List.drop_zero]
        repeat (go_big_quiet_step (fail))
        refine wpQuiet_nil ?_
        intro _
        refine grow_det (v := .string zz) rfl rfl rfl rfl rfl ?_ ?_
        · intro w1 hG
          go_simp
          refine (HSum.out w1 hG).mono ?_
          rintro e w' ⟨rfl, hb⟩
          exact ⟨rfl, hb⟩
        simp only [Act.put, List.setIfInBounds_toArray, List.set_cons_zero, List.set_cons_succ]
        refine grow_open (NewRow (List.replicate 32 (.int .u8 0)) 5) rfl rfl rfl rfl (stb_row _ _) (fun w1 hG => ?_) ?_
        · have hmk := make32 w1
          go_simp
          exact newRow_alloc w1 (List.replicate 32 (.int .u8 0)) _ rfl
        refine grow_det1 76 (v := .string zero32) rfl (by decide) rfl rfl rfl (by decide) rfl rfl rfl ?_ ?_
        · rintro w1 u hG ⟨b1, rfl, hb1⟩
          have hconv := Go.Lib.run_convert_whole (P := Tryd.prog) w1 45 5 9 Tryd.underlying45 Tryd.underlying5 Tryd.underlying9 b1 0 zero32 (zero_bytes2 hb1) 32
          rw [zero32_size] at hconv
          rw [List.length_replicate]
          go_simp
        simp only [Act.put, List.setIfInBounds_toArray, List.set_cons_zero, List.set_cons_succ]
        obtain ⟨bz, hbz⟩ : ∃ bz, (zz.toList == zero32.toList) = bz := ⟨_, rfl⟩
        have HBz : Hid (collD X Y = false → bz = true) := Lib.hid (fun h => by rw [← hbz, beq_string]; exact decide_eq_true (HZs.out h))
        clear HZs
        refine seg 1 rfl rfl rfl rfl ?_
        simp only [List.take_succ_cons, List.take_zero, List.drop_succ_cons, List.drop_zero]
        repeat (go_big_quiet_step (fail))
        refine wpQuiet_nil ?_
        intro _
        refine grow_end1 rfl rfl (by decide) ?_
        rintro w7 u hG ⟨b1, rfl, hb1⟩
        simp only [Act.put, List.setIfInBounds_toArray, List.set_cons_zero, List.set_cons_succ]
        have hg7 : Gr w6 w7 := Gr.trans (Gr.drew w6) hG
        have HCo := Lib.hid (coll_any _ _ X Y w7 (HX6.out.gr hg7).strs.2 (HY6.out.gr hg7).strs.2 (by rw [HLA.out]; omega) (by rw [HLB.out]; omega) HA.out HB.out (HT.out.gr (HGw.out.trans hg7)))
        have HG7 := Lib.hid (HGw.out.trans hg7)
        clear hg7 hG hb1 hbz hS1 HSum
        generalize collD X Y = cb at HCo HBz
        go_wp2_with fail
        refine HCo.out.mono ?_
        rintro e w8 ⟨rfl, hg8⟩
        have HG8 := Lib.hid (HG7.out.trans hg8)
        clear hg8 HCo
        cases cb with
        | true =>
          go_wp2_with fail
          go_ret
          exact ⟨rfl, HG8.out⟩
        | false =>
          obtain rfl := HBz.out rfl
          go_wp2_with fail
          go_ret
          exact ⟨rfl, HG8.out⟩
      · have ht2 : decide (P.length < Q.length) = false := decide_eq_false hlt
        obtain ⟨z, hz, hzs⟩ : ∃ z, X[Q.length]? = some z ∧ (collD X Y = false → sha z = zero32) := by
          have hl2 : Q.length < X.length := by rw [HLA.out]; omega
          refine ⟨_, List.getElem?_eq_getElem hl2, fun hc => ?_⟩
          rcases HF.out with h1 | ⟨_, z, h2, h3⟩
          · rw [hc] at h1; cases h1
          · rw [HLA.out, HLB.out, Nat.min_eq_right (by omega), longer, if_neg (by rw [HLA.out, HLB.out]; omega), List.getElem?_eq_getElem hl2] at h2
            rw [Option.some.inj h2]; exact h3
        have HZs := Lib.hid hzs
        obtain ⟨g, off, cl, hcl, _, _, _⟩ := HX6.out.shape (by omega)
        injection hcl with e1 _ e2
        subst e1 e2
        have hcell := HX6.out.cell _ _ (show (sC X)[Q.length]? = some (.string z) by rw [sC, List.getElem?_map, hz]; rfl)
        have hzz : z.size ≤ 1000 := HA.out z (List.mem_of_getElem? hz)
        have hS1 : ∀ n : GrS w6.drew, n.w.cell? ⟨g, off + Q.length, none⟩ = some (.string z) := fun n => n.h.cell (w := w6.drew) hcell
        have HSum : Hid (∀ w1, Gr w6.drew w1 → Calls Tryd.prog 27 #[.string z] w1 fun e w' => e = .returned (.string (sha z)) ∧ Gr w1 w') := Lib.hid (fun w1 hg => sum_any z w1 (by omega) (HT.out.gr (HGw.out.trans (Gr.trans (Gr.drew w6) hg))))
        have hmn : min (P.length : Int) (Q.length : Int) = (Q.length : Int) := by omega
        clear hz hzs hcell HF
        generalize sha z = zz at *
        go_upto_region 14 with fail
        refine region_grow 18 89 (by kernel_rfl) rfl (by kernel_rfl) rfl rfl ?_
        simp only [List.take_succ_cons, List.take_zero, List.drop_succ_cons, List.drop_zero]
        refine seg 11 rfl rfl rfl rfl ?_
        simp only [List.take_succ_cons, List.take_zero, List.drop_succ_cons, List.drop_zero]
        repeat (go_big_quiet_step (fail))
        refine wpQuiet_nil ?_
        intro _
        refine grow_det (v := .int .i64 (Q.length : Int)) rfl rfl rfl rfl rfl ?_ ?_
        · intro w1 hG
          go_simp
        simp only [Act.put, List.setIfInBounds_toArray, List.set_cons_zero, List.set_cons_succ]
        refine seg 2 rfl rfl rfl rfl ?_
        simp only [List.take_succ_cons, List.take_zero, List.drop_succ_cons, List.drop_zero]
        repeat (go_big_quiet_step (fail))
        refine wpQuiet_nil ?_
        intro _
        refine grow_det (v := .string zz) rfl rfl rfl rfl rfl ?_ ?_
        · intro w1 hG
          go_simp
          refine (HSum.out w1 hG).mono ?_
          rintro e w' ⟨rfl, hb⟩
          exact ⟨rfl, hb⟩
        simp only [Act.put, List.setIfInBounds_toArray, List.set_cons_zero, List.set_cons_succ]
        refine grow_open (NewRow (List.replicate 32 (.int .u8 0)) 5) rfl rfl rfl rfl (stb_row _ _) (fun w1 hG => ?_) ?_
        · have hmk := make32 w1
          go_simp
          exact newRow_alloc w1 (List.replicate 32 (.int .u8 0)) _ rfl
        refine grow_det1 76 (v := .string zero32) rfl (by decide) rfl rfl rfl (by decide) rfl rfl rfl ?_ ?_
        · rintro w1 u hG ⟨b1, rfl, hb1⟩
          have hconv := Go.Lib.run_convert_whole (P := Tryd.prog) w1 45 5 9 Tryd.underlying45 Tryd.underlying5 Tryd.underlying9 b1 0 zero32 (zero_bytes2 hb1) 32
          rw [zero32_size] at hconv
          rw [List.length_replicate]
          go_simp
        simp only [Act.put, List.setIfInBounds_toArray, List.set_cons_zero, List.set_cons_succ]
        obtain ⟨bz, hbz⟩ : ∃ bz, (zz.toList == zero32.toList) = bz := ⟨_, rfl⟩
        have HBz : Hid (collD X Y = false → bz = true) := Lib.hid (fun h => by rw [← hbz, beq_string]; exact decide_eq_true (HZs.out h))
        clear HZs
        refine seg 1 rfl rfl rfl rfl ?_
        simp only [List.take_succ_cons, List.take_zero, List.drop_succ_cons, List.drop_zero]
        repeat (go_big_quiet_step (fail))
        refine wpQuiet_nil ?_
        intro _
        refine grow_end1 rfl rfl (by decide) ?_
        rintro w7 u hG ⟨b1, rfl, hb1⟩
        simp only [Act.put, List.setIfInBounds_toArray, List.set_cons_zero, List.set_cons_succ]
        have hg7 : Gr w6 w7 := Gr.trans (Gr.drew w6) hG
        have HCo := Lib.hid (coll_any _ _ X Y w7 (HX6.out.gr hg7).strs.2 (HY6.out.gr hg7).strs.2 (by rw [HLA.out]; omega) (by rw [HLB.out]; omega) HA.out HB.out (HT.out.gr (HGw.out.trans hg7)))
        have HG7 := Lib.hid (HGw.out.trans hg7)
        clear hg7 hG hb1 hbz hS1 HSum
        generalize collD X Y = cb at HCo HBz
        go_wp2_with fail
        refine HCo.out.mono ?_
        rintro e w8 ⟨rfl, hg8⟩
        have HG8 := Lib.hid (HG7.out.trans hg8)
        clear hg8 HCo
        cases cb with
        | true =>
          go_wp2_with fail
          go_ret
          exact ⟨rfl, HG8.out⟩
        | false =>
          obtain rfl := HBz.out rfl
          go_wp2_with fail
          go_ret
          exact ⟨rfl, HG8.out⟩
    · have hb : (h.toList == k.toList) = false := by rw [beq_string]; exact decide_eq_false hhk
      clear hPQ HFound hhk HSame
      go_wp2_with fail
      go_ret
      exact ⟨rfl, HGw.out⟩
end Go.Proofs.YtbkhkpcnclhoiaaDoor
