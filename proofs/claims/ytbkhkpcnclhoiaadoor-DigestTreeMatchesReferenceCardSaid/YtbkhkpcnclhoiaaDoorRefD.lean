/- Contracts of the reference tree: Root, Proof, part, Extension. -/
import Derived.Test.YtbkhkpcnclhoiaaDoorExt
import Derived.Test.YtbkhkpcnclhoiaaDoorRefC
namespace Go.Proofs.YtbkhkpcnclhoiaaDoor
open Go.RowKit Go.Shelf
attribute [local go_sem] gAt gUpon
attribute [local simp] Gr.refl Gr.alloc

set_option maxRecDepth 100000 in
set_option maxHeartbeats 1000000 in
theorem rootR_aux : ∀ (N : Nat) (v : Value) (l : List ByteArray) (w : World), l.length ≤ N → l.length ≤ 100000 → StrsAt v l w → (∀ x ∈ l, x.size ≤ 140737488353000) →
    Calls Tryd.prog 19 #[v] w fun e w' => e = .returned (.string (rootD l)) ∧ Gr w w' := by
  intro N
  induction N with
  | zero =>
    intro v l w hN _ hv _
    obtain ⟨p, cap, rfl⟩ := hv.shape
    have hl : l = [] := List.eq_nil_of_length_eq_zero (by omega)
    subst hl
    have HS := Lib.hid (sumR_any ⟨#[]⟩ w (by decide))
    clear hv hN
    go_enter Tryd.func19, Tryd.ntmps19
    go_wp2_with fail
    refine HS.out.mono ?_
    rintro e w1 ⟨rfl, hg⟩
    have HG := Lib.hid hg
    clear hg HS
    go_wp2_with fail
    go_ret
    exact ⟨rfl, HG.out⟩
  | succ N ih =>
    intro v l w hN hb hv hs
    by_cases h0 : l.length = 0
    · obtain ⟨p, cap, rfl⟩ := hv.shape
      have hl : l = [] := List.eq_nil_of_length_eq_zero h0
      subst hl
      have HS := Lib.hid (sumR_any ⟨#[]⟩ w (by decide))
      clear hv hN ih h0
      go_enter Tryd.func19, Tryd.ntmps19
      go_wp2_with fail
      refine HS.out.mono ?_
      rintro e w1 ⟨rfl, hg⟩
      have HG := Lib.hid hg
      clear hg HS
      go_wp2_with fail
      go_ret
      exact ⟨rfl, HG.out⟩
    rcases hv with ⟨_, rfl⟩ | ⟨g, o, c, rfl, hc1, hc2, hcell⟩
    · exact (h0 rfl).elim
    by_cases h1 : l.length = 1
    · obtain ⟨x, rfl⟩ := List.length_eq_one_iff.1 h1
      have hcx : w.cell? ⟨g, o, none⟩ = some (.string x) := hcell 0 x rfl
      have HL := Lib.hid (leafR_any x w (hs x (by simp)))
      have HR := Lib.hid (rootD_one x)
      clear hcell ih h0 h1 hN hs hb
      go_enter Tryd.func19, Tryd.ntmps19
      go_wp2_with fail
      refine HL.out.mono ?_
      rintro e w1 ⟨rfl, hg⟩
      have HG := Lib.hid hg
      clear hg HL
      go_wp2_with fail
      go_ret
      exact ⟨by rw [HR.out]; rfl, HG.out⟩
    · have hls := lp_spec l.length (by omega)
      have hlp := hls.1
      have hlp0 := lp_pos l.length
      have hcut := StrsAt.cut (p := some ⟨g, o, none⟩) (cap := c) (l := l) (w := w) (.inr ⟨g, o, c, rfl, hc1, hc2, hcell⟩) (by omega)
      obtain ⟨g', o', e', -, -, -, hcut⟩ := hcut
      injection e' with e'
      injection e' with e1 e2
      subst e1 e2
      have HCut := Lib.hid (hcut (lp l.length) (by omega))
      have HLf := Lib.hid (fun w => refLeft_any l.length (by omega) (by omega) w)
      have HA1 : Hid (∀ w', Gr w.drew w' → Calls Tryd.prog 19 #[.slice (some ⟨g, o, none⟩) (lp l.length) c] w' fun e w'' => e = .returned (.string (rootD (l.take (lp l.length)))) ∧ Gr w' w'') := Lib.hid (fun w' hg =>
        ih _ (l.take (lp l.length)) w' (by rw [List.length_take]; omega) (by rw [List.length_take]; omega) (HCut.out.1.gr (Gr.trans (Gr.drew w) hg)) (fun x hx => hs x (List.mem_of_mem_take hx)))
      have HA2 : Hid (∀ w', Gr w.drew w' → Calls Tryd.prog 19 #[.slice (some ⟨g, o + lp l.length, none⟩) (l.length - lp l.length) (c - lp l.length)] w' fun e w'' => e = .returned (.string (rootD (l.drop (lp l.length)))) ∧ Gr w' w'') := Lib.hid (fun w' hg =>
        ih _ (l.drop (lp l.length)) w' (by rw [List.length_drop]; omega) (by rw [List.length_drop]; omega) (HCut.out.2.gr (Gr.trans (Gr.drew w) hg)) (fun x hx => hs x (List.mem_of_mem_drop hx)))
      have HA3 : Hid (∀ w', Gr w.drew w' → Calls Tryd.prog 32 #[.string (rootD (l.take (lp l.length))), .string (rootD (l.drop (lp l.length)))] w' fun e w'' => e = .returned (.string (rootD l)) ∧ Gr w' w'') := Lib.hid (fun w' hg => by
        rw [rootD_split l (by omega)]; exact nodeR_any _ _ w' (by rw [rootD_size, rootD_size]; omega))
      have ht0 : ((l.length : Int) == 0) = false := by rw [beq_eq_false_iff_ne]; omega
      have ht1 : ((l.length : Int) == 1) = false := by rw [beq_eq_false_iff_ne]; omega
      clear hcut HCut hcell ih hs hls hN
      generalize rootD l = R at *
      generalize rootD (l.take (lp l.length)) = RA at *
      generalize rootD (l.drop (lp l.length)) = RB at *
      generalize lp l.length = K at *
      generalize l.length = n at *
      clear h0 h1
      go_enter Tryd.func19, Tryd.ntmps19
      go_wp2_with fail
      refine (HLf.out _).mono ?_
      rintro e w1 ⟨rfl, rfl⟩
      go_upto_region 6 with fail
      refine region_grow 9 27 (by kernel_rfl) rfl (by kernel_rfl) rfl rfl ?_
      simp only [List.take_succ_cons, List.take_zero, List.drop_succ_cons, List.drop_zero]
      refine seg 3 rfl rfl rfl rfl ?_
      simp only [List.take_succ_cons, List.take_zero, List.drop_succ_cons, List.drop_zero]
      repeat (go_big_quiet_step (fail))
      refine wpQuiet_nil ?_
      intro _
      refine grow_det (v := .string RA) rfl rfl rfl rfl rfl ?_ ?_
      · intro w1 hG
        go_simp
        refine (HA1.out w1 hG).mono ?_
        rintro e w' ⟨rfl, hb⟩
        exact ⟨rfl, hb⟩
      simp only [Act.put, List.setIfInBounds_toArray, List.set_cons_zero, List.set_cons_succ]
      refine seg 3 rfl rfl rfl rfl ?_
      simp only [List.take_succ_cons, List.take_zero, List.drop_succ_cons, List.drop_zero]
      repeat (go_big_quiet_step (fail))
      refine wpQuiet_nil ?_
      intro _
      refine grow_det (v := .string RB) rfl rfl rfl rfl rfl ?_ ?_
      · intro w1 hG
        go_simp
        refine (HA2.out w1 hG).mono ?_
        rintro e w' ⟨rfl, hb⟩
        exact ⟨rfl, hb⟩
      simp only [Act.put, List.setIfInBounds_toArray, List.set_cons_zero, List.set_cons_succ]
      refine grow_det (v := .string R) rfl rfl rfl rfl rfl ?_ ?_
      · intro w1 hG
        go_simp
        refine (HA3.out w1 hG).mono ?_
        rintro e w' ⟨rfl, hb⟩
        exact ⟨rfl, hb⟩
      simp only [Act.put, List.setIfInBounds_toArray, List.set_cons_zero, List.set_cons_succ]
      refine grow_end0 rfl rfl ?_
      intro w2 hG
      have HG : Hid (Gr w w2) := Lib.hid (Gr.trans (Gr.drew w) hG)
      clear hG HA1 HA2 HA3 HLf
      go_wp2_with fail
      go_ret
      exact ⟨rfl, HG.out⟩
theorem rootR_any (v : Value) (l : List ByteArray) (w : World) (hv : StrsAt v l w) (hl : l.length ≤ 100000) (hs : ∀ x ∈ l, x.size ≤ 140737488353000) :
    Calls Tryd.prog 19 #[v] w fun e w' => e = .returned (.string (rootD l)) ∧ Gr w w' := rootR_aux _ v l w (Nat.le_refl _) hl hv hs

/-- what Proof and part hand back -/
def OwnZ (B : Nat) (u : Value) (x : List ByteArray) (w : World) : Prop := Own B 1 u x.length (sC x) w
theorem OwnZ.gr {B : Nat} {u : Value} {x : List ByteArray} {w w' : World} (h : OwnZ B u x w) (hg : Gr w w') : OwnZ B u x w' := Own.gr h hg
theorem OwnZ.push {B : Nat} {u : Value} {x : List ByteArray} {y : ByteArray} {w : World} (h : Own B 1 u (x.length + 1) (sC x ++ [.string y]) w) : OwnZ B u (x ++ [y]) w := by
  unfold OwnZ
  rw [show sC x ++ [.string y] = sC (x ++ [y]) by simp [sC]] at h
  rw [List.length_append, List.length_singleton]; exact h

set_option maxRecDepth 100000 in
set_option maxHeartbeats 1000000 in
theorem proofR_aux : ∀ (N : Nat) (v : Value) (l : List ByteArray) (i : Nat) (w : World), l.length ≤ N → i < l.length → l.length ≤ 100000 → StrsAt v l w → (∀ x ∈ l, x.size ≤ 140737488353000) →
    Calls Tryd.prog 14 #[v, .int .i64 (i : Int)] w fun e w' => ∃ u, e = .returned (.tuple #[u, .int .i64 0]) ∧ OwnZ w.heap.size u (proofD l i) w' ∧ Gr w w' := by
  obtain ⟨i9, hi9, hz9, hsz9, hb9⟩ := info_parts info9
  intro N
  induction N with
  | zero => intro v l i w hN hi; omega
  | succ N ih =>
    intro v l i w hN hi hb hv hs
    have ht2 : decide (l.length ≤ i) = false := decide_eq_false (by omega)
    rcases hv with ⟨_, rfl⟩ | ⟨g, o, c, rfl, hc1, hc2, hcell⟩
    · cases hi
    by_cases h1 : l.length = 1
    · have HP := Lib.hid (proofD_one l i (by omega))
      have ht1 : ((l.length : Int) == 1) = true := by rw [beq_iff_eq]; omega
      have HO : Hid (OwnZ w.heap.size (.slice none 0 0) (proofD l i) w) := Lib.hid (by rw [HP.out]; exact Own.nil _ _ _)
      clear hcell ih h1 hN hs HP
      go_enter Tryd.func14, Tryd.ntmps14
      go_wp2_with fail
      go_ret2
      exact ⟨_, rfl, HO.out, Gr.refl _⟩
    · have hls := lp_spec l.length (by omega)
      have hlp := hls.1
      have hlp0 := lp_pos l.length
      have hcut := StrsAt.cut (p := some ⟨g, o, none⟩) (cap := c) (l := l) (w := w) (.inr ⟨g, o, c, rfl, hc1, hc2, hcell⟩) (by omega)
      obtain ⟨g', o', e', -, -, -, hcut⟩ := hcut
      injection e' with e'
      injection e' with e1 e2
      subst e1 e2
      have HCut := Lib.hid (hcut (lp l.length) (by omega))
      have HLf := Lib.hid (fun w => refLeft_any l.length (by omega) (by omega) w)
      have ht1 : ((l.length : Int) == 1) = false := by rw [beq_eq_false_iff_ne]; omega
      have hps := proofD_split l i (by omega)
      have hshort := proof_short 17 l i (by omega)
      by_cases hlt : i < lp l.length
      · rw [if_pos hlt] at hps
        have HPS := Lib.hid hps
        have HA1 := Lib.hid (ih _ (l.take (lp l.length)) i w (by rw [List.length_take]; omega) (by rw [List.length_take]; omega) (by rw [List.length_take]; omega) HCut.out.1 (fun x hx => hs x (List.mem_of_mem_take hx)))
        have HA2 : Hid (∀ w', Gr w w' → Calls Tryd.prog 19 #[.slice (some ⟨g, o + lp l.length, none⟩) (l.length - lp l.length) (c - lp l.length)] w' fun e w'' => e = .returned (.string (rootD (l.drop (lp l.length)))) ∧ Gr w' w'') := Lib.hid (fun w' hg =>
          rootR_any _ (l.drop (lp l.length)) w' (HCut.out.2.gr hg) (by rw [List.length_drop]; omega) (fun x hx => hs x (List.mem_of_mem_drop hx)))
        have hln : (proofD (l.take (lp l.length)) i).length ≤ 17 := by rw [hps, List.length_append, List.length_singleton] at hshort; omega
        clear hcut HCut hcell ih hs hls hN hps hshort
        generalize proofD l i = Pl at *
        generalize proofD (l.take (lp l.length)) i = X at *
        generalize rootD (l.drop (lp l.length)) = RB at *
        have hltd : decide (i < lp l.length) = true := decide_eq_true hlt
        have hltk : i < l.length := hi
        generalize lp l.length = K at *
        generalize l.length = n at *
        clear h1 hi
        go_enter Tryd.func14, Tryd.ntmps14
        go_wp2_with fail
        refine (HLf.out _).mono ?_
        rintro e w1 ⟨rfl, rfl⟩
        go_wp2_with fail
        refine HA1.out.mono ?_
        rintro e w2 ⟨u, rfl, hO, hg2⟩
        have HO2 := Lib.hid hO
        have HG2 := Lib.hid hg2
        clear hO hg2 HA1 HLf
        go_wp2_with fail
        refine (HA2.out _ HG2.out).mono ?_
        rintro e w3 ⟨rfl, hg3⟩
        have HO3 := Lib.hid (HO2.out.gr hg3)
        have HG3 := Lib.hid (HG2.out.trans hg3)
        clear hg3 HA2 HO2 HG2
        go_wp2_with ((with_reducible show wpList _ _ _ (⟨some 42, _, _, _, _, _⟩ :: _) _ _); refine wpList_append_Own rfl (.tmp 36) (.tmp 41) 22 rfl 9 i9 (.string ⟨#[]⟩) 1 16 Tryd.underlying22 hi9 hz9 hsz9 hb9 rfl (by decide) rfl (HO3.out.gr (Gr.alloc _ _)) ⟨w3.heap.size, 0, none⟩ 1 1 [.string RB] rfl rfl ?hnewsA ?h1cA (by decide) ?b1A ?b2A ?hBA ?_)
        case hnewsA => exact row_new _ _ _ rfl
        case h1cA => intro u hu; simp at hu; subst hu; rfl
        case b1A => unfold maxLen; omega
        case b2A => omega
        case hBA => have := HG3.out.size; simp; omega
        intro v4 w4 hown4 hchg4 _
        have HG4 : Hid (Gr w w4) := Lib.hid (gr_step HG3.out (Gr.alloc w3 _) hchg4 (fun g hg => Own.ge HO3.out hg))
        have HO4 : Hid (OwnZ w.heap.size v4 Pl w4) := Lib.hid (by rw [HPS.out]; exact OwnZ.push hown4)
        clear hown4 hchg4 HO3 HG3
        go_wp2_with fail
        go_ret2
        exact ⟨_, rfl, HO4.out, HG4.out⟩
      · rw [if_neg hlt] at hps
        have HPS := Lib.hid hps
        have HA1 := Lib.hid (ih _ (l.drop (lp l.length)) (i - lp l.length) w (by rw [List.length_drop]; omega) (by rw [List.length_drop]; omega) (by rw [List.length_drop]; omega) HCut.out.2 (fun x hx => hs x (List.mem_of_mem_drop hx)))
        rw [show ((i - lp l.length : Nat) : Int) = (i : Int) - (lp l.length : Int) by omega] at HA1
        have HA2 : Hid (∀ w', Gr w w' → Calls Tryd.prog 19 #[.slice (some ⟨g, o, none⟩) (lp l.length) c] w' fun e w'' => e = .returned (.string (rootD (l.take (lp l.length)))) ∧ Gr w' w'') := Lib.hid (fun w' hg => by
          have h := rootR_any _ (l.take (lp l.length)) w' (HCut.out.1.gr hg) (by rw [List.length_take]; omega) (fun x hx => hs x (List.mem_of_mem_take hx))
          exact h)
        have hln : (proofD (l.drop (lp l.length)) (i - lp l.length)).length ≤ 17 := by rw [hps, List.length_append, List.length_singleton] at hshort; omega
        clear hcut HCut hcell ih hs hls hN hps hshort
        generalize proofD l i = Pl at *
        generalize proofD (l.drop (lp l.length)) (i - lp l.length) = X at *
        generalize rootD (l.take (lp l.length)) = RB at *
        have hltd : decide (i < lp l.length) = false := decide_eq_false hlt
        have hltk : i < l.length := hi
        generalize lp l.length = K at *
        generalize l.length = n at *
        clear h1 hi
        go_enter Tryd.func14, Tryd.ntmps14
        go_wp2_with fail
        refine (HLf.out _).mono ?_
        rintro e w1 ⟨rfl, rfl⟩
        go_wp2_with fail
        refine HA1.out.mono ?_
        rintro e w2 ⟨u, rfl, hO, hg2⟩
        have HO2 := Lib.hid hO
        have HG2 := Lib.hid hg2
        clear hO hg2 HA1 HLf
        go_wp2_with fail
        refine (HA2.out _ HG2.out).mono ?_
        rintro e w3 ⟨rfl, hg3⟩
        have HO3 := Lib.hid (HO2.out.gr hg3)
        have HG3 := Lib.hid (HG2.out.trans hg3)
        clear hg3 HA2 HO2 HG2
        go_wp2_with ((with_reducible show wpList _ _ _ (⟨some 59, _, _, _, _, _⟩ :: _) _ _); refine wpList_append_Own rfl (.tmp 53) (.tmp 58) 22 rfl 9 i9 (.string ⟨#[]⟩) 1 16 Tryd.underlying22 hi9 hz9 hsz9 hb9 rfl (by decide) rfl (HO3.out.gr (Gr.alloc _ _)) ⟨w3.heap.size, 0, none⟩ 1 1 [.string RB] rfl rfl ?hnewsB ?h1cB (by decide) ?b1B ?b2B ?hBB ?_)
        case hnewsB => exact row_new _ _ _ rfl
        case h1cB => intro u hu; simp at hu; subst hu; rfl
        case b1B => unfold maxLen; omega
        case b2B => omega
        case hBB => have := HG3.out.size; simp; omega
        intro v4 w4 hown4 hchg4 _
        have HG4 : Hid (Gr w w4) := Lib.hid (gr_step HG3.out (Gr.alloc w3 _) hchg4 (fun g hg => Own.ge HO3.out hg))
        have HO4 : Hid (OwnZ w.heap.size v4 Pl w4) := Lib.hid (by rw [HPS.out]; exact OwnZ.push hown4)
        clear hown4 hchg4 HO3 HG3
        go_wp2_with fail
        go_ret2
        exact ⟨_, rfl, HO4.out, HG4.out⟩

theorem own_one (w : World) (x : ByteArray) : Own w.heap.size 1 (.slice (some ⟨w.heap.size, 0, none⟩) 1 1) 1 (sC [x]) (w.alloc (.cells #[.string x] 9)) := by
  have hrow := heap_alloc_new w (.cells #[.string x] 9)
  refine ⟨rfl, .inr ⟨_, 0, 1, rfl, Nat.le_refl _, Nat.le_refl _, by decide, fun j u hj => ?_, fun j hj => ?_⟩⟩
  · rw [cell_of_row _ _ _ _ _ _ hrow, Nat.zero_add]; simpa [sC] using hj
  · rw [cell_of_row _ _ _ _ _ _ hrow]
    exact ⟨by simp; omega, frozen_of_row _ _ _ _ _ hrow⟩
set_option maxRecDepth 100000 in
set_option maxHeartbeats 1000000 in
theorem partR_aux : ∀ (N : Nat) (v : Value) (l : List ByteArray) (m : Nat) (b : Bool) (w : World), l.length ≤ N → 0 < m → m ≤ l.length → l.length ≤ 100000 → StrsAt v l w → (∀ x ∈ l, x.size ≤ 140737488353000) →
    Calls Tryd.prog 40 #[v, .int .i64 (m : Int), .bool b] w fun e w' => ∃ u, e = .returned u ∧ OwnZ w.heap.size u (extD l m b) w' ∧ Gr w w' := by
  obtain ⟨i9, hi9, hz9, hsz9, hb9⟩ := info_parts info9
  intro N
  induction N with
  | zero => intro v l m b w hN hm; omega
  | succ N ih =>
    intro v l m b w hN hm0 hml hb hv hs
    by_cases hmn : l.length ≤ m
    · have hx := Lib.hid (extD_end l m b hmn)
      have ht1 : ((m : Int) == (l.length : Int)) = true := by rw [beq_iff_eq]; omega
      obtain ⟨p, cap, hp⟩ := hv.shape
      subst hp
      have HR := Lib.hid (rootR_any (.slice p l.length cap) l w hv hb hs)
      cases b with
      | true =>
        have HO : Hid (OwnZ w.heap.size (.slice none 0 0) (extD l m true) w) := Lib.hid (by rw [hx.out]; exact Own.nil _ _ _)
        clear hv hs ih hN hmn hml hx HR
        go_enter Tryd.func40, Tryd.ntmps40
        go_wp2_with fail
        go_ret
        exact ⟨_, rfl, HO.out, Gr.refl _⟩
      | false =>
        have HX : Hid (extD l m false = [rootD l]) := Lib.hid (by rw [hx.out]; rfl)
        clear hv hs ih hN hmn hml hx
        generalize rootD l = R at *
        go_enter Tryd.func40, Tryd.ntmps40
        go_wp2_with fail
        refine HR.out.mono ?_
        rintro e w1 ⟨rfl, hg⟩
        have HG : Hid (Gr w (w1.alloc (.cells #[.string R] 9))) := Lib.hid (hg.trans (Gr.alloc _ _))
        have HO : Hid (OwnZ w.heap.size (.slice (some ⟨w1.heap.size, 0, none⟩) 1 1) (extD l m false) (w1.alloc (.cells #[.string R] 9))) := Lib.hid (by
          rw [HX.out]; exact (own_one w1 R).mono hg.size)
        clear hg HR HX
        go_wp2_with fail
        go_ret
        exact ⟨_, rfl, HO.out, HG.out⟩
    · have hmn : m < l.length := by omega
      rcases hv with ⟨_, rfl⟩ | ⟨g, o, c, rfl, hc1, hc2, hcell⟩
      · simp at hmn
      have hls := lp_spec l.length (by omega)
      have hlp := hls.1
      have hlp0 := lp_pos l.length
      have hcut := StrsAt.cut (p := some ⟨g, o, none⟩) (cap := c) (l := l) (w := w) (.inr ⟨g, o, c, rfl, hc1, hc2, hcell⟩) (by omega)
      obtain ⟨g', o', e', -, -, -, hcut⟩ := hcut
      injection e' with e'
      injection e' with e1 e2
      subst e1 e2
      have HCut := Lib.hid (hcut (lp l.length) (by omega))
      have HLf := Lib.hid (fun w => refLeft_any l.length (by omega) (by omega) w)
      have ht1 : ((m : Int) == (l.length : Int)) = false := by rw [beq_eq_false_iff_ne]; omega
      by_cases hlt : m ≤ lp l.length
      · have hps := extD_low l m b hm0 hmn hlt
        have HPS := Lib.hid hps
        have hmb : (b = true → True) := fun _ => trivial
        have HA1 : Hid (∀ w', Gr w.drew w' → Calls Tryd.prog 40 #[.slice (some ⟨g, o, none⟩) (lp l.length) c, .int .i64 (m : Int), .bool b] w' fun e w'' => ∃ u, e = .returned u ∧ OwnZ w'.heap.size u (extD (l.take (lp l.length)) m b) w'' ∧ Gr w' w'') := Lib.hid (fun w' hg => by
          have h := ih _ (l.take (lp l.length)) m b w' (by rw [List.length_take]; omega) (by omega) (by rw [List.length_take]; omega) (by rw [List.length_take]; omega) (HCut.out.1.gr (Gr.trans (Gr.drew w) hg)) (fun x hx => hs x (List.mem_of_mem_take hx))
          exact h)
        have HA2 : Hid (∀ w', Gr w.drew w' → Calls Tryd.prog 19 #[.slice (some ⟨g, o + lp l.length, none⟩) (l.length - lp l.length) (c - lp l.length)] w' fun e w'' => e = .returned (.string (rootD (l.drop (lp l.length)))) ∧ Gr w' w'') := Lib.hid (fun w' hg =>
          rootR_any _ (l.drop (lp l.length)) w' (HCut.out.2.gr (Gr.trans (Gr.drew w) hg)) (by rw [List.length_drop]; omega) (fun x hx => hs x (List.mem_of_mem_drop hx)))
        have hshort := ext_short 17 l m b (by omega) (by omega)
        have hln : (extD (l.take (lp l.length)) m b).length ≤ 18 := by rw [hps, List.length_append, List.length_singleton] at hshort; omega
        clear hcut HCut hcell ih hs hls hN hps hshort
        generalize extD l m b = Pl at *
        generalize (extD (l.take (lp l.length)) m b) = X at *
        generalize rootD (l.drop (lp l.length)) = RB at *
        have hltd : decide (m ≤ lp l.length) = true := decide_eq_true hlt
        generalize lp l.length = K at *
        generalize l.length = n at *
        go_enter Tryd.func40, Tryd.ntmps40
        go_wp2_with fail
        refine (HLf.out _).mono ?_
        rintro e w1 ⟨rfl, rfl⟩
        go_upto_region 7 with fail
        refine region_grow 11 47 (by kernel_rfl) rfl (by kernel_rfl) rfl rfl ?_
        simp only [List.take_succ_cons, List.take_zero, List.drop_succ_cons, List.drop_zero]
        refine seg 5 rfl rfl rfl rfl ?_
        simp only [List.take_succ_cons, List.take_zero, List.drop_succ_cons, List.drop_zero]
        repeat (go_big_quiet_step (fail))
        refine wpQuiet_nil ?_
        intro _
        refine grow_open (fun u W => OwnZ w.heap.size u X W) rfl rfl rfl rfl (fun u W W' hg h => h.gr hg) (fun w1 hG => ?_) ?_
        · go_simp
          refine (HA1.out w1 hG).mono ?_
          rintro e w' ⟨u, rfl, hO, hb⟩
          exact ⟨u, rfl, hb, Own.mono hO hG.size⟩
        refine seg 3 rfl rfl rfl rfl ?_
        simp only [List.take_succ_cons, List.take_zero, List.drop_succ_cons, List.drop_zero]
        repeat (go_big_quiet_step (fail))
        refine wpQuiet_nil ?_
        intro _
        refine grow_det (v := .string RB) rfl rfl rfl rfl rfl ?_ ?_
        · intro w1 hG
          go_simp
          refine (HA2.out w1 hG).mono ?_
          rintro e w' ⟨rfl, hb⟩
          exact ⟨rfl, hb⟩
        simp only [Act.put, List.setIfInBounds_toArray, List.set_cons_zero, List.set_cons_succ]
        refine grow_open (NewRow [.string RB] 9) rfl rfl rfl rfl (stb_row _ _) (fun w1 hG => ?_) ?_
        · go_simp
          exact newRow_alloc _ _ _ rfl
        refine grow_end2 rfl rfl (by decide) (by decide) rfl ?_
        rintro w3 u u2 hG3 hO3 ⟨b3, rfl, hb3⟩
        simp only [Act.put, List.setIfInBounds_toArray, List.set_cons_zero, List.set_cons_succ]
        have HG3 : Hid (Gr w w3) := Lib.hid (Gr.trans (Gr.drew w) hG3)
        have HO3 := Lib.hid hO3
        clear hG3 hO3 HA1 HA2 HLf
        go_wp2_with ((with_reducible show wpList _ _ _ (⟨some 33, _, _, _, _, _⟩ :: _) _ _); refine wpList_append_Own rfl (.tmp 27) (.tmp 32) 22 rfl 9 i9 (.string ⟨#[]⟩) 1 16 Tryd.underlying22 hi9 hz9 hsz9 hb9 rfl (by decide) rfl HO3.out ⟨b3, 0, none⟩ 1 1 [.string RB] rfl rfl ?hnewsC ?h1cC (by decide) ?b1C ?b2C ?hBC ?_)
        case hnewsC => exact fun j u hj => match j, hj with
          | 0, hj => one_row hb3 0 u hj
        case h1cC => rfl
        case b1C => unfold maxLen; omega
        case b2C => omega
        case hBC => exact HG3.out.size
        intro v4 w4 hown4 hchg4 _
        have HG4 : Hid (Gr w w4) := Lib.hid (gr_step HG3.out (Gr.refl w3) hchg4 (fun g hg => Own.ge HO3.out hg))
        have HO4 : Hid (OwnZ w.heap.size v4 Pl w4) := Lib.hid (by rw [HPS.out]; exact OwnZ.push hown4)
        clear hown4 hchg4 HO3 HG3 hb3
        go_wp2_with fail
        go_ret
        exact ⟨_, rfl, HO4.out, HG4.out⟩
      · have hps := extD_high l m b hmn (by omega)
        have HPS := Lib.hid hps
        have hmb : (b = true → True) := fun _ => trivial
        have HA1 : Hid (∀ w', Gr w.drew w' → Calls Tryd.prog 40 #[.slice (some ⟨g, o + lp l.length, none⟩) (l.length - lp l.length) (c - lp l.length), .int .i64 ((m : Int) - (lp l.length : Int)), .bool false] w' fun e w'' => ∃ u, e = .returned u ∧ OwnZ w'.heap.size u (extD (l.drop (lp l.length)) (m - lp l.length) false) w'' ∧ Gr w' w'') := Lib.hid (fun w' hg => by
          have h := ih _ (l.drop (lp l.length)) (m - lp l.length) false w' (by rw [List.length_drop]; omega) (by omega) (by rw [List.length_drop]; omega) (by rw [List.length_drop]; omega) (HCut.out.2.gr (Gr.trans (Gr.drew w) hg)) (fun x hx => hs x (List.mem_of_mem_drop hx))
          rw [show ((m - lp l.length : Nat) : Int) = (m : Int) - (lp l.length : Int) by omega] at h
          exact h)
        have HA2 : Hid (∀ w', Gr w.drew w' → Calls Tryd.prog 19 #[.slice (some ⟨g, o, none⟩) (lp l.length) c] w' fun e w'' => e = .returned (.string (rootD (l.take (lp l.length)))) ∧ Gr w' w'') := Lib.hid (fun w' hg =>
          rootR_any _ (l.take (lp l.length)) w' (HCut.out.1.gr (Gr.trans (Gr.drew w) hg)) (by rw [List.length_take]; omega) (fun x hx => hs x (List.mem_of_mem_take hx)))
        have hshort := ext_short 17 l m b (by omega) (by omega)
        have hln : (extD (l.drop (lp l.length)) (m - lp l.length) false).length ≤ 18 := by rw [hps, List.length_append, List.length_singleton] at hshort; omega
        clear hcut HCut hcell ih hs hls hN hps hshort
        generalize extD l m b = Pl at *
        generalize (extD (l.drop (lp l.length)) (m - lp l.length) false) = X at *
        generalize rootD (l.take (lp l.length)) = RB at *
        have hltd : decide (m ≤ lp l.length) = false := decide_eq_false hlt
        generalize lp l.length = K at *
        generalize l.length = n at *
        go_enter Tryd.func40, Tryd.ntmps40
        go_wp2_with fail
        refine (HLf.out _).mono ?_
        rintro e w1 ⟨rfl, rfl⟩
        go_upto_region 8 with fail
        refine region_grow 12 47 (by kernel_rfl) rfl (by kernel_rfl) rfl rfl ?_
        simp only [List.take_succ_cons, List.take_zero, List.drop_succ_cons, List.drop_zero]
        refine seg 6 rfl rfl rfl rfl ?_
        simp only [List.take_succ_cons, List.take_zero, List.drop_succ_cons, List.drop_zero]
        repeat (go_big_quiet_step (fail))
        refine wpQuiet_nil ?_
        intro _
        refine grow_open (fun u W => OwnZ w.heap.size u X W) rfl rfl rfl rfl (fun u W W' hg h => h.gr hg) (fun w1 hG => ?_) ?_
        · go_simp
          refine (HA1.out w1 hG).mono ?_
          rintro e w' ⟨u, rfl, hO, hb⟩
          exact ⟨u, rfl, hb, Own.mono hO hG.size⟩
        refine seg 3 rfl rfl rfl rfl ?_
        simp only [List.take_succ_cons, List.take_zero, List.drop_succ_cons, List.drop_zero]
        repeat (go_big_quiet_step (fail))
        refine wpQuiet_nil ?_
        intro _
        refine grow_det (v := .string RB) rfl rfl rfl rfl rfl ?_ ?_
        · intro w1 hG
          go_simp
          refine (HA2.out w1 hG).mono ?_
          rintro e w' ⟨rfl, hb⟩
          exact ⟨rfl, hb⟩
        simp only [Act.put, List.setIfInBounds_toArray, List.set_cons_zero, List.set_cons_succ]
        refine grow_open (NewRow [.string RB] 9) rfl rfl rfl rfl (stb_row _ _) (fun w1 hG => ?_) ?_
        · go_simp
          exact newRow_alloc _ _ _ rfl
        refine grow_end2 rfl rfl (by decide) (by decide) rfl ?_
        rintro w3 u u2 hG3 hO3 ⟨b3, rfl, hb3⟩
        simp only [Act.put, List.setIfInBounds_toArray, List.set_cons_zero, List.set_cons_succ]
        have HG3 : Hid (Gr w w3) := Lib.hid (Gr.trans (Gr.drew w) hG3)
        have HO3 := Lib.hid hO3
        clear hG3 hO3 HA1 HA2 HLf
        go_wp2_with ((with_reducible show wpList _ _ _ (⟨some 46, _, _, _, _, _⟩ :: _) _ _); refine wpList_append_Own rfl (.tmp 40) (.tmp 45) 22 rfl 9 i9 (.string ⟨#[]⟩) 1 16 Tryd.underlying22 hi9 hz9 hsz9 hb9 rfl (by decide) rfl HO3.out ⟨b3, 0, none⟩ 1 1 [.string RB] rfl rfl ?hnewsD ?h1cD (by decide) ?b1D ?b2D ?hBD ?_)
        case hnewsD => exact fun j u hj => match j, hj with
          | 0, hj => one_row hb3 0 u hj
        case h1cD => rfl
        case b1D => unfold maxLen; omega
        case b2D => omega
        case hBD => exact HG3.out.size
        intro v4 w4 hown4 hchg4 _
        have HG4 : Hid (Gr w w4) := Lib.hid (gr_step HG3.out (Gr.refl w3) hchg4 (fun g hg => Own.ge HO3.out hg))
        have HO4 : Hid (OwnZ w.heap.size v4 Pl w4) := Lib.hid (by rw [HPS.out]; exact OwnZ.push hown4)
        clear hown4 hchg4 HO3 HG3 hb3
        go_wp2_with fail
        go_ret
        exact ⟨_, rfl, HO4.out, HG4.out⟩

theorem proofR_any (v : Value) (l : List ByteArray) (i : Int) (w : World) (hv : StrsAt v l w) (hl : l.length ≤ 100000) (hs : ∀ x ∈ l, x.size ≤ 140737488353000) :
    Calls Tryd.prog 14 #[v, .int .i64 i] w fun e w' => ∃ u, e = .returned (.tuple #[u, .int .i64 (if i < 0 ∨ (l.length : Int) ≤ i then 2 else 0)]) ∧
      OwnZ w.heap.size u (if i < 0 ∨ (l.length : Int) ≤ i then [] else proofD l i.toNat) w' ∧ Gr w w' := by
  by_cases h : i < 0 ∨ (l.length : Int) ≤ i
  · rw [if_pos h, if_pos h]
    obtain ⟨p, cap, rfl⟩ := hv.shape
    clear hv
    by_cases h0 : i < 0
    · have ht : decide (i < 0) = true := decide_eq_true h0
      clear h
      go_enter Tryd.func14, Tryd.ntmps14
      go_wp2_with fail
      go_ret2
      exact ⟨_, rfl, Own.nil _ _ _, Gr.refl _⟩
    · have ht : decide (i < 0) = false := decide_eq_false h0
      have ht2 : decide ((l.length : Int) ≤ i) = true := decide_eq_true (by omega)
      clear h
      go_enter Tryd.func14, Tryd.ntmps14
      go_wp2_with fail
      go_ret2
      exact ⟨_, rfl, Own.nil _ _ _, Gr.refl _⟩
  · rw [if_neg h, if_neg h]
    obtain ⟨j, rfl⟩ := Int.eq_ofNat_of_zero_le (show 0 ≤ i by omega)
    exact proofR_aux _ v l j w (Nat.le_refl _) (by omega) hl hv hs
theorem extR_any (v : Value) (l : List ByteArray) (m : Int) (w : World) (hv : StrsAt v l w) (hl : l.length ≤ 100000) (hs : ∀ x ∈ l, x.size ≤ 140737488353000) :
    Calls Tryd.prog 16 #[v, .int .i64 m] w fun e w' => ∃ u, e = .returned (.tuple #[u, .int .i64 (if m < 0 ∨ (l.length : Int) < m then 2 else 0)]) ∧
      OwnZ w.heap.size u (if m ≤ 0 ∨ (l.length : Int) < m then [] else extD l m.toNat true) w' ∧ Gr w w' := by
  by_cases h : m < 0 ∨ (l.length : Int) < m
  · rw [if_pos h, if_pos (by omega)]
    obtain ⟨p, cap, rfl⟩ := hv.shape
    clear hv
    by_cases h0 : m < 0
    · have ht : decide (m < 0) = true := decide_eq_true h0
      clear h
      go_enter Tryd.func16, Tryd.ntmps16
      go_wp2_with fail
      go_ret2
      exact ⟨_, rfl, Own.nil _ _ _, Gr.refl _⟩
    · have ht : decide (m < 0) = false := decide_eq_false h0
      have ht2 : decide ((l.length : Int) < m) = true := decide_eq_true (by omega)
      clear h
      go_enter Tryd.func16, Tryd.ntmps16
      go_wp2_with fail
      go_ret2
      exact ⟨_, rfl, Own.nil _ _ _, Gr.refl _⟩
  · rw [if_neg h]
    obtain ⟨j, rfl⟩ := Int.eq_ofNat_of_zero_le (show 0 ≤ m by omega)
    have ht2 : decide (l.length < j) = false := decide_eq_false (by omega)
    by_cases h0 : j = 0
    · subst h0
      obtain ⟨p, cap, rfl⟩ := hv.shape
      clear hv h
      rw [if_pos (by omega)]
      go_enter Tryd.func16, Tryd.ntmps16
      go_wp2_with fail
      go_ret2
      exact ⟨_, rfl, Own.nil _ _ _, Gr.refl _⟩
    · have ht1 : ((j : Int) == 0) = false := by rw [beq_eq_false_iff_ne]; omega
      rw [if_neg (by omega)]
      have HP := Lib.hid (partR_aux _ v l j true w (Nat.le_refl _) (by omega) (by omega) hl hv hs)
      obtain ⟨p, cap, rfl⟩ := hv.shape
      clear hv hs h
      go_enter Tryd.func16, Tryd.ntmps16
      go_wp2_with fail
      refine HP.out.mono ?_
      rintro e w1 ⟨u, rfl, hO, hg⟩
      have HO := Lib.hid hO
      have HG := Lib.hid hg
      clear hO hg HP
      go_wp2_with fail
      go_ret2
      exact ⟨_, rfl, HO.out, HG.out⟩
end Go.Proofs.YtbkhkpcnclhoiaaDoor
