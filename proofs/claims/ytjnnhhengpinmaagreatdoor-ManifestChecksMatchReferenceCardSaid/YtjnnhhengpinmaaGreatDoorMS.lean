/- The reference's list of the strings that are hashed for the root of a list. -/
import Derived.Test.YtjnnhhengpinmaaGreatDoorGenA
import Derived.Test.YtjnnhhengpinmaaGreatDoorHitA
namespace Go.Proofs.YtjnnhhengpinmaaGreatDoor
section
open Go Go.RowKit Go.Shelf
attribute [local go_sem] gAt gUpon
attribute [local simp] Gr.refl Gr.alloc

theorem hashD_len1 : ∀ (n : Nat) (l : List ByteArray), l.length = n → 1 ≤ n → (hashD l).length + 1 = 2 * n := by
  intro n
  induction n using Nat.strongRecOn with
  | _ n ih =>
    intro l hl hn
    by_cases h1 : n = 1
    · obtain ⟨x, rfl⟩ := List.length_eq_one_iff.1 (hl.trans h1)
      rw [hashD_one, h1]; rfl
    · have h2 : 2 ≤ l.length := by omega
      have hs := lp_spec l.length h2
      have hp := lp_pos l.length
      rw [hashD_split l h2]
      have e1 := ih (lp l.length) (by omega) (l.take (lp l.length)) (by rw [List.length_take]; omega) hp
      have e2 := ih (l.length - lp l.length) (by omega) (l.drop (lp l.length)) List.length_drop (by omega)
      simp only [List.length_append, List.length_singleton]
      omega
theorem hashD_len (l : List ByteArray) : 0 < (hashD l).length ∧ (hashD l).length ≤ 2 * l.length + 1 := by
  by_cases h : l.length = 0
  · rw [List.eq_nil_of_length_eq_zero h, hashD_nil]; simp
  · have := hashD_len1 _ l rfl (by omega)
    omega
/-- a list of strings that the call made -/
def OwnL (B : Nat) (L : List ByteArray) (v : Value) (w : World) : Prop := Own B 1 v L.length (sC L) w
theorem OwnL.gr {B : Nat} {L : List ByteArray} {v : Value} {w w' : World} (h : OwnL B L v w) (hg : Gr w w') : OwnL B L v w' := Own.gr h hg
theorem OwnL.stb (B : Nat) (L : List ByteArray) : Stb (OwnL B L) := fun _ _ _ hg h => OwnL.gr h hg
theorem OwnL.mono {B B' : Nat} {L : List ByteArray} {v : Value} {w : World} (h : OwnL B L v w) (hB : B' ≤ B) : OwnL B' L v w := Own.mono h hB
theorem OwnL.join {B n : Nat} {L M : List ByteArray} {v : Value} {w : World} (h : Own B 1 v n (sC L ++ sC M) w) (hn : n = L.length + M.length) : OwnL B (L ++ M) v w := by
  unfold OwnL
  subst hn
  rw [show sC (L ++ M) = sC L ++ sC M by simp [sC], List.length_append]; exact h
theorem OwnL.strs {B : Nat} {L : List ByteArray} {v : Value} {w : World} (h : OwnL B L v w) : StrsAt v L w := by
  rcases h.2 with ⟨h1, h0⟩ | ⟨g, off, cap, h1, _, h3, h4, h5, _⟩
  · exact .inl ⟨h1, List.eq_nil_of_length_eq_zero h0⟩
  · exact .inr ⟨g, off, cap, h1, h3, h4, fun j x hj => h5 j _ (by simp [sC, hj])⟩
theorem strs_new (w : World) (L : List ByteArray) (hl : L.length ≤ maxLen) : OwnL w.heap.size L (.slice (some ⟨w.heap.size, 0, none⟩) L.length L.length) (w.alloc (.cells (sC L).toArray 9)) := by
  have hrow := heap_alloc_new w (.cells (sC L).toArray 9)
  refine ⟨by simp [sC], .inr ⟨_, 0, _, rfl, Nat.le_refl _, Nat.le_refl _, hl, fun j u hj => ?_, fun j hj => ?_⟩⟩
  · rw [cell_of_row _ _ _ _ _ _ hrow, Nat.zero_add]; simpa using hj
  · rw [cell_of_row _ _ _ _ _ _ hrow]
    exact ⟨by simp [sC] at hj ⊢; omega, frozen_of_row _ _ _ _ _ hrow⟩
theorem sC_one (L : List ByteArray) : ∀ u ∈ sC L, u.oneCell' = true := by
  intro u hu
  obtain ⟨x, _, rfl⟩ := List.mem_map.1 hu
  rfl

set_option maxRecDepth 100000 in
set_option maxHeartbeats 1000000 in
theorem hashedR_aux : ∀ (N : Nat) (v : Value) (l : List ByteArray) (w : World), l.length ≤ N → l.length ≤ 1000 → StrsAt v l w → (∀ x ∈ l, x.size ≤ 100000) →
    Calls Tryz.prog 75 #[v] w fun e w' => ∃ u, e = .returned u ∧ OwnL w.heap.size (hashD l) u w' ∧ Gr w w' := by
  obtain ⟨iS, hi, hz0, hz1, hz2⟩ := info_parts infoStr
  have HI := Lib.hid hi
  have HI0 := Lib.hid hz0
  have HI1 := Lib.hid hz1
  have HI2 := Lib.hid hz2
  clear hi hz0 hz1 hz2
  intro N
  have nilc : ∀ (v : Value) (w : World), StrsAt v [] w → Calls Tryz.prog 75 #[v] w fun e w' => ∃ u, e = .returned u ∧ OwnL w.heap.size (hashD []) u w' ∧ Gr w w' := by
    intro v w hv
    obtain ⟨p, cap, rfl⟩ := hv.shape
    have HO := Lib.hid (strs_new w [⟨#[]⟩] (by decide))
    clear hv
    go_enter Tryz.func75, Tryz.ntmps75
    go_wp2_with fail
    go_ret
    exact ⟨_, rfl, HO.out, Gr.alloc _ _⟩
  induction N with
  | zero =>
    intro v l w hN _ hv _
    have hl : l = [] := List.eq_nil_of_length_eq_zero (by omega)
    subst hl
    exact nilc v w hv
  | succ N ih =>
    intro v l w hN hb hv hs
    by_cases h0 : l.length = 0
    · have hl : l = [] := List.eq_nil_of_length_eq_zero h0
      subst hl
      exact nilc v w hv
    clear nilc
    rcases hv with ⟨_, rfl⟩ | ⟨g, o, c, rfl, hc1, hc2, hcell⟩
    · exact (h0 rfl).elim
    by_cases h1 : l.length = 1
    · obtain ⟨x, rfl⟩ := List.length_eq_one_iff.1 h1
      have hcx : w.cell? ⟨g, o, none⟩ = some (.string x) := hcell 0 x rfl
      have hxs := hs x (by simp)
      have HR := Lib.hid (hashD_one x)
      have HO := Lib.hid (strs_new w [cat 0 [x]] (by simp [maxLen]))
      have hadd : ∀ w1, (Op.stringOp .add (⟨#[0]⟩ : ByteArray) x).run Tryz.prog w1 = .ok (.string (cat 0 [x])) w1 := fun w1 => by
        rw [run_string_add_sum, cat_add1r]; rw [show (⟨#[0]⟩ : ByteArray).size = 1 from rfl]; omega
      clear hcell ih h0 h1 hN hs hb hxs
      generalize cat 0 [x] = X at hadd HR HO
      go_enter Tryz.func75, Tryz.ntmps75
      go_wp2_with fail
      go_ret
      exact ⟨_, rfl, by rw [HR.out]; exact HO.out, Gr.alloc _ _⟩
    · have hls := lp_spec l.length (by omega)
      have hlp := hls.1
      have hlp0 := lp_pos l.length
      have hcut := StrsAt.cut (p := some ⟨g, o, none⟩) (cap := c) (l := l) (w := w) (.inr ⟨g, o, c, rfl, hc1, hc2, hcell⟩) (by omega)
      obtain ⟨g', o', e', -, -, -, hcut⟩ := hcut
      injection e' with e'
      injection e' with e1 e2
      subst e1 e2
      have HCut := Lib.hid (hcut (lp l.length) (by omega))
      have HLf := Lib.hid (fun w => refLeft_any l.length (by omega) (by omega) w)
      have lt1 : (l.take (lp l.length)).length = lp l.length := by rw [List.length_take]; omega
      have lt2 : (l.drop (lp l.length)).length = l.length - lp l.length := List.length_drop
      have HA1 : Hid (∀ w', Gr w w' → Calls Tryz.prog 75 #[.slice (some ⟨g, o, none⟩) (lp l.length) c] w' fun e w'' => ∃ u, e = .returned u ∧ OwnL w'.heap.size (hashD (l.take (lp l.length))) u w'' ∧ Gr w' w'') := Lib.hid (fun w' hg =>
        ih _ (l.take (lp l.length)) w' (by omega) (by omega) (HCut.out.1.gr hg) (fun x hx => hs x (List.mem_of_mem_take hx)))
      have HA2 : Hid (∀ w', Gr w w' → Calls Tryz.prog 75 #[.slice (some ⟨g, o + lp l.length, none⟩) (l.length - lp l.length) (c - lp l.length)] w' fun e w'' => ∃ u, e = .returned u ∧ OwnL w'.heap.size (hashD (l.drop (lp l.length))) u w'' ∧ Gr w' w'') := Lib.hid (fun w' hg =>
        ih _ (l.drop (lp l.length)) w' (by omega) (by omega) (HCut.out.2.gr hg) (fun x hx => hs x (List.mem_of_mem_drop hx)))
      have HB1 : Hid (∀ w', Gr w w' → Calls Tryz.prog 57 #[.slice (some ⟨g, o, none⟩) (lp l.length) c] w' fun e w'' => e = .returned (.string (rootD (l.take (lp l.length)))) ∧ Gr w' w'') := Lib.hid (fun w' hg => by
        have h := rootR_any _ (l.take (lp l.length)) w' (HCut.out.1.gr hg) (by omega) (fun x hx => Nat.le_trans (hs x (List.mem_of_mem_take hx)) (by decide))
        exact h)
      have HB2 : Hid (∀ w', Gr w w' → Calls Tryz.prog 57 #[.slice (some ⟨g, o + lp l.length, none⟩) (l.length - lp l.length) (c - lp l.length)] w' fun e w'' => e = .returned (.string (rootD (l.drop (lp l.length)))) ∧ Gr w' w'') := Lib.hid (fun w' hg => by
        have h := rootR_any _ (l.drop (lp l.length)) w' (HCut.out.2.gr hg) (by omega) (fun x hx => Nat.le_trans (hs x (List.mem_of_mem_drop hx)) (by decide))
        exact h)
      have HSp := Lib.hid (hashD_split l (by omega))
      obtain ⟨lA0, lA1⟩ := hashD_len (l.take (lp l.length))
      obtain ⟨lB0, lB1⟩ := hashD_len (l.drop (lp l.length))
      rw [lt1] at lA1
      rw [lt2] at lB1
      have hsz1 := rootD_size (l.take (lp l.length))
      have hsz2 := rootD_size (l.drop (lp l.length))
      have hadd1 : ∀ w1, (Op.stringOp .add (⟨#[1]⟩ : ByteArray) (rootD (l.take (lp l.length)))).run Tryz.prog w1 = .ok (.string (⟨#[1]⟩ ++ rootD (l.take (lp l.length)))) w1 := fun w1 => by
        rw [run_string_add_sum]; rw [show (⟨#[1]⟩ : ByteArray).size = 1 from rfl]; omega
      have hadd2 : ∀ w1, (Op.stringOp .add ((⟨#[1]⟩ : ByteArray) ++ rootD (l.take (lp l.length))) (rootD (l.drop (lp l.length)))).run Tryz.prog w1 = .ok (.string (cat 1 [rootD (l.take (lp l.length)), rootD (l.drop (lp l.length))])) w1 := fun w1 => by
        rw [run_string_add_sum, cat_add2r]
        rw [ByteArray.size_append, show (⟨#[1]⟩ : ByteArray).size = 1 from rfl]; omega
      have ht0 : ((l.length : Int) == 0) = false := by rw [beq_eq_false_iff_ne]; omega
      have ht1 : ((l.length : Int) == 1) = false := by rw [beq_eq_false_iff_ne]; omega
      clear hcut HCut hcell ih hs hls hN hsz1 hsz2 lt1 lt2
      generalize cat 1 [rootD (l.take (lp l.length)), rootD (l.drop (lp l.length))] = XN at *
      generalize (⟨#[1]⟩ : ByteArray) ++ rootD (l.take (lp l.length)) = X1 at *
      generalize rootD (l.take (lp l.length)) = RA at *
      generalize rootD (l.drop (lp l.length)) = RB at *
      generalize hashD (l.take (lp l.length)) = LA at *
      generalize hashD (l.drop (lp l.length)) = LB at *
      generalize hashD l = LX at *
      generalize lp l.length = K at *
      generalize l.length = n at *
      clear h0 h1
      go_enter Tryz.func75, Tryz.ntmps75
      go_wp2_with fail
      refine (HLf.out _).mono ?_
      rintro e w1 ⟨rfl, rfl⟩
      clear HLf
      go_upto_region 6 with fail
      refine region_grow 8 42 (by kernel_rfl) rfl (by kernel_rfl) rfl rfl ?_
      simp only [List.take_succ_cons, List.take_zero, List.drop_succ_cons, List.drop_zero]
      refine seg 3 rfl rfl rfl rfl ?_
      simp only [List.take_succ_cons, List.take_zero, List.drop_succ_cons, List.drop_zero]
      repeat (go_big_quiet_step (fail))
      refine wpQuiet_nil ?_
      intro _
      refine grow_open (OwnL w.heap.size LA) rfl rfl rfl rfl (OwnL.stb _ _) (fun w1 hG => ?_) ?_
      · go_simp
        refine (HA1.out w1 (Gr.trans (Gr.drew w) hG)).mono ?_
        rintro e w' ⟨u, rfl, ho, hb⟩
        exact ⟨u, rfl, hb, ho.mono (Gr.trans (Gr.drew w) hG).size⟩
      refine seg 3 rfl rfl rfl rfl ?_
      simp only [List.take_succ_cons, List.take_zero, List.drop_succ_cons, List.drop_zero]
      repeat (go_big_quiet_step (fail))
      refine wpQuiet_nil ?_
      intro _
      refine grow_open (OwnL w.heap.size LB) rfl rfl rfl rfl (OwnL.stb _ _) (fun w1 hG => ?_) ?_
      · go_simp
        refine (HA2.out w1 (Gr.trans (Gr.drew w) hG)).mono ?_
        rintro e w' ⟨u, rfl, ho, hb⟩
        exact ⟨u, rfl, hb, ho.mono (Gr.trans (Gr.drew w) hG).size⟩
      refine grow_end2 rfl rfl (by decide) (by decide) rfl ?_
      rintro w2 u1 u2 hG2 ho1 ho2
      simp only [Act.put, List.setIfInBounds_toArray, List.set_cons_zero, List.set_cons_succ]
      obtain ⟨g2, o2, c2, rfl, hg2, hcb1, hcb2⟩ := ho2.shape lB0
      have HO1 := Lib.hid ho1
      have HO2 := Lib.hid ho2
      have HG2 := Lib.hid ((Gr.drew w).trans hG2)
      clear hG2 ho1 ho2 HA1 HA2
      go_wp2_with ((with_reducible show wpList _ _ _ (⟨some 28, _, _, _, _, _⟩ :: _) _ _); refine wpList_append_Own rfl (.tmp 23) (.tmp 27) 25 rfl 9 iS (.string ⟨#[]⟩) 1 16 Tryz.underlying25 HI.out HI0.out HI1.out HI2.out rfl (by decide) rfl HO1.out ⟨g2, o2, none⟩ LB.length c2 (sC LB) rfl ?hm ?hc ?h1 lB0 ?b1 ?b2 ?hB ?_)
      case hm => simp [sC]
      case hc => exact fun j u hj => Own.cell HO2.out j u hj
      case h1 => exact sC_one LB
      case b1 => unfold maxLen; omega
      case b2 => omega
      case hB => exact HG2.out.size
      intro v28 w28 hown hchg _
      have HG3 : Hid (Gr w w28) := Lib.hid (gr_step HG2.out (Gr.refl _) hchg (fun g hg => Own.ge HO1.out hg))
      have HO3 : Hid (OwnL w.heap.size (LA ++ LB) v28 w28) := Lib.hid (OwnL.join hown rfl)
      have hl3 : (LA ++ LB).length ≤ 2 * n + 2 := by rw [List.length_append]; omega
      clear hown hchg HO1 HO2 HG2
      generalize LA ++ LB = LC at HSp HO3 hl3
      go_upto_region 7 with fail
      refine region_grow 12 42 (by kernel_rfl) rfl (by kernel_rfl) rfl rfl ?_
      simp only [List.take_succ_cons, List.take_zero, List.drop_succ_cons, List.drop_zero]
      refine seg 4 rfl rfl rfl rfl ?_
      simp only [List.take_succ_cons, List.take_zero, List.drop_succ_cons, List.drop_zero]
      repeat (go_big_quiet_step (fail))
      refine wpQuiet_nil ?_
      intro _
      refine grow_det (v := .string RA) rfl rfl rfl rfl rfl ?_ ?_
      · intro w1 hG
        go_simp
        refine (HB1.out w1 (HG3.out.trans (Gr.trans (Gr.drew w28) hG))).mono ?_
        rintro e w' ⟨rfl, hb⟩
        exact ⟨rfl, hb⟩
      simp only [Act.put, List.setIfInBounds_toArray, List.set_cons_zero, List.set_cons_succ]
      refine seg 4 rfl rfl rfl rfl ?_
      simp only [List.take_succ_cons, List.take_zero, List.drop_succ_cons, List.drop_zero]
      repeat (go_big_quiet_step (fail))
      refine wpQuiet_nil ?_
      intro _
      refine grow_det (v := .string RB) rfl rfl rfl rfl rfl ?_ ?_
      · intro w1 hG
        go_simp
        refine (HB2.out w1 (HG3.out.trans (Gr.trans (Gr.drew w28) hG))).mono ?_
        rintro e w' ⟨rfl, hb⟩
        exact ⟨rfl, hb⟩
      simp only [Act.put, List.setIfInBounds_toArray, List.set_cons_zero, List.set_cons_succ]
      refine seg 1 rfl rfl rfl rfl ?_
      simp only [List.take_succ_cons, List.take_zero, List.drop_succ_cons, List.drop_zero]
      repeat (go_big_quiet_step (fail))
      refine wpQuiet_nil ?_
      intro _
      refine grow_open (NewRow [.string XN] 9) rfl rfl rfl rfl (stb_row _ _) (fun w1 hG => ?_) ?_
      · go_simp
        exact newRow_alloc _ _ _ rfl
      refine grow_end1 rfl rfl (by decide) ?_
      rintro w8 u hG8 ⟨b2, rfl, hb2⟩
      simp only [Act.put, List.setIfInBounds_toArray, List.set_cons_zero, List.set_cons_succ]
      have hg78 : Gr w28 w8 := Gr.trans (Gr.drew w28) hG8
      have HO8 := Lib.hid (HO3.out.gr hg78)
      have HG8 := Lib.hid (HG3.out.trans hg78)
      have HR2 := Lib.hid hb2
      clear hG8 hb2 hg78 HO3 HG3 HB1 HB2 hadd1 hadd2
      go_wp2_with ((with_reducible show wpList _ _ _ (⟨some 41, _, _, _, _, _⟩ :: _) _ _); refine wpList_append_Own rfl (.tmp 29) (.tmp 40) 25 rfl 9 iS (.string ⟨#[]⟩) 1 16 Tryz.underlying25 HI.out HI0.out HI1.out HI2.out rfl (by decide) rfl HO8.out ⟨b2, 0, none⟩ 1 1 [.string XN] rfl rfl ?hcZ ?h1Z (by decide) ?b1Z ?b2Z ?hBZ ?_)
      case hcZ =>
        intro j u hj
        have h := one_row HR2.out j u hj
        rw [Addr.add_mid, Nat.zero_add] at h
        exact h
      case h1Z => first | rfl | exact sC_one [XN]
      case b1Z => unfold maxLen; omega
      case b2Z => omega
      case hBZ => exact HG8.out.size
      intro v41 w41 hown hchg _
      have HG9 : Hid (Gr w w41) := Lib.hid (gr_step HG8.out (Gr.refl _) hchg (fun g hg => Own.ge HO8.out hg))
      have HO9 : Hid (OwnL w.heap.size LX v41 w41) := Lib.hid (by rw [HSp.out]; exact OwnL.join (M := [XN]) hown rfl)
      clear hown hchg HO8 HG8 HR2
      go_wp2_with fail
      go_ret
      exact ⟨_, rfl, HO9.out, HG9.out⟩
theorem hashedR_any (v : Value) (l : List ByteArray) (w : World) (hl : l.length ≤ 1000) (hv : StrsAt v l w) (hs : ∀ x ∈ l, x.size ≤ 100000) :
    Calls Tryz.prog 75 #[v] w fun e w' => ∃ u, e = .returned u ∧ OwnL w.heap.size (hashD l) u w' ∧ Gr w w' := hashedR_aux _ v l w (Nat.le_refl _) hl hv hs
end
section
open Go Go.RowKit Go.Shelf
attribute [local go_sem] gAt gUpon
attribute [local simp] Gr.refl Gr.alloc

def hitRow (x : ByteArray) (B : List ByteArray) : Bool := B.any fun b => decide (x ≠ b) && decide (sha x = sha b)
theorem hit_step {a b : List ByteArray} {i : Nat} {x : ByteArray} (h : a[i]? = some x) : hitD (a.drop i) b = (hitRow x b || hitD (a.drop (i + 1)) b) := by
  obtain ⟨h1, rfl⟩ := List.getElem?_eq_some_iff.1 h
  rw [List.drop_eq_getElem_cons h1]
  rfl
theorem row_step {x : ByteArray} {b : List ByteArray} {k : Nat} {y : ByteArray} (h : b[k]? = some y) : hitRow x (b.drop k) = ((decide (x ≠ y) && decide (sha x = sha y)) || hitRow x (b.drop (k + 1))) := by
  obtain ⟨h1, rfl⟩ := List.getElem?_eq_some_iff.1 h
  rw [List.drop_eq_getElem_cons h1]
  rfl
theorem hit_end {a b : List ByteArray} {i : Nat} (h : a.length ≤ i) : hitD (a.drop i) b = false := by
  rw [List.drop_eq_nil_of_le h]; rfl
theorem row_end {x : ByteArray} {b : List ByteArray} {i : Nat} (h : b.length ≤ i) : hitRow x (b.drop i) = false := by
  rw [List.drop_eq_nil_of_le h]; rfl

set_option maxRecDepth 100000 in
set_option maxHeartbeats 4000000 in
theorem collided_any (v u : Value) (a b : List ByteArray) (w : World) (hv : StrsAt v a w) (hu : StrsAt u b w) (ha : a.length ≤ 100000) (hb : b.length ≤ 100000) (hsa : ∀ x ∈ a, x.size ≤ 1000000) (hsb : ∀ x ∈ b, x.size ≤ 1000000) :
    Calls Tryz.prog 38 #[v, u] w fun e w' => e = .returned (.bool (hitD a b)) ∧ Gr w w' := by
  obtain ⟨iS, hi, hz0, hz1, hz2⟩ := info_parts infoStr
  have HI := Lib.hid hi
  have HI0 := Lib.hid hz0
  have HI1 := Lib.hid hz1
  have HI2 := Lib.hid hz2
  clear hi hz0 hz1 hz2
  obtain ⟨p, cap, rfl⟩ := hv.shape
  obtain ⟨p', cap', rfl⟩ := hu.shape
  have HV := Lib.hid hv
  have HU := Lib.hid hu
  have HSA := Lib.hid hsa
  have HSB := Lib.hid hsb
  clear hv hu hsa hsb
  go_enter Tryz.func38, Tryz.ntmps38
  go_wp2_with fail
  go_loopw [5, 6] (fun v5 v6 W => ∃ (k : Nat) (V : Value), k ≤ b.length ∧ v6 = .int .i64 (k : Int) ∧ V = v5 ∧ Hid (OwnL w.heap.size ((b.take k).map sha) V W) ∧ Hid (Gr w W)) (fun _ v6 _ => b.length - (intOf v6).toNat)
  case atStart => exact ⟨0, _, Nat.zero_le _, rfl, rfl, Lib.hid (Own.nil _ _ _), Lib.hid (Gr.refl _)⟩
  case round =>
    obtain ⟨k, v5, hk, rfl, rfl, HO, HG⟩ := hrel
    by_cases hlt : k < b.length
    · have ht : decide (k < b.length) = true := decide_eq_true hlt
      obtain ⟨y, hy⟩ : ∃ y, b[k]? = some y := ⟨_, List.getElem?_eq_getElem hlt⟩
      obtain ⟨g', off', cc', he', hc4'⟩ : ∃ g off cap'', Value.slice p' b.length cap' = .slice (some ⟨g, off, none⟩) b.length cap'' ∧ ∀ (j : Nat) x, b[j]? = some x → wr.cell? ⟨g, off + j, none⟩ = some (.string x) := by
        rcases HU.out with ⟨_, rfl⟩ | ⟨g, off, cap', h1, _, _, h2⟩
        · simp at hlt
        · exact ⟨g, off, cap', h1, fun j x hj => HG.out.cell (h2 j x hj)⟩
      injection he' with he1 _ he2
      subst he1 he2
      have hcy := hc4' k y hy
      have HS := Lib.hid (sumR_any y wr (by have := HSB.out y (List.mem_of_getElem? hy); omega))
      have HX : Hid ((b.take (k + 1)).map sha = (b.take k).map sha ++ [sha y]) := Lib.hid (by
        rw [List.take_add_one, hy, Option.toList_some, List.map_append]; rfl)
      have HL : Hid (((b.take k).map sha).length = k) := Lib.hid (by rw [List.length_map, List.length_take]; omega)
      generalize sha y = SY at HS HX
      clear hc4' hy
      go_wp2_with fail
      refine HS.out.mono ?_
      rintro e w1 ⟨rfl, hg⟩
      have HG1 := Lib.hid (HG.out.trans hg)
      have HO1 := Lib.hid (HO.out.gr hg)
      clear hg HG HO HS hcy
      generalize (b.take k).map sha = LK at HO1 HX HL
      have hl := HL.out
      go_wp2_with ((with_reducible show wpList _ _ _ (⟨some 23, _, _, _, _, _⟩ :: _) _ _); refine wpList_append_Own rfl (.tmp 16) (.tmp 22) 25 rfl 9 iS (.string ⟨#[]⟩) 1 16 Tryz.underlying25 HI.out HI0.out HI1.out HI2.out rfl (by decide) rfl (HO1.out.gr (Gr.alloc w1 _)) ⟨w1.heap.size, 0, none⟩ 1 1 [.string SY] rfl rfl (cells_new_at w1 [.string SY] 9) ?h1 (by decide) ?b1 ?b2 ?hB ?_)
      case h1 => exact sC_one [SY]
      case b1 => unfold maxLen; omega
      case b2 => omega
      case hB => have := HG1.out.size; simp; omega
      intro v18 w18 hown hchg _
      have HG2 : Hid (Gr w w18) := Lib.hid (gr_step HG1.out (Gr.alloc _ _) hchg (fun g hg => Own.ge HO1.out hg))
      have HO2 : Hid (OwnL w.heap.size ((b.take (k + 1)).map sha) v18 w18) := Lib.hid (by rw [HX.out]; exact OwnL.join (M := [SY]) hown (by rw [hl]; rfl))
      clear hown hchg HG1 HO1 HX hl
      go_wp2_with fail
      go_roundw
      case rel => exact ⟨k + 1, _, by omega, by go_num, rfl, HO2, HG2⟩
      case measure => simp [intOf]; omega
    · have ht : decide (k < b.length) = false := decide_eq_false hlt
      have HS : Hid (OwnL w.heap.size (b.map sha) v5 wr) := Lib.hid (by
        have h := HO.out
        rw [List.take_of_length_le (by omega)] at h
        exact h)
      obtain ⟨wo, hwo⟩ : ∃ wo, wo = wr := ⟨_, rfl⟩
      have HGo : Hid (Gr w wo) := Lib.hid (by rw [hwo]; exact HG.out)
      have HSo : Hid (OwnL w.heap.size (b.map sha) v5 wo) := Lib.hid (by rw [hwo]; exact HS.out)
      have HWo : Hid (Gr wo wr) := Lib.hid (by rw [hwo]; exact Gr.refl _)
      have HVo := Lib.hid (HV.out.gr HGo.out)
      have HUo := Lib.hid (HU.out.gr HGo.out)
      clear HS HO HG hwo hk hlt HV HU
      go_wp2_with fail
      go_loopw [7] (fun v7 W => ∃ i : Nat, i ≤ a.length ∧ v7 = .int .i64 (i : Int) ∧ Hid (Gr wo W) ∧ Hid (hitD a b = hitD (a.drop i) b)) (fun v7 _ => a.length - (intOf v7).toNat)
      case atStart => exact ⟨0, Nat.zero_le _, rfl, HWo, Lib.hid rfl⟩
      clear HWo
      case round =>
        obtain ⟨i, hi, rfl, HG, HH⟩ := hrel
        by_cases hla : i < a.length
        · have ht2 : decide (i < a.length) = true := decide_eq_true hla
          obtain ⟨x, hx⟩ : ∃ x, a[i]? = some x := ⟨_, List.getElem?_eq_getElem hla⟩
          obtain ⟨ga, oa, ca, hea, hca⟩ : ∃ g off cap'', Value.slice p a.length cap = .slice (some ⟨g, off, none⟩) a.length cap'' ∧ ∀ (j : Nat) x, a[j]? = some x → wo.cell? ⟨g, off + j, none⟩ = some (.string x) := by
            rcases HVo.out with ⟨_, rfl⟩ | ⟨g, off, cap', h1, _, _, h2⟩
            · simp at hla
            · exact ⟨g, off, cap', h1, h2⟩
          injection hea with he1 _ he2
          subst he1 he2
          have hcxo := hca i x hx
          have HXo := Lib.hid hcxo
          have hcx := HG.out.cell hcxo
          have HS := Lib.hid (sumR_any x wr (by have := HSA.out x (List.mem_of_getElem? hx); omega))
          have HSt := Lib.hid (hit_step (b := b) hx)
          have HR : Hid (∀ k y, b[k]? = some y → hitRow x (b.drop k) = ((decide (x ≠ y) && decide (sha x = sha y)) || hitRow x (b.drop (k + 1)))) := Lib.hid (fun k y h => row_step h)
          generalize hSX : sha x = SX at HS HR
          clear hSX hca hcxo hx
          go_wp2_with fail
          refine HS.out.mono ?_
          rintro e w2 ⟨rfl, hg⟩
          have HG2 := Lib.hid (HG.out.trans hg)
          clear hg HS HG hcx
          go_wp2_with fail
          go_loopw [9] (fun v9 W => ∃ k : Nat, k ≤ b.length ∧ v9 = .int .i64 (k : Int) ∧ Hid (Gr wo W) ∧ Hid (hitRow x b = hitRow x (b.drop k))) (fun v9 _ => b.length - (intOf v9).toNat)
          case atStart => exact ⟨0, Nat.zero_le _, rfl, HG2, Lib.hid rfl⟩
          clear HG2
          case round =>
            obtain ⟨k, hkb, rfl, HG, HK⟩ := hrel
            by_cases hlb : k < b.length
            · have ht3 : decide (k < b.length) = true := decide_eq_true hlb
              obtain ⟨y, hy⟩ : ∃ y, b[k]? = some y := ⟨_, List.getElem?_eq_getElem hlb⟩
              obtain ⟨gb, ob, cb, heb, hcb⟩ : ∃ g off cap'', Value.slice p' b.length cap' = .slice (some ⟨g, off, none⟩) b.length cap'' ∧ ∀ (j : Nat) x, b[j]? = some x → wo.cell? ⟨g, off + j, none⟩ = some (.string x) := by
                rcases HUo.out with ⟨_, rfl⟩ | ⟨g, off, cap', h1, _, _, h2⟩
                · simp at hlb
                · exact ⟨g, off, cap', h1, h2⟩
              injection heb with he1 _ he2
              subst he1 he2
              have hcy := HG.out.cell (hcb k y hy)
              have hcx := HG.out.cell HXo.out
              have hsl : (b.map sha).length = b.length := List.length_map _
              obtain ⟨gs, os, cs, rfl, _, hcs1, _⟩ := HSo.out.shape (by omega)
              have hcs : wr.cell? ⟨gs, os + k, none⟩ = some (.string (sha y)) := HG.out.cell (Own.cell HSo.out k _ (by simp [sC, hy]))
              have HStep := Lib.hid (HR.out k y hy)
              have ht4 : decide (k < (b.map sha).length) = true := decide_eq_true (by omega)
              rw [hsl]
              generalize sha y = SY at hcs HStep
              clear hcb hy ht4 hsl
              by_cases hxy : x = y
              · have hb1 : (x.toList == y.toList) = true := by rw [beq_str]; exact decide_eq_true hxy
                have HN : Hid (hitRow x b = hitRow x (b.drop (k + 1))) := Lib.hid (by
                  rw [HK.out, HStep.out, decide_eq_false (fun h => h hxy)]; simp)
                clear hxy HStep HK
                go_upto_region 13 with fail
                go_quiet (fail)
                rename_i nq
                have hg5 : Gr wr (wr.drewN nq) := ⟨rfl, rfl, rfl, Nat.le_refl _, fun _ _ => rfl⟩
                generalize wr.drewN nq = w5 at hg5 ⊢
                have HG5 := Lib.hid (HG.out.trans hg5)
                clear hg5 hcx hcy hcs
                go_wp2_with fail
                go_roundw
                case rel => exact ⟨k + 1, by omega, by go_num, HG5, HN⟩
                case measure => simp [intOf]; omega
              · have hb1 : (x.toList == y.toList) = false := by rw [beq_str]; exact decide_eq_false hxy
                by_cases hXY : SX = SY
                · have hb2 : (SX.toList == SY.toList) = true := by rw [beq_str]; exact decide_eq_true hXY
                  have HR2 : Hid (hitD a b = true) := Lib.hid (by
                    rw [HH.out, HSt.out, HK.out, HStep.out, decide_eq_true hxy, decide_eq_true hXY]; rfl)
                  clear hxy hXY HStep HK HSt HH HR
                  go_upto_region 13 with fail
                  go_quiet (fail)
                  rename_i nq
                  have hg5 : Gr wr (wr.drewN nq) := ⟨rfl, rfl, rfl, Nat.le_refl _, fun _ _ => rfl⟩
                  generalize wr.drewN nq = w5 at hg5 ⊢
                  have HG5 := Lib.hid (HG.out.trans hg5)
                  clear hg5 hcx hcy hcs
                  go_wp2_with fail
                  go_ret
                  exact ⟨by rw [HR2.out]; rfl, HGo.out.trans HG5.out⟩
                · have hb2 : (SX.toList == SY.toList) = false := by rw [beq_str]; exact decide_eq_false hXY
                  have HN : Hid (hitRow x b = hitRow x (b.drop (k + 1))) := Lib.hid (by
                    rw [HK.out, HStep.out, decide_eq_false hXY]; simp)
                  clear hxy hXY HStep HK
                  go_upto_region 13 with fail
                  go_quiet (fail)
                  rename_i nq
                  have hg5 : Gr wr (wr.drewN nq) := ⟨rfl, rfl, rfl, Nat.le_refl _, fun _ _ => rfl⟩
                  generalize wr.drewN nq = w5 at hg5 ⊢
                  have HG5 := Lib.hid (HG.out.trans hg5)
                  clear hg5 hcx hcy hcs
                  go_wp2_with fail
                  go_roundw
                  case rel => exact ⟨k + 1, by omega, by go_num, HG5, HN⟩
                  case measure => simp [intOf]; omega
            · have ht3 : decide (k < b.length) = false := decide_eq_false hlb
              have HN : Hid (hitD a b = hitD (a.drop (i + 1)) b) := Lib.hid (by
                rw [HH.out, HSt.out, HK.out, row_end (by omega)]; rfl)
              clear HK HH HSt
              go_wp2_with fail
              go_roundw
              case rel => exact ⟨i + 1, by omega, by go_num, HG, HN⟩
              case measure => simp [intOf]; omega
        · have ht2 : decide (i < a.length) = false := decide_eq_false hla
          have HR2 : Hid (hitD a b = false) := Lib.hid (by rw [HH.out]; exact hit_end (by omega))
          clear HH
          go_wp2_with fail
          go_ret
          exact ⟨by rw [HR2.out]; rfl, HGo.out.trans HG.out⟩
end
end Go.Proofs.YtjnnhhengpinmaaGreatDoor
