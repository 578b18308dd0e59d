/- ManifestFixity: the walk. -/
import Derived.Test.YtjnnhhengpinmaaGreatDoorNE
import Derived.Test.YtjnnhhengpinmaaGreatDoorNT
namespace Go.Proofs.YtjnnhhengpinmaaGreatDoor
open Go Go.RowKit Go.Shelf
attribute [local go_sem] gAt gUpon
attribute [local simp] Gr.refl Gr.alloc

/-- what the walk carries of its slices -/
structure FixAt (P S L1 L2 L3 : List ByteArray) (v1 v2 v3 : Value) (w : World) : Prop where
  a : StrsAt v1 L1 w
  b : StrsAt v2 L2 w
  c : StrsAt v3 L3 w
theorem FixAt.gr {P S L1 L2 L3 : List ByteArray} {v1 v2 v3 : Value} {w x : World} (h : FixAt P S L1 L2 L3 v1 v2 v3 w) (hg : Gr w x) : FixAt P S L1 L2 L3 v1 v2 v3 x := ⟨h.a.gr hg, h.b.gr hg, h.c.gr hg⟩
set_option maxRecDepth 100000 in
set_option maxHeartbeats 4000000 in
theorem fix_any (v : Value) (l : List ByteArray) (which : Int) (oth : ByteArray) (w : World) (hv : StrsIn v l w) (hl : l.length ≤ 9223372036854775806) (hs : ∀ x ∈ l, x.size ≤ 140737488355000) (hwh : I64 which) (ho : oth.size ≤ 140737488355000) (hT : Tab w) :
    Calls Tryz.prog 10 #[v, .int .i64 which, .string oth] w fun e w' => e = .returned (.bool true) ∧ Gr w w' := by
  have HT := Lib.hid hT
  have HMd := Lib.hid (fun (y : World) (hg : Gr w y) => made2_any v l 1 1 y (hv.gr hg) hl hs ⟨by decide, by decide⟩ ⟨by decide, by decide⟩ (hT.gr hg))
  clear hv hs hT
  go_enter Tryz.func10, Tryz.ntmps10
  go_wp2_with fail
  refine (sane_any w HT.out).mono ?_
  rintro e w1 ⟨rfl, hg1⟩
  have HG1 := Lib.hid hg1
  clear hg1
  go_wp2_with fail
  refine (HMd.out w1 HG1.out).mono ?_
  rintro e w2 ⟨I, J, n, E, P, S, p, pp, ps, c, cp, cs, rfl, hF, hR, hP, hS, -, hg2⟩
  have HF := Lib.hid hF
  have HM0 := Lib.hid (MadAt.start (I := I) (J := J) (n := n) (E := E) (p := p) (c := c) (HG1.out.trans hg2) hR hP.strs hS.strs)
  clear hF hR hP hS hg2 HG1 HMd
  go_upto_region 3 with fail
  obtain ⟨b, hb⟩ : ∃ b, w2.heap.size = b := ⟨_, rfl⟩
  simp only [hb] at HM0 ⊢
  have HM := HM0
  clear HM0 hb
  generalize w2.alloc (.cells #[.int .i64 I, .int .i64 J, .slice p n c] 24) = w3 at HM ⊢
  have hn := HF.out.bounds
  have n0 : ((n : Int) == 0) = false := by rw [beq_eq_false_iff_ne]; omega
  obtain ⟨k, hk⟩ : ∃ k, pickD which n = k := ⟨_, rfl⟩
  have HPk := Lib.hid (pick_any which n w3 hwh (by omega) (by omega))
  have hkn : k < n := by rw [← hk]; exact pickD_lt which n (by omega)
  rw [hk] at HPk
  obtain ⟨t, hst⟩ : ∃ t, S[k]? = some t := ⟨_, List.getElem?_eq_getElem (by rw [HF.out.sLen]; exact hkn)⟩
  have hts := HF.out.sSmall t (List.mem_of_getElem? hst)
  have hpk := HF.out.pAt hkn
  have HSt := Lib.hid hst
  have HPt := Lib.hid hpk
  clear hst hpk hk hwh
  obtain ⟨gp, op, rfl, hcp1, hcp2, hcellP, hcutP⟩ := strs_parts HM.out.p HF.out.pLen (by omega)
  obtain ⟨gs, os, rfl, hcs1, hcs2, hcellS, hcutS⟩ := strs_parts HM.out.s HF.out.sLen (by omega)
  obtain ⟨hPa, o1, hPb, ho1⟩ := hcutP k (by omega)
  obtain ⟨hPa1, o1', hPb1, ho1'⟩ := hcutP (k + 1) (by omega)
  obtain ⟨hSa, o2, hSb, ho2⟩ := hcutS k (by omega)
  obtain ⟨hSa1, o2', hSb1, ho2'⟩ := hcutS (k + 1) (by omega)
  have HcP := Lib.hid (And.intro hPa (And.intro hPb1 ho1'))
  have HcS := Lib.hid (And.intro hSa (And.intro hSb1 ho2'))
  have HcellP := Lib.hid (hcellP _ _ HPt.out)
  have HcellS := Lib.hid (hcellS _ _ HSt.out)
  clear hcutP hcutS hPa hPb hPa1 hPb1 hSa hSb hSa1 hSb1 ho1 ho1' ho2 ho2' hcellP hcellS
  have hmn : min (oth.size : Int) 40 = ((min oth.size 40 : Nat) : Int) := by omega
  have hmn2 : min oth.size 40 ≤ oth.size := Nat.min_le_left _ _
  obtain ⟨O, hO⟩ : ∃ M, oth.extract 0 (min oth.size 40) = M := ⟨_, rfl⟩
  have hOs : O.size ≤ 40 := by rw [← hO]; exact cutD_small oth 40
  obtain ⟨k0, k1, k2⟩ := row3 HM.out.r
  go_wp2_with fail
  clear k0 k1 k2
  refine HPk.out.mono ?_
  rintro e w4 ⟨rfl, rfl⟩
  go_upto_region 7 with fail
  clear hO hmn hmn2 HPk
  have i0 : (0 : Int) ≤ (k : Int) := by omega
  have i1 : (k : Int) ≤ (cp : Int) := by omega
  have i2 : (k : Int) + 1 ≤ (n : Int) := by omega
  have i3 : (n : Int) ≤ (cp : Int) := by omega
  have i4 : (k : Int) ≤ (cs : Int) := by omega
  have i5 : (n : Int) ≤ (cs : Int) := by omega
  have i6 : (0 : Int) ≤ (k : Int) + 1 := by omega
  obtain ⟨w7, hw7⟩ : ∃ z, z = w3 := ⟨_, rfl⟩
  subst hw7
  refine region_grow 9 186 (by kernel_rfl) rfl (by kernel_rfl) rfl rfl ?_
  simp only [List.take_succ_cons, List.take_zero, List.drop_succ_cons, List.drop_zero]
  refine grow_open (fun v _ => E0 w7.drew.heap.size v) rfl rfl rfl rfl (stb_pure _) (fun w1 hG => ?_) ?_
  · go_simp
    exact ⟨_, rfl, hG.size⟩
  refine seg 3 rfl rfl rfl rfl ?_
  simp only [List.take_succ_cons, List.take_zero, List.drop_succ_cons, List.drop_zero]
  repeat (go_big_quiet_step (fail))
  refine wpQuiet_nil ?_
  intro _
  refine grow_open1 48 (OwnL w7.drew.heap.size (P.take k)) rfl rfl (by decide) rfl rfl rfl (by decide) rfl rfl (OwnL.stb _ _) (fun w1 u hG hu => ?_) ?_
  · obtain ⟨b0, rfl, hb0⟩ := hu
    exact fresh0_at (ops := #[]) rfl (.tmp 48) (.tmp 51) rfl rfl (N := 186) rfl (by decide) hb0 hG.size rfl rfl (HcP.out.1.gr (((Gr.drew _).trans hG))) (by rw [List.length_take, HF.out.pLen]; omega)
  refine seg 3 rfl rfl rfl rfl ?_
  simp only [List.take_succ_cons, List.take_zero, List.drop_succ_cons, List.drop_zero]
  repeat (go_big_quiet_step (fail))
  refine wpQuiet_nil ?_
  intro _
  refine grow_det (v := .slice (some ⟨gp, o1', none⟩) (n - (k + 1)) (cp - (k + 1))) rfl rfl rfl rfl rfl ?_ ?_
  · intro w1 hG
    rcases HcP.out.2.2 with ⟨h1, h2⟩ | ⟨h1, h2⟩
    · rw [h2]
      go_simp
    · rw [h2]
      go_simp
  simp only [Act.put, List.setIfInBounds_toArray, List.set_cons_zero, List.set_cons_succ]
  refine grow_pop rfl (by decide) rfl (fun u52 => ?_)
  refine grow_pop rfl (by decide) rfl (fun u48 => ?_)
  refine grow_end0 rfl rfl (fun w4 hG h48 h52 => ?_)
  clear h48
  simp only [Act.put, List.setIfInBounds_toArray, List.set_cons_zero, List.set_cons_succ]
  refine append_strs (L := P.take k) (M := P.drop (k + 1)) rfl (.tmp 52) (.tmp 56) rfl rfl h52 rfl (HcP.out.2.1.gr (((Gr.drew _).trans hG))) (by rw [List.length_take, List.length_drop, HF.out.pLen]; omega) hG.size ?_
  intro v1 wA hown hchg
  have hgA : Gr w7 wA := gr_step ((Gr.drew _).trans hG) (Gr.refl _) hchg (fun g hg => Own.ge h52 hg)
  have H1 := Lib.hid hown.strs
  replace HM := Lib.hid (HM.out.gr hgA)
  replace HcS := Lib.hid (And.intro (HcS.out.1.gr hgA) (And.intro (HcS.out.2.1.gr hgA) HcS.out.2.2))
  clear hown hchg h52 hG HcP hgA
  go_upto_region 8 with fail
  refine region_grow 9 186 (by kernel_rfl) rfl (by kernel_rfl) rfl rfl ?_
  simp only [List.take_succ_cons, List.take_zero, List.drop_succ_cons, List.drop_zero]
  refine grow_open (fun v _ => E0 wA.drew.heap.size v) rfl rfl rfl rfl (stb_pure _) (fun w1 hG => ?_) ?_
  · go_simp
    exact ⟨_, rfl, hG.size⟩
  refine seg 3 rfl rfl rfl rfl ?_
  simp only [List.take_succ_cons, List.take_zero, List.drop_succ_cons, List.drop_zero]
  repeat (go_big_quiet_step (fail))
  refine wpQuiet_nil ?_
  intro _
  refine grow_open1 58 (OwnL wA.drew.heap.size (S.take k)) rfl rfl (by decide) rfl rfl rfl (by decide) rfl rfl (OwnL.stb _ _) (fun w1 u hG hu => ?_) ?_
  · obtain ⟨b0, rfl, hb0⟩ := hu
    exact fresh0_at (ops := #[]) rfl (.tmp 58) (.tmp 61) rfl rfl (N := 186) rfl (by decide) hb0 hG.size rfl rfl (HcS.out.1.gr (((Gr.drew _).trans hG))) (by rw [List.length_take, HF.out.sLen]; omega)
  refine seg 3 rfl rfl rfl rfl ?_
  simp only [List.take_succ_cons, List.take_zero, List.drop_succ_cons, List.drop_zero]
  repeat (go_big_quiet_step (fail))
  refine wpQuiet_nil ?_
  intro _
  refine grow_det (v := .slice (some ⟨gs, o2', none⟩) (n - (k + 1)) (cs - (k + 1))) rfl rfl rfl rfl rfl ?_ ?_
  · intro w1 hG
    rcases HcS.out.2.2 with ⟨h1, h2⟩ | ⟨h1, h2⟩
    · rw [h2]
      go_simp
    · rw [h2]
      go_simp
  simp only [Act.put, List.setIfInBounds_toArray, List.set_cons_zero, List.set_cons_succ]
  refine grow_pop rfl (by decide) rfl (fun u52 => ?_)
  refine grow_pop rfl (by decide) rfl (fun u48 => ?_)
  refine grow_end0 rfl rfl (fun w4 hG h48 h52 => ?_)
  clear h48
  simp only [Act.put, List.setIfInBounds_toArray, List.set_cons_zero, List.set_cons_succ]
  refine append_strs (L := S.take k) (M := S.drop (k + 1)) rfl (.tmp 62) (.tmp 66) rfl rfl h52 rfl (HcS.out.2.1.gr (((Gr.drew _).trans hG))) (by rw [List.length_take, List.length_drop, HF.out.sLen]; omega) hG.size ?_
  intro v2 wB hown hchg
  have hgA : Gr wA wB := gr_step ((Gr.drew _).trans hG) (Gr.refl _) hchg (fun g hg => Own.ge h52 hg)
  have H2 := Lib.hid hown.strs
  replace H1 := Lib.hid (H1.out.gr hgA)
  replace HM := Lib.hid (HM.out.gr hgA)
  clear hown hchg h52 hG HcS hgA i0 i2 i3 i6
  have hnS : S.length = n := HF.out.sLen
  go_wp2_with ((with_reducible show wpList _ _ _ (⟨some 70, _, _, _, _, _⟩ :: _) _ _); refine append_fresh rfl (.tmp 68) (.tmp 69) rfl rfl rfl (HM.out.s.gr (Gr.alloc _ _)) ?b1A ?b1B ?_)
  case b1A => omega
  case b1B => omega
  intro v3 wC hown hgc
  obtain ⟨g3, o3, c3, rfl, hg3, hc3, hcm3⟩ := ownL_shape hown hnS (by omega)
  have hgC := (Gr.alloc wB _).trans hgc
  have m3 := ownL_cell hown HSt.out
  have f3 := ownL_free hown hkn
  have hput := ownL_put hown k (by rw [hnS]; exact hkn) O
  have hbC : wB.heap.size ≤ g3 := by omega
  have hgD : Gr wB (wC.setCell ⟨g3, o3 + k, none⟩ (.string O)) := gr_step hgC (Gr.refl _) (setCells_chg g3 [.string O] (o3 + k) wC) (fun g e => by cases e; exact hbC)
  have HO := Lib.hid hput.strs
  have HgD := Lib.hid hgD
  clear hown hgc hput hg3 hbC hgD hgC
  have i0 : (0 : Int) ≤ (k : Int) := by omega
  have i2 : (k : Int) < (n : Int) := by omega
  go_upto_region 11 with fail
  clear m3 f3 hc3 hcm3
  generalize wC.setCell ⟨g3, o3 + k, none⟩ (.string O) = wD at HO HgD ⊢
  replace H1 := Lib.hid (H1.out.gr HgD.out)
  replace H2 := Lib.hid (H2.out.gr HgD.out)
  replace HM := Lib.hid (HM.out.gr HgD.out)
  clear HgD
  have hPs : ∀ x ∈ P, x.size ≤ 1000 := fun x hx => by rw [HF.out.pSmall x hx]; omega
  have hSs : ∀ x ∈ S, x.size ≤ 1000 := fun x hx => Nat.le_trans (HF.out.sSmall x hx) (by omega)
  have hEl : E.length ≤ 1000 := by rw [HF.out.eLen]; omega
  have hPl : P.length ≤ 1000 := by rw [HF.out.pLen]; omega
  have HPs := Lib.hid hPs
  have HSs := Lib.hid hSs
  have HCa := Lib.hid (chk_to (m := 0) wD HM.out.e hEl HF.out.ePath HM.out.p HM.out.s (by omega) hPs hSs (HT.out.gr HM.out.g) (fix_a HF.out) rfl)
  have HCb := Lib.hid (fun (y : World) (hg : Gr wD y) => chk_to (m := 1) y (HM.out.gr hg).e hEl HF.out.ePath (H1.out.gr hg) (H2.out.gr hg) (by rw [List.length_append, List.length_take, List.length_drop]; omega)
    (fun x hx => by
      rcases List.mem_append.1 hx with hx | hx
      · exact hPs x (List.mem_of_mem_take hx)
      · exact hPs x (List.mem_of_mem_drop hx))
    (fun x hx => by
      rcases List.mem_append.1 hx with hx | hx
      · exact hSs x (List.mem_of_mem_take hx)
      · exact hSs x (List.mem_of_mem_drop hx)) (HT.out.gr (HM.out.gr hg).g) (fix_b HF.out hkn) rfl)
  obtain ⟨p1, d1, rfl⟩ := H1.out.shape
  obtain ⟨p2, d2, rfl⟩ := H2.out.shape
  obtain ⟨l1, hl1⟩ : ∃ z, (P.take k ++ P.drop (k + 1)).length = z := ⟨_, rfl⟩
  obtain ⟨l2, hl2⟩ : ∃ z, (S.take k ++ S.drop (k + 1)).length = z := ⟨_, rfl⟩
  rw [hl1, hl2] at HCb
  rw [hl1, hl2]
  clear hl1 hl2 H1 H2 hPs hSs
  obtain ⟨k0, k1, k2⟩ := row3 HM.out.r
  go_wp2_with fail
  clear k0 k1 k2
  refine HCa.out.mono ?_
  rintro e wa ⟨pa, ca, rfl, -, hga⟩
  have HGa := Lib.hid hga
  clear hga HCa
  obtain ⟨k0, k1, k2⟩ := row3 (HM.out.gr HGa.out).r
  go_wp2_with fail
  clear k0 k1 k2
  refine (HCb.out wa HGa.out).mono ?_
  rintro e wb ⟨pb, cb, rfl, hob, hgb⟩
  obtain ⟨gb, ob, eb, hcb1, hcellb⟩ := one_parts hob
  subst eb
  have HBc := Lib.hid hcellb
  have HGb := Lib.hid (HGa.out.trans hgb)
  clear hob hgb HGa HCb hcellb
  have HMb := Lib.hid (HM.out.gr HGb.out)
  replace HO := Lib.hid (HO.out.gr HGb.out)
  replace HBc := Lib.hid HBc.out
  clear HM HGb
  have hPlen : P.length = n := HF.out.pLen
  have S0 : ∀ q : GrS wb.drew, q.w.cell? ⟨b, 0, none⟩ = some (.int .i64 I) := fun q => q.h.cell (w := wb.drew) (row3 HMb.out.r).1
  have S1 : ∀ q : GrS wb.drew, q.w.cell? ⟨b, 1, none⟩ = some (.int .i64 J) := fun q => q.h.cell (w := wb.drew) (row3 HMb.out.r).2.1
  have S2 : ∀ q : GrS wb.drew, q.w.cell? ⟨b, 2, none⟩ = some (.slice p n c) := fun q => q.h.cell (w := wb.drew) (row3 HMb.out.r).2.2
  go_upto_region 13 with fail
  refine Gh.region_grow [(4, 6), (9, 12)] 12 186 rfl (by kernel_rfl) rfl (by kernel_rfl) rfl rfl ?_
  simp only [List.take_succ_cons, List.take_zero, List.drop_succ_cons, List.drop_zero]
  refine Gh.seg 1 rfl rfl rfl rfl ?_
  simp only [List.take_succ_cons, List.take_zero, List.drop_succ_cons, List.drop_zero]
  repeat (go_big_quiet_step (fail))
  refine wpQuiet_nil ?_
  intro _
  refine Gh.grow_pure (E0 wb.drew.heap.size) rfl rfl rfl rfl (fun w1 hG => ?_) ?_
  · go_simp
    exact ⟨_, rfl, hG.size⟩
  refine Gh.seg 1 rfl rfl rfl rfl ?_
  simp only [List.take_succ_cons, List.take_zero, List.drop_succ_cons, List.drop_zero]
  repeat (go_big_quiet_step (fail))
  refine wpQuiet_nil ?_
  intro _
  refine Gh.grow_open1 84 (OwnL wb.drew.heap.size P) rfl (sb_strs _ _) rfl rfl (by decide) rfl rfl rfl (by decide) rfl rfl (fun w1 u hG hu => ?_) ?_
  · obtain ⟨b0, rfl, hb0⟩ := hu
    exact fresh_at (ops := #[]) rfl (.tmp 84) (.tmp 85) rfl rfl (N := 186) rfl (by decide) hG.size rfl rfl (HMb.out.p.gr ((Gr.drew _).trans hG)) (by omega) (by omega)
  refine Gh.grow_open (OwnL wb.drew.heap.size [⟨#[122, 47, 109, 111, 114, 101]⟩]) rfl (sb_strs _ _) rfl rfl rfl rfl (fun w1 hG => ?_) ?_
  · go_simp
    exact new_at w1 _ hG.size
  refine Gh.grow_use2 86 87 (OwnL wb.drew.heap.size (P ++ [⟨#[122, 47, 109, 111, 114, 101]⟩])) rfl (sb_strs _ _) rfl rfl (by decide) (by decide) rfl rfl rfl rfl (by decide) (by decide) rfl rfl rfl (by decide) (by decide) (by decide) (fun w1 u u2 hG hu hu2 => ?_) ?_
  · exact took_at (ops := #[]) rfl (.tmp 86) (.tmp 87) rfl rfl (N := 186) rfl (by decide) rfl hu rfl hu2.strs (by rw [List.length_singleton]; omega) (by simp) hG.size
  refine Gh.grow_pure (E0 wb.drew.heap.size) rfl rfl rfl rfl (fun w1 hG => ?_) ?_
  · go_simp
    exact ⟨_, rfl, hG.size⟩
  refine Gh.seg 1 rfl rfl rfl rfl ?_
  simp only [List.take_succ_cons, List.take_zero, List.drop_succ_cons, List.drop_zero]
  repeat (go_big_quiet_step (fail))
  refine wpQuiet_nil ?_
  intro _
  refine Gh.grow_open1 89 (OwnL wb.drew.heap.size S) rfl (sb_strs _ _) rfl rfl (by decide) rfl rfl rfl (by decide) rfl rfl (fun w1 u hG hu => ?_) ?_
  · obtain ⟨b0, rfl, hb0⟩ := hu
    exact fresh_at (ops := #[]) rfl (.tmp 89) (.tmp 90) rfl rfl (N := 186) rfl (by decide) hG.size rfl rfl (HMb.out.s.gr ((Gr.drew _).trans hG)) (by omega) (by omega)
  refine Gh.seg 1 rfl rfl rfl rfl ?_
  simp only [List.take_succ_cons, List.take_zero, List.drop_succ_cons, List.drop_zero]
  repeat (go_big_quiet_step (fail))
  refine wpQuiet_nil ?_
  intro _
  refine Gh.grow_open (OwnL wb.drew.heap.size [O]) rfl (sb_strs _ _) rfl rfl rfl rfl (fun w1 hG => ?_) ?_
  · go_simp
    exact new_at w1 _ hG.size
  refine Gh.grow_use2 91 93 (OwnL wb.drew.heap.size (S ++ [O])) rfl (sb_strs _ _) rfl rfl (by decide) (by decide) rfl rfl rfl rfl (by decide) (by decide) rfl rfl rfl (by decide) (by decide) (by decide) (fun w1 u u2 hG hu hu2 => ?_) ?_
  · exact took_at (ops := #[]) rfl (.tmp 91) (.tmp 93) rfl rfl (N := 186) rfl (by decide) rfl hu rfl hu2.strs (by rw [List.length_singleton]; omega) (by simp) hG.size
  refine Gh.grow_pop (W1 := OwnL wb.drew.heap.size (S ++ [O])) (fun u x h => h.end_ rfl) rfl (by decide) rfl (fun u94 => ?_)
  simp only [Act.put, List.setIfInBounds_toArray, List.set_cons_zero, List.set_cons_succ]
  refine Gh.grow_pop (W1 := fun _ _ => True) (fun u x h => trivial) rfl (by decide) rfl (fun u93 => ?_)
  simp only [Act.put, List.setIfInBounds_toArray, List.set_cons_zero, List.set_cons_succ]
  refine Gh.grow_pop (W1 := fun _ _ => True) (fun u x h => trivial) rfl (by decide) rfl (fun u91 => ?_)
  simp only [Act.put, List.setIfInBounds_toArray, List.set_cons_zero, List.set_cons_succ]
  refine Gh.grow_pop (W1 := fun _ _ => True) (fun u x h => trivial) rfl (by decide) rfl (fun u89 => ?_)
  simp only [Act.put, List.setIfInBounds_toArray, List.set_cons_zero, List.set_cons_succ]
  refine Gh.grow_pop (W1 := OwnL wb.drew.heap.size (P ++ [⟨#[122, 47, 109, 111, 114, 101]⟩])) (fun u x h => h.end_ rfl) rfl (by decide) rfl (fun u88 => ?_)
  simp only [Act.put, List.setIfInBounds_toArray, List.set_cons_zero, List.set_cons_succ]
  refine Gh.grow_pop (W1 := fun _ _ => True) (fun u x h => trivial) rfl (by decide) rfl (fun u87 => ?_)
  simp only [Act.put, List.setIfInBounds_toArray, List.set_cons_zero, List.set_cons_succ]
  refine Gh.grow_pop (W1 := fun _ _ => True) (fun u x h => trivial) rfl (by decide) rfl (fun u86 => ?_)
  simp only [Act.put, List.setIfInBounds_toArray, List.set_cons_zero, List.set_cons_succ]
  refine Gh.grow_pop (W1 := fun _ _ => True) (fun u x h => trivial) rfl (by decide) rfl (fun u84 => ?_)
  simp only [Act.put, List.setIfInBounds_toArray, List.set_cons_zero, List.set_cons_succ]
  refine Gh.grow_end0 rfl rfl ?_
  intro we hG _ _ _ h88 _ _ _ h94
  have hgE := (Gr.drew wb).trans hG
  have HMe := Lib.hid (HMb.out.gr hgE)
  replace HO := Lib.hid (HO.out.gr hgE)
  replace HBc := Lib.hid (hgE.cell HBc.out)
  have HCc := Lib.hid (chk_to (m := 1) we HMe.out.e hEl HF.out.ePath h88.strs h94.strs (by rw [List.length_append, List.length_singleton]; omega)
    (fun x hx => by
      rcases List.mem_append.1 hx with hx | hx
      · exact HPs.out x hx
      · obtain rfl := List.mem_singleton.1 hx
        decide)
    (fun x hx => by
      rcases List.mem_append.1 hx with hx | hx
      · exact HSs.out x hx
      · obtain rfl := List.mem_singleton.1 hx
        omega) (HT.out.gr HMe.out.g) (fix_c HF.out (by decide) O) rfl)
  obtain ⟨p8, c8, rfl⟩ := h88.strs.shape
  obtain ⟨p9, c9, rfl⟩ := h94.strs.shape
  obtain ⟨l8, hl8⟩ : ∃ z, (P ++ [(⟨#[122, 47, 109, 111, 114, 101]⟩ : ByteArray)]).length = z := ⟨_, rfl⟩
  obtain ⟨l9, hl9⟩ : ∃ z, (S ++ [O]).length = z := ⟨_, rfl⟩
  rw [hl8, hl9] at HCc
  rw [hl8, hl9]
  clear hl8 hl9
  clear hG hgE h88 h94 HMb S0 S1 S2
  go_wp2_with fail
  refine HCc.out.mono ?_
  rintro e wf ⟨pc, cc, rfl, hoc, hgc⟩
  obtain ⟨gc, oc, ec, hcc1, hcellc⟩ := one_parts hoc
  subst ec
  have HCl := Lib.hid hcellc
  replace HO := Lib.hid (HO.out.gr hgc)
  replace HBc := Lib.hid (hgc.cell HBc.out)
  have HMf := Lib.hid (HMe.out.gr hgc)
  clear hoc hgc HCc HMe hcellc
  have HCd := Lib.hid (fun (R : List ByteArray) (m : Nat) (h1 : checkD I J E (P.zip (S.set k O)) = R) (h2 : R.length = m) => chk_to (I := I) (J := J) (R := R) (m := m) wf HMf.out.e hEl HF.out.ePath HMf.out.p HO.out (by omega) HPs.out
    (fun x hx => by
      rcases List.mem_or_eq_of_mem_set hx with hx | rfl
      · exact HSs.out x hx
      · omega) (HT.out.gr HMf.out.g) h1 h2)
  have hfd := fix_d (o := O) HF.out HSt.out
  by_cases hsm : O.size = t.size ∧ sha O = sha t
  · rw [if_pos hsm] at hfd
    have HCe := Lib.hid (HCd.out [] 0 hfd rfl)
    clear HCd hfd
    obtain ⟨k0, k1, k2⟩ := row3 HMf.out.r
    go_wp2_with fail
    clear k0 k1 k2
    refine HCe.out.mono ?_
    rintro e wg ⟨pd, cd, rfl, -, hgd⟩
    have HMg := Lib.hid (HMf.out.gr hgd)
    replace HBc := Lib.hid (hgd.cell HBc.out)
    replace HCl := Lib.hid (hgd.cell HCl.out)
    clear hgd HCe HMf HO
    by_cases hOt : O = t
    · subst hOt
      have SK : ∀ q : GrS wg.drew, q.w.cell? ⟨gs, os + k, none⟩ = some (.string O) := fun q => q.h.cell (w := wg.drew) (strs_cell HMg.out.s HSt.out)
      go_upto_region 15 with fail
      refine region_grow 26 186 (by kernel_rfl) rfl (by kernel_rfl) rfl rfl ?_
      simp only [List.take_succ_cons, List.take_zero, List.drop_succ_cons, List.drop_zero]
      refine seg 17 rfl rfl rfl rfl ?_
      simp only [List.take_succ_cons, List.take_zero, List.drop_succ_cons, List.drop_zero]
      repeat (go_big_quiet_step (fail))
      refine wpQuiet_nil ?_
      intro _
      refine grow_skip rfl rfl rfl rfl ?_
      simp only [Act.put, List.setIfInBounds_toArray, List.set_cons_zero, List.set_cons_succ]
      refine seg 4 rfl rfl rfl rfl ?_
      simp only [List.take_succ_cons, List.take_zero, List.drop_succ_cons, List.drop_zero]
      repeat (go_big_quiet_step (fail))
      refine wpQuiet_nil ?_
      intro _
      refine grow_skip rfl rfl rfl rfl ?_
      simp only [Act.put, List.setIfInBounds_toArray, List.set_cons_zero, List.set_cons_succ]
      refine seg 3 rfl rfl rfl rfl ?_
      simp only [List.take_succ_cons, List.take_zero, List.drop_succ_cons, List.drop_zero]
      repeat (go_big_quiet_step (fail))
      refine wpQuiet_nil ?_
      intro _
      refine grow_end0 rfl rfl ?_
      intro wh hG
      have HMh := Lib.hid (HMg.out.gr ((Gr.drew wg).trans hG))
      replace HBc := Lib.hid (Gr.cell ((Gr.drew wg).trans hG) HBc.out)
      replace HCl := Lib.hid (Gr.cell ((Gr.drew wg).trans hG) HCl.out)
      clear HMg SK hG
      go_upto_region 16 with fail
      refine region_grow 13 186 (by kernel_rfl) rfl (by kernel_rfl) rfl rfl ?_
      simp only [List.take_succ_cons, List.take_zero, List.drop_succ_cons, List.drop_zero]
      refine seg 13 rfl rfl rfl rfl ?_
      simp only [List.take_succ_cons, List.take_zero, List.drop_succ_cons, List.drop_zero]
      repeat (go_big_quiet_step (fail))
      refine wpQuiet_nil ?_
      intro _
      refine grow_end0 rfl rfl ?_
      intro wi hG
      have HMi := Lib.hid (HMh.out.gr ((Gr.drew wh).trans hG))
      replace HBc := Lib.hid (Gr.cell ((Gr.drew wh).trans hG) HBc.out)
      replace HCl := Lib.hid (Gr.cell ((Gr.drew wh).trans hG) HCl.out)
      clear HMh hG
      have D1 : ∀ q : GrS wi.drew, q.w.cell? ⟨gp, op + k, none⟩ = some (.string (pathOf k)) := fun q => q.h.cell (w := wi.drew) (strs_cell HMi.out.p HPt.out)
      have D2 : ∀ q : GrS wi.drew, q.w.cell? ⟨gb, ob, none⟩ = some (.string (pathOf k)) := fun q => q.h.cell (w := wi.drew) HBc.out
      have D3 : ∀ q : GrS wi.drew, q.w.cell? ⟨gc, oc, none⟩ = some (.string ⟨#[122, 47, 109, 111, 114, 101]⟩) := fun q => q.h.cell (w := wi.drew) HCl.out
      go_upto_region 17 with fail
      refine region_grow 47 186 (by kernel_rfl) rfl (by kernel_rfl) rfl rfl ?_
      simp only [List.take_succ_cons, List.take_zero, List.drop_succ_cons, List.drop_zero]
      refine seg 47 rfl rfl rfl rfl ?_
      simp only [List.take_succ_cons, List.take_zero, List.drop_succ_cons, List.drop_zero]
      repeat (go_big_quiet_step (fail))
      refine wpQuiet_nil ?_
      intro _
      refine grow_end0 rfl rfl ?_
      intro wj hG
      have HG9 := Lib.hid (HMi.out.g.trans ((Gr.drew wi).trans hG))
      clear hG D1 D2 D3 HMi
      go_wp2_with fail
      go_ret
      exact ⟨rfl, HG9.out⟩
    · have hz := hOt
      clear hz
      have SK : ∀ q : GrS wg.drew, q.w.cell? ⟨gs, os + k, none⟩ = some (.string t) := fun q => q.h.cell (w := wg.drew) (strs_cell HMg.out.s HSt.out)
      have t1 : (O.toList == t.toList) = false := by rw [beq_str]; exact decide_eq_false hOt
      have t2 : ((O.size : Int) == (t.size : Int)) = true := by rw [beq_iff_eq]; exact congrArg _ hsm.1
      have t3 : ((sha O).toList == (sha t).toList) = true := by rw [beq_str]; exact decide_eq_true hsm.2
      have HX1 : Hid (∀ y, _) := Lib.hid (fun y => sumR_any O y (by omega))
      have HX2 : Hid (∀ y, _) := Lib.hid (fun y => sumR_any t y (by omega))
      obtain ⟨X1, hX1⟩ : ∃ z, sha O = z := ⟨_, rfl⟩
      obtain ⟨X2, hX2⟩ : ∃ z, sha t = z := ⟨_, rfl⟩
      rw [hX1] at HX1 t3
      rw [hX2] at HX2 t3
      clear hX1 hX2
      go_upto_region 15 with fail
      refine region_grow 26 186 (by kernel_rfl) rfl (by kernel_rfl) rfl rfl ?_
      simp only [List.take_succ_cons, List.take_zero, List.drop_succ_cons, List.drop_zero]
      refine seg 17 rfl rfl rfl rfl ?_
      simp only [List.take_succ_cons, List.take_zero, List.drop_succ_cons, List.drop_zero]
      repeat (go_big_quiet_step (fail))
      refine wpQuiet_nil ?_
      intro _
      refine grow_det (v := .string X1) rfl rfl rfl rfl rfl ?_ ?_
      · intro w1 hG
        go_simp
        refine (HX1.out w1).mono ?_
        rintro e w' ⟨rfl, hb⟩
        exact ⟨rfl, hb⟩
      simp only [Act.put, List.setIfInBounds_toArray, List.set_cons_zero, List.set_cons_succ]
      refine seg 4 rfl rfl rfl rfl ?_
      simp only [List.take_succ_cons, List.take_zero, List.drop_succ_cons, List.drop_zero]
      repeat (go_big_quiet_step (fail))
      refine wpQuiet_nil ?_
      intro _
      refine grow_det (v := .string X2) rfl rfl rfl rfl rfl ?_ ?_
      · intro w1 hG
        go_simp
        refine (HX2.out w1).mono ?_
        rintro e w' ⟨rfl, hb⟩
        exact ⟨rfl, hb⟩
      simp only [Act.put, List.setIfInBounds_toArray, List.set_cons_zero, List.set_cons_succ]
      refine seg 3 rfl rfl rfl rfl ?_
      simp only [List.take_succ_cons, List.take_zero, List.drop_succ_cons, List.drop_zero]
      repeat (go_big_quiet_step (fail))
      refine wpQuiet_nil ?_
      intro _
      refine grow_end0 rfl rfl ?_
      intro wh hG
      have HMh := Lib.hid (HMg.out.gr ((Gr.drew wg).trans hG))
      replace HBc := Lib.hid (Gr.cell ((Gr.drew wg).trans hG) HBc.out)
      replace HCl := Lib.hid (Gr.cell ((Gr.drew wg).trans hG) HCl.out)
      clear HMg SK hG
      go_upto_region 16 with fail
      refine region_grow 13 186 (by kernel_rfl) rfl (by kernel_rfl) rfl rfl ?_
      simp only [List.take_succ_cons, List.take_zero, List.drop_succ_cons, List.drop_zero]
      refine seg 13 rfl rfl rfl rfl ?_
      simp only [List.take_succ_cons, List.take_zero, List.drop_succ_cons, List.drop_zero]
      repeat (go_big_quiet_step (fail))
      refine wpQuiet_nil ?_
      intro _
      refine grow_end0 rfl rfl ?_
      intro wi hG
      have HMi := Lib.hid (HMh.out.gr ((Gr.drew wh).trans hG))
      replace HBc := Lib.hid (Gr.cell ((Gr.drew wh).trans hG) HBc.out)
      replace HCl := Lib.hid (Gr.cell ((Gr.drew wh).trans hG) HCl.out)
      clear HMh hG
      have D1 : ∀ q : GrS wi.drew, q.w.cell? ⟨gp, op + k, none⟩ = some (.string (pathOf k)) := fun q => q.h.cell (w := wi.drew) (strs_cell HMi.out.p HPt.out)
      have D2 : ∀ q : GrS wi.drew, q.w.cell? ⟨gb, ob, none⟩ = some (.string (pathOf k)) := fun q => q.h.cell (w := wi.drew) HBc.out
      have D3 : ∀ q : GrS wi.drew, q.w.cell? ⟨gc, oc, none⟩ = some (.string ⟨#[122, 47, 109, 111, 114, 101]⟩) := fun q => q.h.cell (w := wi.drew) HCl.out
      go_upto_region 17 with fail
      refine region_grow 47 186 (by kernel_rfl) rfl (by kernel_rfl) rfl rfl ?_
      simp only [List.take_succ_cons, List.take_zero, List.drop_succ_cons, List.drop_zero]
      refine seg 47 rfl rfl rfl rfl ?_
      simp only [List.take_succ_cons, List.take_zero, List.drop_succ_cons, List.drop_zero]
      repeat (go_big_quiet_step (fail))
      refine wpQuiet_nil ?_
      intro _
      refine grow_end0 rfl rfl ?_
      intro wj hG
      have HG9 := Lib.hid (HMi.out.g.trans ((Gr.drew wi).trans hG))
      clear hG D1 D2 D3 HMi
      go_wp2_with fail
      go_ret
      exact ⟨rfl, HG9.out⟩
  · rw [if_neg hsm] at hfd
    have HCe := Lib.hid (HCd.out [pathOf k] 1 hfd rfl)
    clear HCd hfd
    obtain ⟨k0, k1, k2⟩ := row3 HMf.out.r
    go_wp2_with fail
    clear k0 k1 k2
    refine HCe.out.mono ?_
    rintro e wg ⟨pd, cd, rfl, hod, hgd⟩
    obtain ⟨gd, od, ed, hcd1, hcelld⟩ := one_parts hod
    subst ed
    have HDl := Lib.hid hcelld
    have HMg := Lib.hid (HMf.out.gr hgd)
    replace HBc := Lib.hid (hgd.cell HBc.out)
    replace HCl := Lib.hid (hgd.cell HCl.out)
    clear hod hgd HCe HMf HO hcelld
    by_cases hsz : O.size = t.size
    · have hz := hsz
      clear hz
      have SK : ∀ q : GrS wg.drew, q.w.cell? ⟨gs, os + k, none⟩ = some (.string t) := fun q => q.h.cell (w := wg.drew) (strs_cell HMg.out.s HSt.out)
      have t1 : (O.toList == t.toList) = false := by rw [beq_str]; exact decide_eq_false (fun e => hsm (by rw [e]; exact ⟨rfl, rfl⟩))
      have t2 : ((O.size : Int) == (t.size : Int)) = true := by rw [beq_iff_eq]; exact congrArg _ hsz
      have t3 : ((sha O).toList == (sha t).toList) = false := by rw [beq_str]; exact decide_eq_false (fun e => hsm ⟨hsz, e⟩)
      have HX1 : Hid (∀ y, _) := Lib.hid (fun y => sumR_any O y (by omega))
      have HX2 : Hid (∀ y, _) := Lib.hid (fun y => sumR_any t y (by omega))
      obtain ⟨X1, hX1⟩ : ∃ z, sha O = z := ⟨_, rfl⟩
      obtain ⟨X2, hX2⟩ : ∃ z, sha t = z := ⟨_, rfl⟩
      rw [hX1] at HX1 t3
      rw [hX2] at HX2 t3
      clear hX1 hX2
      go_upto_region 15 with fail
      refine region_grow 26 186 (by kernel_rfl) rfl (by kernel_rfl) rfl rfl ?_
      simp only [List.take_succ_cons, List.take_zero, List.drop_succ_cons, List.drop_zero]
      refine seg 17 rfl rfl rfl rfl ?_
      simp only [List.take_succ_cons, List.take_zero, List.drop_succ_cons, List.drop_zero]
      repeat (go_big_quiet_step (fail))
      refine wpQuiet_nil ?_
      intro _
      refine grow_det (v := .string X1) rfl rfl rfl rfl rfl ?_ ?_
      · intro w1 hG
        go_simp
        refine (HX1.out w1).mono ?_
        rintro e w' ⟨rfl, hb⟩
        exact ⟨rfl, hb⟩
      simp only [Act.put, List.setIfInBounds_toArray, List.set_cons_zero, List.set_cons_succ]
      refine seg 4 rfl rfl rfl rfl ?_
      simp only [List.take_succ_cons, List.take_zero, List.drop_succ_cons, List.drop_zero]
      repeat (go_big_quiet_step (fail))
      refine wpQuiet_nil ?_
      intro _
      refine grow_det (v := .string X2) rfl rfl rfl rfl rfl ?_ ?_
      · intro w1 hG
        go_simp
        refine (HX2.out w1).mono ?_
        rintro e w' ⟨rfl, hb⟩
        exact ⟨rfl, hb⟩
      simp only [Act.put, List.setIfInBounds_toArray, List.set_cons_zero, List.set_cons_succ]
      refine seg 3 rfl rfl rfl rfl ?_
      simp only [List.take_succ_cons, List.take_zero, List.drop_succ_cons, List.drop_zero]
      repeat (go_big_quiet_step (fail))
      refine wpQuiet_nil ?_
      intro _
      refine grow_end0 rfl rfl ?_
      intro wh hG
      have HDh := Lib.hid (Gr.cell ((Gr.drew wg).trans hG) HDl.out)
      have HMh := Lib.hid (HMg.out.gr ((Gr.drew wg).trans hG))
      replace HBc := Lib.hid (Gr.cell ((Gr.drew wg).trans hG) HBc.out)
      replace HCl := Lib.hid (Gr.cell ((Gr.drew wg).trans hG) HCl.out)
      clear HMg SK hG HDl
      have D0 : ∀ q : GrS wh.drew, q.w.cell? ⟨gd, od, none⟩ = some (.string (pathOf k)) := fun q => q.h.cell (w := wh.drew) HDh.out
      have D1 : ∀ q : GrS wh.drew, q.w.cell? ⟨gp, op + k, none⟩ = some (.string (pathOf k)) := fun q => q.h.cell (w := wh.drew) (strs_cell HMh.out.p HPt.out)
      go_upto_region 16 with fail
      refine region_grow 13 186 (by kernel_rfl) rfl (by kernel_rfl) rfl rfl ?_
      simp only [List.take_succ_cons, List.take_zero, List.drop_succ_cons, List.drop_zero]
      refine seg 13 rfl rfl rfl rfl ?_
      simp only [List.take_succ_cons, List.take_zero, List.drop_succ_cons, List.drop_zero]
      repeat (go_big_quiet_step (fail))
      refine wpQuiet_nil ?_
      intro _
      refine grow_end0 rfl rfl ?_
      intro wi hG
      have HMi := Lib.hid (HMh.out.gr ((Gr.drew wh).trans hG))
      replace HBc := Lib.hid (Gr.cell ((Gr.drew wh).trans hG) HBc.out)
      replace HCl := Lib.hid (Gr.cell ((Gr.drew wh).trans hG) HCl.out)
      clear HMh hG D0 D1 HDh
      have D1 : ∀ q : GrS wi.drew, q.w.cell? ⟨gp, op + k, none⟩ = some (.string (pathOf k)) := fun q => q.h.cell (w := wi.drew) (strs_cell HMi.out.p HPt.out)
      have D2 : ∀ q : GrS wi.drew, q.w.cell? ⟨gb, ob, none⟩ = some (.string (pathOf k)) := fun q => q.h.cell (w := wi.drew) HBc.out
      have D3 : ∀ q : GrS wi.drew, q.w.cell? ⟨gc, oc, none⟩ = some (.string ⟨#[122, 47, 109, 111, 114, 101]⟩) := fun q => q.h.cell (w := wi.drew) HCl.out
      go_upto_region 17 with fail
      refine region_grow 47 186 (by kernel_rfl) rfl (by kernel_rfl) rfl rfl ?_
      simp only [List.take_succ_cons, List.take_zero, List.drop_succ_cons, List.drop_zero]
      refine seg 47 rfl rfl rfl rfl ?_
      simp only [List.take_succ_cons, List.take_zero, List.drop_succ_cons, List.drop_zero]
      repeat (go_big_quiet_step (fail))
      refine wpQuiet_nil ?_
      intro _
      refine grow_end0 rfl rfl ?_
      intro wj hG
      have HG9 := Lib.hid (HMi.out.g.trans ((Gr.drew wi).trans hG))
      clear hG D1 D2 D3 HMi
      go_wp2_with fail
      go_ret
      exact ⟨rfl, HG9.out⟩
    · have hz := hsz
      clear hz
      have SK : ∀ q : GrS wg.drew, q.w.cell? ⟨gs, os + k, none⟩ = some (.string t) := fun q => q.h.cell (w := wg.drew) (strs_cell HMg.out.s HSt.out)
      have t1 : (O.toList == t.toList) = false := by rw [beq_str]; exact decide_eq_false (fun e => hsm (by rw [e]; exact ⟨rfl, rfl⟩))
      have t2 : ((O.size : Int) == (t.size : Int)) = false := by rw [beq_eq_false_iff_ne]; omega
      go_upto_region 15 with fail
      refine region_grow 26 186 (by kernel_rfl) rfl (by kernel_rfl) rfl rfl ?_
      simp only [List.take_succ_cons, List.take_zero, List.drop_succ_cons, List.drop_zero]
      refine seg 17 rfl rfl rfl rfl ?_
      simp only [List.take_succ_cons, List.take_zero, List.drop_succ_cons, List.drop_zero]
      repeat (go_big_quiet_step (fail))
      refine wpQuiet_nil ?_
      intro _
      refine grow_skip rfl rfl rfl rfl ?_
      simp only [Act.put, List.setIfInBounds_toArray, List.set_cons_zero, List.set_cons_succ]
      refine seg 4 rfl rfl rfl rfl ?_
      simp only [List.take_succ_cons, List.take_zero, List.drop_succ_cons, List.drop_zero]
      repeat (go_big_quiet_step (fail))
      refine wpQuiet_nil ?_
      intro _
      refine grow_skip rfl rfl rfl rfl ?_
      simp only [Act.put, List.setIfInBounds_toArray, List.set_cons_zero, List.set_cons_succ]
      refine seg 3 rfl rfl rfl rfl ?_
      simp only [List.take_succ_cons, List.take_zero, List.drop_succ_cons, List.drop_zero]
      repeat (go_big_quiet_step (fail))
      refine wpQuiet_nil ?_
      intro _
      refine grow_end0 rfl rfl ?_
      intro wh hG
      have HDh := Lib.hid (Gr.cell ((Gr.drew wg).trans hG) HDl.out)
      have HMh := Lib.hid (HMg.out.gr ((Gr.drew wg).trans hG))
      replace HBc := Lib.hid (Gr.cell ((Gr.drew wg).trans hG) HBc.out)
      replace HCl := Lib.hid (Gr.cell ((Gr.drew wg).trans hG) HCl.out)
      clear HMg SK hG HDl
      have D0 : ∀ q : GrS wh.drew, q.w.cell? ⟨gd, od, none⟩ = some (.string (pathOf k)) := fun q => q.h.cell (w := wh.drew) HDh.out
      have D1 : ∀ q : GrS wh.drew, q.w.cell? ⟨gp, op + k, none⟩ = some (.string (pathOf k)) := fun q => q.h.cell (w := wh.drew) (strs_cell HMh.out.p HPt.out)
      go_upto_region 16 with fail
      refine region_grow 13 186 (by kernel_rfl) rfl (by kernel_rfl) rfl rfl ?_
      simp only [List.take_succ_cons, List.take_zero, List.drop_succ_cons, List.drop_zero]
      refine seg 13 rfl rfl rfl rfl ?_
      simp only [List.take_succ_cons, List.take_zero, List.drop_succ_cons, List.drop_zero]
      repeat (go_big_quiet_step (fail))
      refine wpQuiet_nil ?_
      intro _
      refine grow_end0 rfl rfl ?_
      intro wi hG
      have HMi := Lib.hid (HMh.out.gr ((Gr.drew wh).trans hG))
      replace HBc := Lib.hid (Gr.cell ((Gr.drew wh).trans hG) HBc.out)
      replace HCl := Lib.hid (Gr.cell ((Gr.drew wh).trans hG) HCl.out)
      clear HMh hG D0 D1 HDh
      have D1 : ∀ q : GrS wi.drew, q.w.cell? ⟨gp, op + k, none⟩ = some (.string (pathOf k)) := fun q => q.h.cell (w := wi.drew) (strs_cell HMi.out.p HPt.out)
      have D2 : ∀ q : GrS wi.drew, q.w.cell? ⟨gb, ob, none⟩ = some (.string (pathOf k)) := fun q => q.h.cell (w := wi.drew) HBc.out
      have D3 : ∀ q : GrS wi.drew, q.w.cell? ⟨gc, oc, none⟩ = some (.string ⟨#[122, 47, 109, 111, 114, 101]⟩) := fun q => q.h.cell (w := wi.drew) HCl.out
      go_upto_region 17 with fail
      refine region_grow 47 186 (by kernel_rfl) rfl (by kernel_rfl) rfl rfl ?_
      simp only [List.take_succ_cons, List.take_zero, List.drop_succ_cons, List.drop_zero]
      refine seg 47 rfl rfl rfl rfl ?_
      simp only [List.take_succ_cons, List.take_zero, List.drop_succ_cons, List.drop_zero]
      repeat (go_big_quiet_step (fail))
      refine wpQuiet_nil ?_
      intro _
      refine grow_end0 rfl rfl ?_
      intro wj hG
      have HG9 := Lib.hid (HMi.out.g.trans ((Gr.drew wi).trans hG))
      clear hG D1 D2 D3 HMi
      go_wp2_with fail
      go_ret
      exact ⟨rfl, HG9.out⟩
end Go.Proofs.YtjnnhhengpinmaaGreatDoor
