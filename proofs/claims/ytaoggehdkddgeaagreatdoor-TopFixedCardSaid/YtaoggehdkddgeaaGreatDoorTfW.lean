/- TopFixed: the walk. -/
import Derived.Test.YtaoggehdkddgeaaGreatDoorGNT
import Derived.Test.YtaoggehdkddgeaaGreatDoorGAbH
import Derived.Test.YtaoggehdkddgeaaGreatDoorGME5
import Derived.Test.YtaoggehdkddgeaaGreatDoorEvG
import Derived.Test.YtaoggehdkddgeaaGreatDoorNL
import Derived.Test.YtaoggehdkddgeaaGreatDoorNH
import Derived.Test.YtaoggehdkddgeaaGreatDoorNS
namespace Go.Proofs.YtaoggehdkddgeaaGreatDoor
open Go Go.RowKit Go.Shelf
attribute [local go_sem] gAt gUpon pUpon
attribute [local simp] Gr.refl Gr.alloc

def docB : ByteArray := ⟨#[100, 111, 99]⟩
set_option maxRecDepth 100000 in
set_option maxHeartbeats 4000000 in
theorem top_any (v1 v2 : Value) (r0 r1 : Int) (v : Value) (l : List ByteArray) (day : Int) (oth : ByteArray) (w : World) (hc : CaseIn v1 v2 r0 r1 w) (hv : StrsIn v l w) (hl : l.length ≤ 9223372036854775806) (hs : ∀ x ∈ l, x.size ≤ 140737488355000) (hd : I64 day) (ho : oth.size ≤ 9223372036854775807) (hT : Tab w) :
    Calls Tryz.prog 3 #[.agg #[v1, v2, .int .i64 r0, .int .i64 r1], v, .int .i64 day, .string oth] w fun e w' => e = .returned (.bool true) ∧ Gr w w' := by
  have HT := Lib.hid hT
  have HAw := Lib.hid (fun y => awake_any y)
  have HMd := Lib.hid (fun (y : World) (hg : Gr w y) => madeT_any v1 v2 r0 r1 y (hc.gr hg))
  obtain ⟨p1, c1, n1, rfl⟩ : ∃ p c n, v1 = .slice p n c := by
    obtain ⟨L1, L2, h1, h2, -⟩ := hc.h
    obtain ⟨p, c, h⟩ := h1.shape
    exact ⟨p, c, _, h⟩
  obtain ⟨p2, c2, n2, rfl⟩ : ∃ p c n, v2 = .slice p n c := by
    obtain ⟨L1, L2, h1, h2, -⟩ := hc.h
    obtain ⟨p, c, h⟩ := h2.shape
    exact ⟨p, c, _, h⟩
  obtain ⟨pl, cl, rfl⟩ := hv.shape
  obtain ⟨m, hm⟩ : ∃ m, min l.length 11 = m := ⟨_, rfl⟩
  obtain ⟨hvt, hcl⟩ := hv.take rfl m (by omega)
  have HVt := Lib.hid hvt
  have hmn : min (l.length : Int) 11 = (m : Int) := by omega
  have m0 : (0 : Int) ≤ (m : Int) := by omega
  have m1 : (m : Int) ≤ (cl : Int) := by omega
  have Hm : Hid (m ≤ 11 ∧ m ≤ l.length) := Lib.hid ⟨by omega, by omega⟩
  have Hs := Lib.hid hs
  have Hd := Lib.hid hd
  have Ho := Lib.hid ho
  clear hc hv hs hd ho hT hvt
  go_enter Tryz.func3, Tryz.ntmps3
  go_upto_region 1 with fail
  refine wp_gen (F := fun z => Gr w z ∧ z.heap[w.heap.size]? = some (.cells #[.slice p1 n1 c1, .slice p2 n2 c2, .int .i64 r0, .int .i64 r1] 26 (0, 0))) ⟨Gr.alloc _ _, heap_alloc_new _ _⟩ ?_
  rintro w1 ⟨hg1, hr4⟩
  obtain ⟨b4, hb4⟩ : ∃ z, w.heap.size = z := ⟨_, rfl⟩
  rw [hb4] at hr4
  simp only [hb4]
  have HG1 := Lib.hid hg1
  have HR4 := Lib.hid hr4
  clear hg1 hr4 hb4
  go_wp2_with fail
  refine (HAw.out w1).mono ?_
  rintro e w2 ⟨rfl, hg⟩
  have HG2 := Lib.hid (HG1.out.trans hg)
  have HR42 := Lib.hid (hg.block HR4.out)
  clear hg HG1 HR4 HAw
  obtain ⟨k0, k1, k2, k3⟩ := row4 HR42.out
  go_wp2_with fail
  clear k0 k1 k2 k3
  refine (HMd.out w2 HG2.out).mono ?_
  rintro e w3 ⟨vL, vC, ls, cs, wd, bits, rfl, ⟨hd, hvb⟩, hg⟩
  have HEn := Lib.hid (encodeC_any vL vC ls cs wd bits w3 hd hvb)
  have HG3 := Lib.hid (HG2.out.trans hg)
  clear hd hvb hg HG2 HR42 HMd
  go_wp2_with fail
  refine HEn.out.mono ?_
  rintro e w4 ⟨s, rfl, hss, hg⟩
  have HG4 := Lib.hid (HG3.out.trans hg)
  have Hss : Hid (s.size ≤ 20000) := Lib.hid hss
  clear hss hg HG3 HEn
  go_wp2_with ((with_reducible show wpList _ _ _ (⟨some 43, _, _, _, _, _⟩ :: _) _ _); refine append_strsI (B := w4.heap.size) (L := [docB]) (M := l.take m) rfl (.tmp 37) (.tmp 42) rfl rfl (new_at w4 docB (Nat.le_refl _)).1 rfl (HVt.out.gr (HG4.out.trans (Gr.alloc _ _))) ?b1 ?hB ?_)
  case b1 => rw [List.length_take]; have := Hm.out; simp; omega
  case hB => simp
  intro v5 w5 hown hchg
  have HG5 : Hid (Gr w w5) := Lib.hid (gr_step (HG4.out.trans (Gr.alloc _ _)) (Gr.refl _) hchg (fun g e => by
    simp [Value.ownBlock] at e
    have := HG4.out.size
    omega))
  obtain ⟨n, hn⟩ : ∃ n, m + 1 = n := ⟨_, rfl⟩
  obtain ⟨L, hL⟩ : ∃ z, docB :: l.take m = z := ⟨_, rfl⟩
  have hown : OwnL w4.heap.size L v5 w5 := by rw [← hL]; exact hown
  have hLn : L.length = n := by rw [← hL, List.length_cons, List.length_take]; have := Hm.out; omega
  have hLs : ∀ x ∈ L, x.size ≤ 140737488355000 := by
    intro x hx
    rw [← hL] at hx
    rcases List.mem_cons.1 hx with rfl | hx
    · decide
    · exact Hs.out x (List.mem_of_mem_take hx)
  have h1n : 1 ≤ n ∧ n ≤ 12 := by have := Hm.out; omega
  have HSo := Lib.hid (some_any v5 L w5 hown.strs (by omega) hLs)
  rw [hLn, Nat.min_eq_left h1n.2] at HSo
  have HLn := Lib.hid hLn
  clear hL hLn hLs hown hchg hn HG4 HVt hmn m0 m1 hm hcl hl Hm Hs
  go_wp2_with fail
  refine HSo.out.mono ?_
  rintro e w6 ⟨vp, vf, vs, rfl, hop, hrf, hos, hg, hap⟩
  have HG6 := Lib.hid (HG5.out.trans hg)
  obtain ⟨gp, op, cp, rfl, hgp, -, -⟩ := ownL_shape hop (somP_len n) h1n.1
  obtain ⟨gs, os, cs', rfl, hgs, hcs, hcsm⟩ := ownL_shape hos (by rw [somS_len (by have := HLn.out; omega)]) h1n.1
  obtain ⟨pf, cf, rfl⟩ := hrf.shape
  have hgs' : w.heap.size ≤ gs := Nat.le_trans HG5.out.size hgs
  have HGs : Hid (w.heap.size ≤ gs ∧ gp ≠ gs) := Lib.hid ⟨hgs', by
    rcases hap.1.2.2.1 with h | h
    · simp [Value.ownBlock] at h
    · simpa [Value.ownBlock] using h⟩
  have HOp := Lib.hid hop
  have HOs := Lib.hid hos
  have HRf := Lib.hid hrf
  have hapf : ∀ g, (Value.slice pf (somF L n).length cf).ownBlock = some g → some g ≠ some gs := fun g e => by
    rcases hap.1.2.2.2.2.1 with h | h
    · rw [h] at e; cases e
    · rw [← e]; exact h
  have HApf := Lib.hid hapf
  clear hg hop hos hrf hap hgp hgs hgs' hapf HSo HG5
  have k0 := ownL_free HOs.out (k := 0) (by omega)
  obtain ⟨t0, ht0⟩ : ∃ t, (somS L n)[0]? = some t := ⟨_, List.getElem?_eq_getElem (by rw [somS_len (by have := HLn.out; omega)]; omega)⟩
  have k1 := ownL_cell HOs.out ht0
  have k0' : w6.frozen? ⟨gs, os, none⟩ = false := k0
  have k1' : w6.cell? ⟨gs, os, none⟩ = some (.string t0) := k1
  have n0 : decide (0 < n) = true := decide_eq_true (by omega)
  have n1 : (0 : Int) < (n : Int) := by omega
  go_upto_region 5 with fail
  have hch : Chg (some gs) w6 (w6.setCell ⟨gs, os, none⟩ (.string s)) := setCells_chg gs [.string s] os w6
  have HOs7 : Hid (OwnL w5.heap.size (topS L s n) (.slice (some ⟨gs, os, none⟩) n cs') (w6.setCell ⟨gs, os, none⟩ (.string s))) := Lib.hid (ownL_put HOs.out 0 (by rw [somS_len (by have := HLn.out; omega)]; omega) s)
  have HOp7 : Hid (StrsAt (.slice (some ⟨gp, op, none⟩) n cp) (somP n) (w6.setCell ⟨gs, os, none⟩ (.string s))) := Lib.hid (OwnL.strs (Own.keep HOp.out hch (.inr (by simp [Value.ownBlock]; exact HGs.out.2))))
  have HRf7 := Lib.hid (HRf.out.chg hch HApf.out)
  have HG7 : Hid (Gr w (w6.setCell ⟨gs, os, none⟩ (.string s))) := Lib.hid (gr_step HG6.out (Gr.refl _) hch (fun g e => by cases e; exact HGs.out.1))
  have Hgl : Hid (gs < (w6.setCell ⟨gs, os, none⟩ (.string s)).heap.size) := Lib.hid (Nat.lt_of_lt_of_le (World.block_lt_of_cell? _ _ k1) hch.size)
  clear k0 k1 k0' k1' ht0 hch HOs HOp HRf HApf HG6
  generalize w6.setCell ⟨gs, os, none⟩ (.string s) = w7 at HOs7 HOp7 HRf7 HG7 Hgl ⊢
  have hs4 : s.size ≤ 40000 := by have := Hss.out; omega
  have HTF := Lib.hid (topF HLn.out h1n.1 h1n.2 hs4)
  have HMk := Lib.hid (fun y (hg : Gr w7 y) => top_make _ _ _ HLn.out h1n.1 h1n.2 hs4 y (HOp7.out.gr hg) (HRf7.out.gr hg) (HOs7.out.strs.gr hg) (HT.out.gr (HG7.out.trans hg)))
  obtain ⟨d, hd⟩ : ∃ d, pickD day 1000 = d := ⟨_, rfl⟩
  have HPk := Lib.hid (pick_any day 1000 w7 Hd.out (by decide) (by decide))
  have Hdl : Hid (d < 1000) := Lib.hid (by rw [← hd]; exact pickD_lt day 1000 (by decide))
  rw [hd] at HPk
  obtain ⟨E, hE⟩ : ∃ E, topE L s n = E := ⟨_, rfl⟩
  obtain ⟨S, hS⟩ : ∃ S, topS L s n = S := ⟨_, rfl⟩
  obtain ⟨P, hP⟩ : ∃ P, somP n = P := ⟨_, rfl⟩
  have HPn : Hid (P.length = n ∧ (∀ x ∈ P, x.size = 3) ∧ P[0]? = some (pathOf 0)) := Lib.hid (by rw [← hP]; exact ⟨somP_len n, somP_small n, som_first h1n.1⟩)
  have HWr : Hid (∀ o, checkD 5 1 E (P.zip (S.set 0 o)) = if luckB s o then [] else [pathOf 0]) := Lib.hid (by rw [← hP, ← hE, ← hS]; exact HTF.out.wrong)
  rw [hE, hS] at HTF
  rw [hE] at HMk
  rw [hS] at HOs7
  rw [hP] at HOp7
  generalize (somF L n).length = nf at HRf7 HMk ⊢
  clear hd hE hS hP Hd HRf7 HLn
  go_wp2_with fail
  refine HPk.out.mono ?_
  rintro e w' ⟨rfl, rfl⟩
  go_wp2_with fail
  refine (HMk.out _ (Gr.refl _)).mono ?_
  rintro e w8 ⟨pe, ce, rfl, hoe, hg⟩
  have HOe := Lib.hid (own_rws (s := 4) (enc := enC) enC_len (by rw [HTF.out.len]; exact hoe))
  have hge : ∀ g, (Value.slice pe n ce).ownBlock = some g → gs < g := fun g e => Nat.lt_of_lt_of_le Hgl.out (Own.ge hoe e)
  have HGe := Lib.hid hge
  have HG8 := Lib.hid (HG7.out.trans hg)
  have HOs8 := Lib.hid (OwnL.gr HOs7.out hg)
  have HOp8 := Lib.hid (HOp7.out.gr hg)
  have Hgl8 : Hid (gs < w8.heap.size) := Lib.hid (Nat.lt_of_lt_of_le Hgl.out hg.size)
  clear hoe hge hg HOs7 HOp7 HG7 HMk HPk Hgl
  go_upto_region 7 with fail
  obtain ⟨bp, hbp⟩ : ∃ b, w8.heap.size = b := ⟨_, rfl⟩
  have HM : Hid (TopM w bp n E P S pe ce gp op cp gs os cs' (w8.alloc (.cells #[.int .i64 5, .int .i64 1, .slice pe n ce] 43))) := Lib.hid ⟨HG8.out.trans (Gr.alloc _ _), by rw [← hbp]; exact heap_alloc_new _ _, HOe.out.gr (Gr.alloc _ _), HOp8.out.gr (Gr.alloc _ _), (OwnL.gr HOs8.out (Gr.alloc _ _)).mono (Nat.zero_le _)⟩
  have Hbp : Hid (gs < bp) := Lib.hid (by rw [← hbp]; exact Hgl8.out)
  simp only [hbp]
  clear hbp HOe HG8 HOs8 HOp8 Hgl8
  generalize w8.alloc (.cells #[.int .i64 5, .int .i64 1, .slice pe n ce] 43) = w9 at HM ⊢
  obtain ⟨R, hR⟩ : ∃ R, rootP 5 1 E = R := ⟨_, rfl⟩
  have HRs : Hid (R.size ≤ 32) := Lib.hid (by rw [← hR]; exact rootP_size _ _ _)
  have HRt := Lib.hid (fun y (hg : Gr w9 y) => rootM_any 5 1 (.slice pe n ce) E y (HM.out.gr hg).e (by rw [HTF.out.len]; omega) HTF.out.path (HT.out.gr (HM.out.gr hg).g))
  have HVe : Hid (∀ x, E[0]? = some x → verM R 5 1 n 0 x (prP E (some 0)) = true) := Lib.hid (by rw [← hR]; exact HTF.out.ver)
  rw [hR] at HRt
  have HSt := Lib.hid (fun y (hg : Gr w9 y) => start_any R d y (by have := HRs.out; omega) (by have := Hdl.out; omega) (HT.out.gr (HM.out.gr hg).g))
  clear hR
  obtain ⟨k0, k1, k2⟩ := row3 HM.out.r
  go_wp2_with fail
  clear k0 k1 k2
  refine (HRt.out w9 (Gr.refl _)).mono ?_
  rintro e wa ⟨rfl, hga⟩
  have HGa := Lib.hid hga
  clear hga
  go_wp2_with fail
  refine (HSt.out wa HGa.out).mono ?_
  rintro e wb ⟨v, rfl, hov, hgb⟩
  obtain ⟨gt, ot, ct, rfl, -, -, hst⟩ := own_st hov
  have HSt1 := Lib.hid hst
  have HGb := Lib.hid (HGa.out.trans hgb)
  clear hov hst hgb HGa HSt
  have HMb := Lib.hid (HM.out.gr HGb.out)
  obtain ⟨f, he0, hf⟩ := HTF.out.first
  obtain ⟨x, hx⟩ : ∃ x, mkEn (pathOf 0) f s = x := ⟨_, rfl⟩
  have Hx : Hid (x.path = pathOf 0 ∧ x.len = (s.size : Int) ∧ x.dig = sha s) := Lib.hid (by rw [← hx]; exact ⟨rfl, rfl, rfl⟩)
  rw [hx] at he0
  obtain ⟨Lp, hLp⟩ : ∃ L, prP E (some 0) = L := ⟨_, rfl⟩
  obtain ⟨q, hq⟩ : ∃ q, Lp.length = q := ⟨_, rfl⟩
  have hq0 : 0 < q := by rw [← hq, ← hLp, prP_len]; omega
  have hL32 : ∀ y ∈ Lp, y.size = 32 := by rw [← hLp]; exact prP_sizes E (some 0)
  have HVr := Lib.hid (HVe.out x he0)
  have HLq : Hid (q ≤ 1000) := Lib.hid (by rw [← hq, ← hLp]; exact HTF.out.small.1)
  rw [hLp] at HVr
  have HPv := Lib.hid (fun (y : World) (hg : Gr wb y) => prove_any 5 1 _ E (pathOf 0) y (HMb.out.gr hg).e (by rw [HTF.out.len]; omega) HTF.out.path (HT.out.gr (HMb.out.gr hg).g))
  rw [HTF.out.pr] at HPv
  have hpe : prE E (some 0) = x := by show E.getD 0 en0 = x; rw [List.getD_eq_getElem?_getD, he0]; rfl
  have HPc := Lib.hid (fun (y : World) (hg : Gr wb y) => (HPv.out y hg).mono (R' := fun e w' => ∃ p c, e = .returned (.tuple #[.agg #[.string x.path, .int .i64 x.fmt, .int .i64 x.len, .string x.dig], .int .i64 ((0 : Nat) : Int), .slice p q c, .int .i64 0]) ∧ OwnL 0 Lp (.slice p q c) w' ∧ Gr y w') (fun e w' ⟨u, h1, h2, h3⟩ => by
    rw [hLp] at h2
    obtain ⟨p, c, rfl⟩ := h2.strs.shape
    rw [hq] at h1 h2
    rw [hpe] at h1
    exact ⟨p, c, h1, h2.mono (Nat.zero_le _), h3⟩))
  have HL32 := Lib.hid hL32
  have Hm := Lib.hid hq
  have HGet := Lib.hid he0
  obtain ⟨gq, oq, hq1, hcq⟩ := HMb.out.p.at2 HPn.out.2.2
  injection hq1 with hq1
  injection hq1 with hq1 hq2
  subst hq1 hq2
  obtain ⟨xp0, hxp0⟩ : ∃ z, pathOf 0 = z := ⟨_, rfl⟩
  have HXp := Lib.hid hxp0
  rw [hxp0] at hcq
  rw [hxp0] at HPc
  clear hf he0 hx hLp hq hL32 HPv hpe HVe hxp0
  have HSg : Hid (∀ y, Gr wb y → TvS bp n pe ce gp op xp0 y) :=
    Lib.hid (fun y hg => ⟨hg.cell (row3 HMb.out.r).1, hg.cell (row3 HMb.out.r).2.1, hg.cell (row3 HMb.out.r).2.2, hg.cell hcq⟩)
  clear hcq
  have n00 : 0 < n := h1n.1
  go_upto_region 8 with fail
  go_cut [19, 20, 21, 22] from 67 to 76 (fun v19 v20 v21 v22 wx => Hid (PvCut wb x 0 q Lp v19 v20 v21 v22 wx))
  case first =>
    rename_i JJ KK hJ hK
    have hS0 := HSg.out wb.drew (Gr.drew wb)
    refine u_begin (TvS bp n pe ce gp op xp0) (fun _ => false) (by kernel_rfl) (by assumption) (fun hHeld => ?_)
    have HGz := Gr.drew wb
    generalize wb.drew = wz at HGz hHeld hS0 ⊢
    refine u_take 0 (v := ?_) rfl rfl (by kernel_rfl) (by kernel_rfl) (by kernel_rfl) (by kernel_rfl) (fun _ _ _ h => h) (by rfl) (by assumption) ?_ ?_
    rotate_left
    · (intro w hSw; obtain ⟨z0, z1, z2, z3⟩ := hSw; go_simp; try with_reducible rfl)
    try simp only [Act.put, List.setIfInBounds_toArray, List.set_cons_zero, List.set_cons_succ]
    refine u_take 1 (v := ?_) rfl rfl (by kernel_rfl) (by kernel_rfl) (by kernel_rfl) (by kernel_rfl) (fun _ _ _ h => h) (by rfl) (by assumption) ?_ ?_
    rotate_left
    · (intro w hSw; obtain ⟨z0, z1, z2, z3⟩ := hSw; go_simp; try with_reducible rfl)
    try simp only [Act.put, List.setIfInBounds_toArray, List.set_cons_zero, List.set_cons_succ]
    refine u_take 2 (v := ?_) rfl rfl (by kernel_rfl) (by kernel_rfl) (by kernel_rfl) (by kernel_rfl) (fun _ _ _ h => h) (by rfl) (by assumption) ?_ ?_
    rotate_left
    · (intro w hSw; obtain ⟨z0, z1, z2, z3⟩ := hSw; go_simp; try with_reducible rfl)
    try simp only [Act.put, List.setIfInBounds_toArray, List.set_cons_zero, List.set_cons_succ]
    refine u_take 3 (v := ?_) rfl rfl (by kernel_rfl) (by kernel_rfl) (by kernel_rfl) (by kernel_rfl) (fun _ _ _ h => h) (by rfl) (by assumption) ?_ ?_
    rotate_left
    · (intro w hSw; obtain ⟨z0, z1, z2, z3⟩ := hSw; go_simp; try with_reducible rfl)
    try simp only [Act.put, List.setIfInBounds_toArray, List.set_cons_zero, List.set_cons_succ]
    refine u_two 4 10 (by kernel_rfl) rfl rfl (by rfl) (by rfl) ?_ ?_
    · go_simp
      refine (HPc.out _ HGz).mono ?_
      rintro e wA ⟨p9, c9, rfl, ho, hg⟩
      have hg1 := HGz.trans hg
      refine .inl ⟨_, rfl, HSg.out _ hg1, ?_⟩
      try simp only [Act.put, List.setIfInBounds_toArray, List.set_cons_zero, List.set_cons_succ]
      replace hHeld := HSg.out _ hg1
      clear hS0
      refine u_take 5 (v := ?_) rfl rfl (by kernel_rfl) (by kernel_rfl) (by kernel_rfl) (by kernel_rfl) (fun _ _ _ h => h) (by rfl) (by assumption) ?_ ?_
      rotate_left
      · (intro w hSw; (try dsimp only at hSw); go_simp; try with_reducible rfl)
      try simp only [Act.put, List.setIfInBounds_toArray, List.set_cons_zero, List.set_cons_succ]
      refine u_take 6 (v := ?_) rfl rfl (by kernel_rfl) (by kernel_rfl) (by kernel_rfl) (by kernel_rfl) (fun _ _ _ h => h) (by rfl) (by assumption) ?_ ?_
      rotate_left
      · (intro w hSw; (try dsimp only at hSw); go_simp; try with_reducible rfl)
      try simp only [Act.put, List.setIfInBounds_toArray, List.set_cons_zero, List.set_cons_succ]
      refine u_take 7 (v := ?_) rfl rfl (by kernel_rfl) (by kernel_rfl) (by kernel_rfl) (by kernel_rfl) (fun _ _ _ h => h) (by rfl) (by assumption) ?_ ?_
      rotate_left
      · (intro w hSw; (try dsimp only at hSw); go_simp; try with_reducible rfl)
      try simp only [Act.put, List.setIfInBounds_toArray, List.set_cons_zero, List.set_cons_succ]
      refine u_take 8 (v := ?_) rfl rfl (by kernel_rfl) (by kernel_rfl) (by kernel_rfl) (by kernel_rfl) (fun _ _ _ h => h) (by rfl) (by assumption) ?_ ?_
      rotate_left
      · (intro w hSw; (try dsimp only at hSw); go_simp; try with_reducible rfl)
      try simp only [Act.put, List.setIfInBounds_toArray, List.set_cons_zero, List.set_cons_succ]
      refine u_take 9 (v := ?_) rfl rfl (by kernel_rfl) (by kernel_rfl) (by kernel_rfl) (by kernel_rfl) (fun _ _ _ h => h) (by rfl) (by assumption) ?_ ?_
      rotate_left
      · (intro w hSw; (try dsimp only at hSw); go_simp; try with_reducible rfl)
      try simp only [Act.put, List.setIfInBounds_toArray, List.set_cons_zero, List.set_cons_succ]
      refine u_step 10 (by kernel_rfl) rfl (by rfl) ?_
      go_simp
      obtain ⟨bn, hbn⟩ : ∃ z, wA.heap.size = z := ⟨_, rfl⟩
      have hrow := heap_alloc_new wA (.cells #[.string ⟨#[]⟩, .int .i64 0, .int .i64 0, .string ⟨#[]⟩] 51)
      have hge : wb.heap.size ≤ bn := by rw [← hbn]; exact hg1.size
      rw [hbn] at hrow
      simp only [hbn]
      have hg2 := hg1.trans (Gr.alloc wA (.cells #[.string ⟨#[]⟩, .int .i64 0, .int .i64 0, .string ⟨#[]⟩] 51))
      have ho2 := OwnL.gr ho (Gr.alloc wA (.cells #[.string ⟨#[]⟩, .int .i64 0, .int .i64 0, .string ⟨#[]⟩] 51))
      clear ho hg hg1 hbn
      generalize wA.alloc (.cells #[.string ⟨#[]⟩, .int .i64 0, .int .i64 0, .string ⟨#[]⟩] 51) = w2 at hrow hg2 ho2 ⊢
      refine ⟨HSg.out _ hg2, ?_⟩
      try simp only [Act.put, List.setIfInBounds_toArray, List.set_cons_zero, List.set_cons_succ]
      have HOa := Lib.hid (ent_apart ho2 Hm.out.symm hq0 HL32.out hrow)
      obtain ⟨m0, m1, m2, m3⟩ := row4 hrow
      obtain ⟨f0, f1, f2, f3⟩ := frozen4 hrow
      refine u_step 11 (by kernel_rfl) rfl (by rfl) ?_
      go_simp
      clear m0 m1 m2 m3 f0 f1 f2 f3
      have hch : Chg (some bn) w2 ((((w2.setCell ⟨bn, 0, none⟩ (.string x.path)).setCell ⟨bn, 1, none⟩ (.int .i64 x.fmt)).setCell ⟨bn, 2, none⟩ (.int .i64 x.len)).setCell ⟨bn, 3, none⟩ (.string x.dig)) := setCells_chg bn [.string x.path, .int .i64 x.fmt, .int .i64 x.len, .string x.dig] 0 w2
      have hrow2 := row_set4 (a' := .string x.path) (b' := .int .i64 x.fmt) (c' := .int .i64 x.len) (d' := .string x.dig) hrow
      have hgx : Gr wb ((((w2.setCell ⟨bn, 0, none⟩ (.string x.path)).setCell ⟨bn, 1, none⟩ (.int .i64 x.fmt)).setCell ⟨bn, 2, none⟩ (.int .i64 x.len)).setCell ⟨bn, 3, none⟩ (.string x.dig)) := gr_step hg2 (Gr.refl _) hch (fun g e => by cases e; exact hge)
      have hO3 : OwnL 0 Lp (.slice p9 q c9) _ := Own.keep ho2 hch HOa.out
      clear hch hrow ho2 HOa hg2
      generalize ((((w2.setCell ⟨bn, 0, none⟩ (.string x.path)).setCell ⟨bn, 1, none⟩ (.int .i64 x.fmt)).setCell ⟨bn, 2, none⟩ (.int .i64 x.len)).setCell ⟨bn, 3, none⟩ (.string x.dig)) = w3 at hrow2 hgx hO3 ⊢
      refine ⟨HSg.out _ hgx, ?_⟩
      try simp only [Act.put, List.setIfInBounds_toArray, List.set_cons_zero, List.set_cons_succ]
      replace hHeld := HSg.out _ hgx
      refine u_take 12 (v := ?_) rfl rfl (by kernel_rfl) (by kernel_rfl) (by kernel_rfl) (by kernel_rfl) (fun _ _ _ h => h) (by rfl) (by assumption) ?_ ?_
      rotate_left
      · (intro w hSw; (try dsimp only at hSw); go_simp; try with_reducible rfl)
      try simp only [Act.put, List.setIfInBounds_toArray, List.set_cons_zero, List.set_cons_succ]
      refine u_take 13 (v := ?_) rfl rfl (by kernel_rfl) (by kernel_rfl) (by kernel_rfl) (by kernel_rfl) (fun _ _ _ h => h) (by rfl) (by assumption) ?_ ?_
      rotate_left
      · (intro w hSw; (try dsimp only at hSw); go_simp; try with_reducible rfl)
      try simp only [Act.put, List.setIfInBounds_toArray, List.set_cons_zero, List.set_cons_succ]
      refine u_take 14 (v := ?_) rfl rfl (by kernel_rfl) (by kernel_rfl) (by kernel_rfl) (by kernel_rfl) (fun _ _ _ h => h) (by rfl) (by assumption) ?_ ?_
      rotate_left
      · (intro w hSw; (try dsimp only at hSw); go_simp; try with_reducible rfl)
      try simp only [Act.put, List.setIfInBounds_toArray, List.set_cons_zero, List.set_cons_succ]
      refine u_done (by kernel_rfl) ?_ _
      have HC : Hid (PvCut wb x 0 q Lp (.pointer (some ⟨bn, 0, none⟩)) (.int .i64 ((0 : Nat) : Int)) (.slice p9 q c9) (.int .i64 0) w3) := Lib.hid ⟨bn, p9, c9, rfl, rfl, rfl, rfl, hgx, hrow2, hO3⟩
      refine hK _ _ (Met.intro (hJ _ _ ?_))
      repeat apply Exists.intro
      exact ⟨HC, rfl⟩
    · go_simp
      obtain ⟨bn, hbn⟩ : ∃ z, wz.heap.size = z := ⟨_, rfl⟩
      have hg1 := HGz.trans (Gr.alloc wz (.cells #[.string ⟨#[]⟩, .int .i64 0, .int .i64 0, .string ⟨#[]⟩] 51))
      have hrow := heap_alloc_new wz (.cells #[.string ⟨#[]⟩, .int .i64 0, .int .i64 0, .string ⟨#[]⟩] 51)
      rw [hbn] at hrow
      simp only [hbn]
      have hge : wb.heap.size ≤ bn := by rw [← hbn]; exact HGz.size
      clear hbn
      generalize wz.alloc (.cells #[.string ⟨#[]⟩, .int .i64 0, .int .i64 0, .string ⟨#[]⟩] 51) = wA at hrow hg1 ⊢
      refine ⟨HSg.out _ hg1, ?_⟩
      try simp only [Act.put, List.setIfInBounds_toArray, List.set_cons_zero, List.set_cons_succ]
      replace hHeld := HSg.out _ hg1
      clear hS0
      refine u_step 4 (by kernel_rfl) rfl (by rfl) ?_
      go_simp
      refine (HPc.out _ hg1).mono ?_
      rintro e w2 ⟨p9, c9, rfl, ho2, hg⟩
      have hg2 := hg1.trans hg
      replace hrow := hg.block hrow
      clear hg hg1
      refine .inl ⟨_, rfl, HSg.out _ hg2, ?_⟩
      try simp only [Act.put, List.setIfInBounds_toArray, List.set_cons_zero, List.set_cons_succ]
      replace hHeld := HSg.out _ hg2
      refine u_take 5 (v := ?_) rfl rfl (by kernel_rfl) (by kernel_rfl) (by kernel_rfl) (by kernel_rfl) (fun _ _ _ h => h) (by rfl) (by assumption) ?_ ?_
      rotate_left
      · (intro w hSw; (try dsimp only at hSw); go_simp; try with_reducible rfl)
      try simp only [Act.put, List.setIfInBounds_toArray, List.set_cons_zero, List.set_cons_succ]
      refine u_take 6 (v := ?_) rfl rfl (by kernel_rfl) (by kernel_rfl) (by kernel_rfl) (by kernel_rfl) (fun _ _ _ h => h) (by rfl) (by assumption) ?_ ?_
      rotate_left
      · (intro w hSw; (try dsimp only at hSw); go_simp; try with_reducible rfl)
      try simp only [Act.put, List.setIfInBounds_toArray, List.set_cons_zero, List.set_cons_succ]
      refine u_take 7 (v := ?_) rfl rfl (by kernel_rfl) (by kernel_rfl) (by kernel_rfl) (by kernel_rfl) (fun _ _ _ h => h) (by rfl) (by assumption) ?_ ?_
      rotate_left
      · (intro w hSw; (try dsimp only at hSw); go_simp; try with_reducible rfl)
      try simp only [Act.put, List.setIfInBounds_toArray, List.set_cons_zero, List.set_cons_succ]
      refine u_take 8 (v := ?_) rfl rfl (by kernel_rfl) (by kernel_rfl) (by kernel_rfl) (by kernel_rfl) (fun _ _ _ h => h) (by rfl) (by assumption) ?_ ?_
      rotate_left
      · (intro w hSw; (try dsimp only at hSw); go_simp; try with_reducible rfl)
      try simp only [Act.put, List.setIfInBounds_toArray, List.set_cons_zero, List.set_cons_succ]
      refine u_take 9 (v := ?_) rfl rfl (by kernel_rfl) (by kernel_rfl) (by kernel_rfl) (by kernel_rfl) (fun _ _ _ h => h) (by rfl) (by assumption) ?_ ?_
      rotate_left
      · (intro w hSw; (try dsimp only at hSw); go_simp; try with_reducible rfl)
      try simp only [Act.put, List.setIfInBounds_toArray, List.set_cons_zero, List.set_cons_succ]
      have HOa := Lib.hid (ent_apart ho2 Hm.out.symm hq0 HL32.out hrow)
      obtain ⟨m0, m1, m2, m3⟩ := row4 hrow
      obtain ⟨f0, f1, f2, f3⟩ := frozen4 hrow
      refine u_step 11 (by kernel_rfl) rfl (by rfl) ?_
      go_simp
      clear m0 m1 m2 m3 f0 f1 f2 f3
      have hch : Chg (some bn) w2 ((((w2.setCell ⟨bn, 0, none⟩ (.string x.path)).setCell ⟨bn, 1, none⟩ (.int .i64 x.fmt)).setCell ⟨bn, 2, none⟩ (.int .i64 x.len)).setCell ⟨bn, 3, none⟩ (.string x.dig)) := setCells_chg bn [.string x.path, .int .i64 x.fmt, .int .i64 x.len, .string x.dig] 0 w2
      have hrow2 := row_set4 (a' := .string x.path) (b' := .int .i64 x.fmt) (c' := .int .i64 x.len) (d' := .string x.dig) hrow
      have hgx : Gr wb ((((w2.setCell ⟨bn, 0, none⟩ (.string x.path)).setCell ⟨bn, 1, none⟩ (.int .i64 x.fmt)).setCell ⟨bn, 2, none⟩ (.int .i64 x.len)).setCell ⟨bn, 3, none⟩ (.string x.dig)) := gr_step hg2 (Gr.refl _) hch (fun g e => by cases e; exact hge)
      have hO3 : OwnL 0 Lp (.slice p9 q c9) _ := Own.keep ho2 hch HOa.out
      clear hch hrow ho2 HOa hg2
      generalize ((((w2.setCell ⟨bn, 0, none⟩ (.string x.path)).setCell ⟨bn, 1, none⟩ (.int .i64 x.fmt)).setCell ⟨bn, 2, none⟩ (.int .i64 x.len)).setCell ⟨bn, 3, none⟩ (.string x.dig)) = w3 at hrow2 hgx hO3 ⊢
      refine ⟨HSg.out _ hgx, ?_⟩
      try simp only [Act.put, List.setIfInBounds_toArray, List.set_cons_zero, List.set_cons_succ]
      replace hHeld := HSg.out _ hgx
      refine u_take 12 (v := ?_) rfl rfl (by kernel_rfl) (by kernel_rfl) (by kernel_rfl) (by kernel_rfl) (fun _ _ _ h => h) (by rfl) (by assumption) ?_ ?_
      rotate_left
      · (intro w hSw; (try dsimp only at hSw); go_simp; try with_reducible rfl)
      try simp only [Act.put, List.setIfInBounds_toArray, List.set_cons_zero, List.set_cons_succ]
      refine u_take 13 (v := ?_) rfl rfl (by kernel_rfl) (by kernel_rfl) (by kernel_rfl) (by kernel_rfl) (fun _ _ _ h => h) (by rfl) (by assumption) ?_ ?_
      rotate_left
      · (intro w hSw; (try dsimp only at hSw); go_simp; try with_reducible rfl)
      try simp only [Act.put, List.setIfInBounds_toArray, List.set_cons_zero, List.set_cons_succ]
      refine u_take 14 (v := ?_) rfl rfl (by kernel_rfl) (by kernel_rfl) (by kernel_rfl) (by kernel_rfl) (fun _ _ _ h => h) (by rfl) (by assumption) ?_ ?_
      rotate_left
      · (intro w hSw; (try dsimp only at hSw); go_simp; try with_reducible rfl)
      try simp only [Act.put, List.setIfInBounds_toArray, List.set_cons_zero, List.set_cons_succ]
      refine u_done (by kernel_rfl) ?_ _
      have HC : Hid (PvCut wb x 0 q Lp (.pointer (some ⟨bn, 0, none⟩)) (.int .i64 ((0 : Nat) : Int)) (.slice p9 q c9) (.int .i64 0) w3) := Lib.hid ⟨bn, p9, c9, rfl, rfl, rfl, rfl, hgx, hrow2, hO3⟩
      refine hK _ _ (Met.intro (hJ _ _ ?_))
      repeat apply Exists.intro
      exact ⟨HC, rfl⟩
  clear HSg HPc
  obtain ⟨bn, p3, c3, rfl, hv20, rfl, rfl, hgc, hrow, hO⟩ := hcut.out
  obtain rfl : _ = Value.int .i64 0 := hv20
  have HMc := Lib.hid (HMb.out.gr hgc)
  have HGc := Lib.hid (HGb.out.trans hgc)
  have HX := Lib.hid hrow
  have HO := Lib.hid hO.strs
  have HSt2 := Lib.hid (HSt1.out.gr hgc)
  clear hcut hgc hrow hO HGb HMb HSt1
  obtain ⟨k0, k1, k2⟩ := row3 HMc.out.r
  go_wp2_with fail
  clear k0 k1 k2
  refine (HRt.out wc HGc.out).mono ?_
  rintro e wd' ⟨rfl, hg⟩
  have HMd := Lib.hid (HMc.out.gr hg)
  have HXd := Lib.hid (hg.block HX.out)
  have HOd := Lib.hid (HO.out.gr hg)
  have HStd := Lib.hid (HSt2.out.gr hg)
  clear hg HMc HX HO HSt2 HGc HRt
  obtain ⟨xp, xf, xn, xd⟩ := x
  obtain ⟨hx1, hx2, hx3⟩ := Hx.out
  simp only at hx1 hx2 hx3
  subst hx2
  obtain ⟨D, hD⟩ : ∃ D, sha s = D := ⟨_, rfl⟩
  rw [hD] at hx3
  subst hx3
  have HSum := Lib.hid (fun y => sumR_any s y (by omega))
  rw [hD] at HSum
  have Hxp := Lib.hid hx1
  have HD := Lib.hid hD
  clear hx1 hD Hx
  have X2 : ∀ q : GrS wd'.drew, q.w.cell? ⟨bn, 2, none⟩ = some (.int .i64 (s.size : Int)) := fun q => q.h.cell (w := wd'.drew) (row4 HXd.out).2.2.1
  have X3 : ∀ q : GrS wd'.drew, q.w.cell? ⟨bn, 3, none⟩ = some (.string xd) := fun q => q.h.cell (w := wd'.drew) (row4 HXd.out).2.2.2
  go_upto_region 10 with fail
  refine region_grow16 31 192 (by kernel_rfl) rfl (by kernel_rfl) rfl rfl ?_
  simp only [List.take_succ_cons, List.take_zero, List.drop_succ_cons, List.drop_zero]
  refine seg 22 rfl rfl rfl rfl ?_
  simp only [List.take_succ_cons, List.take_zero, List.drop_succ_cons, List.drop_zero]
  repeat (go_big_quiet_step (fail))
  refine wpQuiet_nil ?_
  intro _
  refine grow_det (v := .string xd) rfl rfl rfl rfl rfl ?_ ?_
  · intro w1 hG
    go_simp
    refine (HSum.out w1).mono ?_
    rintro e w' ⟨rfl, hb⟩
    exact ⟨rfl, hb⟩
  simp only [Act.put, List.setIfInBounds_toArray, List.set_cons_zero, List.set_cons_succ]
  refine seg 8 rfl rfl rfl rfl ?_
  simp only [List.take_succ_cons, List.take_zero, List.drop_succ_cons, List.drop_zero]
  repeat (go_big_quiet_step (fail))
  refine wpQuiet_nil ?_
  intro _
  refine grow_end0 rfl rfl ?_
  intro we hG
  have hge := (Gr.drew wd').trans hG
  have HMe := Lib.hid (HMd.out.gr hge)
  have HXe := Lib.hid (hge.block HXd.out)
  have HOe := Lib.hid (HOd.out.gr hge)
  have HSte := Lib.hid (HStd.out.gr hge)
  clear hge hG X2 X3 HMd HXd HOd HStd
  have e1 : IntKind.i64.wrap ((d : Int) + 10) = (d : Int) + 10 := IntWalk.i64_in _ (by have := Hdl.out; omega)
  have HSi := Lib.hid (since_any gt ot ct d ((d : Int) + 10) (firstE R d) R we (by have := Hdl.out; omega) (by have := HRs.out; omega) rfl HSte.out (HT.out.gr HMe.out.g) (by omega))
  go_wp2_with fail
  refine HSi.out.mono ?_
  rintro e wf ⟨rfl, hg⟩
  have HMf := Lib.hid (HMe.out.gr hg)
  have HXf := Lib.hid (hg.block HXe.out)
  have HOf := Lib.hid (HOe.out.gr hg)
  clear hg HMe HXe HOe HSte HSi e1
  have HVy := Lib.hid (verifyM_any R 5 1 (n : Int) 0 ⟨xp, xf, (s.size : Int), xd⟩ (.slice p3 q c3) Lp wf HOf.out (by rw [Hm.out]; have := HLq.out; omega) (by omega) (by show xp.size ≤ _; rw [Hxp.out]; decide) (fun y hy => by rw [HL32.out y hy]; decide) (HT.out.gr HMf.out.g))
  rw [HVr.out] at HVy
  obtain ⟨k0, k1, k2, k3⟩ := row4 HXf.out
  go_wp2_with fail
  clear k0 k1 k2 k3
  refine HVy.out.mono ?_
  rintro e wg ⟨rfl, hg⟩
  have HMg := Lib.hid (HMf.out.gr hg)
  clear hg HMf HXf HOf HVy HVr
  have hmn : min (oth.size : Int) 40 = ((min oth.size 40 : Nat) : Int) := by omega
  have hmn2 : min oth.size 40 ≤ oth.size := Nat.min_le_left _ _
  obtain ⟨O, hO⟩ : ∃ M, oth.extract 0 (min oth.size 40) = M := ⟨_, rfl⟩
  have hOs : O.size ≤ 40 := by rw [← hO]; exact cutD_small oth 40
  have HSl : Hid (S.length = n) := Lib.hid HTF.out.slen
  obtain ⟨t0, ht0⟩ : ∃ t, S[0]? = some t := ⟨_, List.getElem?_eq_getElem (by rw [HSl.out]; omega)⟩
  have k0 := ownL_free HMg.out.s (k := 0) (by omega)
  have k1 := ownL_cell HMg.out.s ht0
  have k0' : wg.frozen? ⟨gs, os, none⟩ = false := k0
  have k1' : wg.cell? ⟨gs, os, none⟩ = some (.string t0) := k1
  have n1 : (0 : Int) < (n : Int) := by omega
  go_upto_region 16 with fail
  have HMh := Lib.hid (HMg.out.put Hbp.out HGe.out HGs.out.2 HGs.out.1 HSl.out n00 O)
  clear k0 k1 k0' k1' ht0 hO hmn hmn2 HMg n1
  generalize wg.setCell ⟨gs, os, none⟩ (.string O) = wh at HMh ⊢
  have HSs : ∀ x ∈ S.set 0 O, x.size ≤ 40000 := fun x hx => by
    rcases List.mem_or_eq_of_mem_set hx with hx | rfl
    · exact HTF.out.ssm x hx
    · omega
  have HCk := Lib.hid (fun (R' : List ByteArray) (m : Nat) (h1 : checkD 5 1 E (P.zip (S.set 0 O)) = R') (h2 : R'.length = m) => chk_top (I := 5) (J := 1) (R := R') (m := m) wh HMh.out.e (by rw [HTF.out.len]; omega) HTF.out.path HMh.out.p HMh.out.s.strs (by rw [HPn.out.1]; omega) (fun x hx => by rw [HPn.out.2.1 x hx]; decide) HSs (HT.out.gr HMh.out.g) h1 h2)
  clear HSs
  cases hlk : luckB s O
  · have HCe := Lib.hid (HCk.out [pathOf 0] 1 ((HWr.out O).trans (if_neg (by rw [hlk]; decide))) rfl)
    rw [HXp.out] at HCe
    have Hlk := Lib.hid hlk
    clear HCk HWr hlk
    obtain ⟨k0, k1, k2⟩ := row3 HMh.out.r
    go_wp2_with fail
    clear k0 k1 k2
    refine HCe.out.mono ?_
    rintro e wi ⟨pd, cd, rfl, hod, hgd⟩
    obtain ⟨gd, od, ed, hcd1, hcelld⟩ := one_parts hod
    subst ed
    have HDl := Lib.hid hcelld
    have HMi := Lib.hid (HMh.out.gr hgd)
    clear hod hgd HCe HMh hcelld
    have HP0 : Hid (P[0]? = some xp0) := Lib.hid (by rw [← HXp.out]; exact HPn.out.2.2)
    have hne : ¬ (O = s) := fun e => by have := (luck_iff s O).2 ⟨by rw [e], by rw [e]⟩; rw [Hlk.out] at this; cases this
    have t1 : (O.toList == s.toList) = false := by rw [beq_str]; exact decide_eq_false hne
    clear hne
    by_cases hsz : O.size = s.size
    · have t2 : ((O.size : Int) == (s.size : Int)) = true := by rw [beq_iff_eq]; exact congrArg _ hsz
      have t3 : ((sha O).toList == xd.toList) = false := by
        rw [beq_str]
        refine decide_eq_false (fun e => ?_)
        have := (luck_iff s O).2 ⟨hsz, by rw [HD.out]; exact e⟩
        rw [Hlk.out] at this; cases this
      clear hsz Hlk
      have HX1 : Hid (∀ y, _) := Lib.hid (fun y => sumR_any O y (by omega))
      obtain ⟨X1, hX1⟩ : ∃ z, sha O = z := ⟨_, rfl⟩
      rw [hX1] at HX1 t3
      clear hX1
      go_wp2_with fail
      refine (HX1.out wi).mono ?_
      rintro e wj0 ⟨rfl, hg0⟩
      have HG0 := Lib.hid hg0
      clear hg0
      go_wp2_with fail
      refine (HSum.out wj0).mono ?_
      rintro e wj ⟨rfl, hg1⟩
      have HGj : Hid (Gr wi wj) := Lib.hid (HG0.out.trans hg1)
      clear hg1 HG0
      go_upto_region 18 with fail
      have HMj := Lib.hid (HMi.out.gr HGj.out)
      have HGi := Lib.hid HGj.out
      clear HMi HGj
      have D1 : ∀ q : GrS wj.drew, q.w.cell? ⟨gp, op, none⟩ = some (.string xp0) := fun q => q.h.cell (w := wj.drew) (strs_cell HMj.out.p (k := 0) HP0.out)
      have D0 : ∀ q : GrS wj.drew, q.w.cell? ⟨gd, od, none⟩ = some (.string xp0) := fun q => q.h.cell (w := wj.drew) (HGi.out.cell HDl.out)
      refine region_grow16 38 192 (by kernel_rfl) rfl (by kernel_rfl) rfl rfl ?_
      simp only [List.take_succ_cons, List.take_zero, List.drop_succ_cons, List.drop_zero]
      refine seg 38 rfl rfl rfl rfl ?_
      simp only [List.take_succ_cons, List.take_zero, List.drop_succ_cons, List.drop_zero]
      repeat (go_big_quiet_step (fail))
      refine wpQuiet_nil ?_
      intro _
      refine grow_end0 rfl rfl ?_
      intro wk hG
      have HG9 := Lib.hid (HMj.out.g.trans ((Gr.drew wj).trans hG))
      clear hG HMj
      go_wp2_with fail
      go_ret
      exact ⟨rfl, HG9.out⟩
    · have t2 : ((O.size : Int) == (s.size : Int)) = false := by rw [beq_eq_false_iff_ne]; omega
      clear hsz Hlk
      go_upto_region 18 with fail
      obtain ⟨wj, hwj⟩ : ∃ z, z = wi := ⟨_, rfl⟩
      have HGj : Hid (Gr wi wj) := Lib.hid (by rw [hwj]; exact Gr.refl _)
      rw [← hwj]
      clear hwj
      have HMj := Lib.hid (HMi.out.gr HGj.out)
      have HGi := Lib.hid HGj.out
      clear HMi HGj
      have D1 : ∀ q : GrS wj.drew, q.w.cell? ⟨gp, op, none⟩ = some (.string xp0) := fun q => q.h.cell (w := wj.drew) (strs_cell HMj.out.p (k := 0) HP0.out)
      have D0 : ∀ q : GrS wj.drew, q.w.cell? ⟨gd, od, none⟩ = some (.string xp0) := fun q => q.h.cell (w := wj.drew) (HGi.out.cell HDl.out)
      refine region_grow16 38 192 (by kernel_rfl) rfl (by kernel_rfl) rfl rfl ?_
      simp only [List.take_succ_cons, List.take_zero, List.drop_succ_cons, List.drop_zero]
      refine seg 38 rfl rfl rfl rfl ?_
      simp only [List.take_succ_cons, List.take_zero, List.drop_succ_cons, List.drop_zero]
      repeat (go_big_quiet_step (fail))
      refine wpQuiet_nil ?_
      intro _
      refine grow_end0 rfl rfl ?_
      intro wk hG
      have HG9 := Lib.hid (HMj.out.g.trans ((Gr.drew wj).trans hG))
      clear hG HMj
      go_wp2_with fail
      go_ret
      exact ⟨rfl, HG9.out⟩
  · have HCe := Lib.hid (HCk.out [] 0 ((HWr.out O).trans (if_pos hlk)) rfl)
    have hlk2 := (luck_iff s O).1 hlk
    clear HCk HWr hlk
    obtain ⟨k0, k1, k2⟩ := row3 HMh.out.r
    go_wp2_with fail
    clear k0 k1 k2
    refine HCe.out.mono ?_
    rintro e wi ⟨pd, cd, rfl, hod, hgd⟩
    have HMi := Lib.hid (HMh.out.gr hgd)
    clear hod hgd HCe HMh
    have HP0 : Hid (P[0]? = some xp0) := Lib.hid (by rw [← HXp.out]; exact HPn.out.2.2)
    by_cases hEq : O = s
    · have t1 : (O.toList == s.toList) = true := by rw [beq_str]; exact decide_eq_true hEq
      clear hEq hlk2
      go_upto_region 18 with fail
      obtain ⟨wj, hwj⟩ : ∃ z, z = wi := ⟨_, rfl⟩
      have HGj : Hid (Gr wi wj) := Lib.hid (by rw [hwj]; exact Gr.refl _)
      rw [← hwj]
      clear hwj
      have HMj := Lib.hid (HMi.out.gr HGj.out)
      have HGi := Lib.hid HGj.out
      clear HMi HGj
      have D1 : ∀ q : GrS wj.drew, q.w.cell? ⟨gp, op, none⟩ = some (.string xp0) := fun q => q.h.cell (w := wj.drew) (strs_cell HMj.out.p (k := 0) HP0.out)
      refine region_grow16 38 192 (by kernel_rfl) rfl (by kernel_rfl) rfl rfl ?_
      simp only [List.take_succ_cons, List.take_zero, List.drop_succ_cons, List.drop_zero]
      refine seg 38 rfl rfl rfl rfl ?_
      simp only [List.take_succ_cons, List.take_zero, List.drop_succ_cons, List.drop_zero]
      repeat (go_big_quiet_step (fail))
      refine wpQuiet_nil ?_
      intro _
      refine grow_end0 rfl rfl ?_
      intro wk hG
      have HG9 := Lib.hid (HMj.out.g.trans ((Gr.drew wj).trans hG))
      clear hG HMj
      go_wp2_with fail
      go_ret
      exact ⟨rfl, HG9.out⟩
    · have t1 : (O.toList == s.toList) = false := by rw [beq_str]; exact decide_eq_false hEq
      have t2 : ((O.size : Int) == (s.size : Int)) = true := by rw [beq_iff_eq]; exact congrArg _ hlk2.1
      have t3 : ((sha O).toList == xd.toList) = true := by rw [beq_str]; exact decide_eq_true (hlk2.2.trans HD.out)
      clear hEq hlk2
      have HX1 : Hid (∀ y, _) := Lib.hid (fun y => sumR_any O y (by omega))
      obtain ⟨X1, hX1⟩ : ∃ z, sha O = z := ⟨_, rfl⟩
      rw [hX1] at HX1 t3
      clear hX1
      go_wp2_with fail
      refine (HX1.out wi).mono ?_
      rintro e wj0 ⟨rfl, hg0⟩
      have HG0 := Lib.hid hg0
      clear hg0
      go_wp2_with fail
      refine (HSum.out wj0).mono ?_
      rintro e wj ⟨rfl, hg1⟩
      have HGj : Hid (Gr wi wj) := Lib.hid (HG0.out.trans hg1)
      clear hg1 HG0
      go_upto_region 18 with fail
      have HMj := Lib.hid (HMi.out.gr HGj.out)
      have HGi := Lib.hid HGj.out
      clear HMi HGj
      have D1 : ∀ q : GrS wj.drew, q.w.cell? ⟨gp, op, none⟩ = some (.string xp0) := fun q => q.h.cell (w := wj.drew) (strs_cell HMj.out.p (k := 0) HP0.out)
      refine region_grow16 38 192 (by kernel_rfl) rfl (by kernel_rfl) rfl rfl ?_
      simp only [List.take_succ_cons, List.take_zero, List.drop_succ_cons, List.drop_zero]
      refine seg 38 rfl rfl rfl rfl ?_
      simp only [List.take_succ_cons, List.take_zero, List.drop_succ_cons, List.drop_zero]
      repeat (go_big_quiet_step (fail))
      refine wpQuiet_nil ?_
      intro _
      refine grow_end0 rfl rfl ?_
      intro wk hG
      have HG9 := Lib.hid (HMj.out.g.trans ((Gr.drew wj).trans hG))
      clear hG HMj
      go_wp2_with fail
      go_ret
      exact ⟨rfl, HG9.out⟩
end Go.Proofs.YtaoggehdkddgeaaGreatDoor
