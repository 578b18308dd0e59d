/- ManifestChecksMatchReference: the walk. -/
import Derived.Test.YtjnnhhengpinmaaGreatDoorOA
namespace Go.Proofs.YtjnnhhengpinmaaGreatDoor
open Go Go.RowKit Go.Shelf
attribute [local go_sem] gAt gUpon pUpon
attribute [local simp] Gr.refl Gr.alloc

set_option maxRecDepth 100000 in
set_option maxHeartbeats 4000000 in
theorem cm_any (v0 : Value) (l0 : List ByteArray) (i1 i2 : Int) (v3 : Value) (l3 : List ByteArray) (v4 : Value) (l4 : List ByteArray) (s : ByteArray) (n0 n1 n2 n3 : Int) (x : En) (v8 : Value) (l8 : List ByteArray) (w : World)
    (hv0 : StrsIn v0 l0 w) (hl0 : l0.length ≤ 9223372036854775806) (hs0 : ∀ x ∈ l0, x.size ≤ 140737488355000) (hi1 : I64 i1) (hi2 : I64 i2) (hv3 : StrsIn v3 l3 w) (hl3 : l3.length ≤ 9223372036854775806) (hs3 : ∀ x ∈ l3, x.size ≤ 140737488355000) (hv4 : StrsIn v4 l4 w) (hl4 : l4.length ≤ 9223372036854775806) (hs4 : ∀ x ∈ l4, x.size ≤ 140737488355000)
    (hs : s.size ≤ 140737488355000) (hn : I64 n0 ∧ I64 n1 ∧ I64 n2 ∧ I64 n3) (hx : EnIn x) (hv8 : StrsIn v8 l8 w) (hl8 : l8.length ≤ 9223372036854775806) (hs8 : ∀ x ∈ l8, x.size ≤ 140737488355000) (hT : Tab w) :
    Calls Tryz.prog 4 #[v0, .int .i64 i1, .int .i64 i2, v3, v4, .string s, .agg #[.int .i64 n0, .int .i64 n1, .int .i64 n2, .int .i64 n3], .agg #[.string x.path, .int .i64 x.fmt, .int .i64 x.len, .string x.dig], v8] w fun e w' => e = .returned (.bool true) ∧ Gr w w' := by
  have HT := Lib.hid hT
  have HMd := Lib.hid (fun (y : World) (hg : Gr w y) => made2_any v0 l0 i1 i2 y (hv0.gr hg) hl0 hs0 hi1 hi2 (hT.gr hg))
  have HC3 : Hid (∀ y, Gr w y → Calls Tryz.prog 14 #[v3, .int .i64 20, .int .i64 70] y fun e w' => ∃ u, e = .returned u ∧ OwnL y.heap.size (cutsD l3 20 70) u w' ∧ Gr y w') := Lib.hid (fun y hg => cut_any v3 l3 20 70 y (hv3.gr hg).rws hl3 (by decide) (by decide) (fun x hx => Nat.le_trans (hs3 x hx) (by decide)))
  have HC4 : Hid (∀ y, Gr w y → Calls Tryz.prog 14 #[v4, .int .i64 20, .int .i64 70] y fun e w' => ∃ u, e = .returned u ∧ OwnL y.heap.size (cutsD l4 20 70) u w' ∧ Gr y w') := Lib.hid (fun y hg => cut_any v4 l4 20 70 y (hv4.gr hg).rws hl4 (by decide) (by decide) (fun x hx => Nat.le_trans (hs4 x hx) (by decide)))
  have HC8 : Hid (∀ y, Gr w y → Calls Tryz.prog 14 #[v8, .int .i64 12, .int .i64 40] y fun e w' => ∃ u, e = .returned u ∧ OwnL y.heap.size (cutsD l8 12 40) u w' ∧ Gr y w') := Lib.hid (fun y hg => cut_any v8 l8 12 40 y (hv8.gr hg).rws hl8 (by decide) (by decide) (fun x hx => Nat.le_trans (hs8 x hx) (by decide)))
  have HEn := Lib.hid (fun (y : World) => entry_any x y hx.1 hx.2.2.2)
  have HN := Lib.hid hn
  clear hv0 hs0 hi1 hi2 hv3 hs3 hv4 hs4 hv8 hs8 hT hx hn hl0 hl3 hl4 hl8
  go_enter Tryz.func4, Tryz.ntmps4
  go_upto_region 1 with fail
  obtain ⟨x5, hx5⟩ : ∃ z, w.heap.size = z := ⟨_, rfl⟩
  have hr5 := heap_alloc_new w (.cells #[.int .i64 n0, .int .i64 n1, .int .i64 n2, .int .i64 n3] 46)
  have hr6 := heap_alloc_new (w.alloc (.cells #[.int .i64 n0, .int .i64 n1, .int .i64 n2, .int .i64 n3] 46)) (.cells #[.string x.path, .int .i64 x.fmt, .int .i64 x.len, .string x.dig] 28)
  rw [World.size_alloc] at hr6
  rw [hx5] at hr5 hr6
  simp only [hx5]
  obtain ⟨x6, hx6⟩ : ∃ z, x5 + 1 = z := ⟨_, rfl⟩
  rw [hx6] at hr6
  simp only [hx6]
  have hra := (Gr.alloc (w.alloc (.cells #[.int .i64 n0, .int .i64 n1, .int .i64 n2, .int .i64 n3] 46)) (.cells #[.string x.path, .int .i64 x.fmt, .int .i64 x.len, .string x.dig] 28)).block hr5
  have hg0 := (Gr.alloc w (.cells #[.int .i64 n0, .int .i64 n1, .int .i64 n2, .int .i64 n3] 46)).trans (Gr.alloc (w.alloc (.cells #[.int .i64 n0, .int .i64 n1, .int .i64 n2, .int .i64 n3] 46)) (.cells #[.string x.path, .int .i64 x.fmt, .int .i64 x.len, .string x.dig] 28))
  have HF := Lib.hid hra
  have HX := Lib.hid hr6
  have HG0 := Lib.hid hg0
  have Hx : Hid (w.heap.size ≤ x6 ∧ x5 ≠ x6) := Lib.hid ⟨by omega, by omega⟩
  clear hr5 hr6 hra hg0 hx5 hx6
  generalize (w.alloc (.cells #[.int .i64 n0, .int .i64 n1, .int .i64 n2, .int .i64 n3] 46)).alloc (.cells #[.string x.path, .int .i64 x.fmt, .int .i64 x.len, .string x.dig] 28) = w0 at HF HX HG0 ⊢
  go_wp2_with fail
  refine (sane_any w0 (HT.out.gr HG0.out)).mono ?_
  rintro e w1 ⟨rfl, hg1⟩
  replace HF := Lib.hid (hg1.block HF.out)
  replace HX := Lib.hid (hg1.block HX.out)
  have HG1 := Lib.hid (HG0.out.trans hg1)
  clear hg1 HG0
  have H6 : Hid (x6 < w1.heap.size) := Lib.hid (Array.getElem?_eq_some_iff.1 HX.out).1
  go_wp2_with fail
  refine (HMd.out w1 HG1.out).mono ?_
  rintro e w2 ⟨I, J, n, E, P, S, p, pp, ps, c, cp, cs, rfl, hF, -, hP, hS, hE, hg2⟩
  have HFm := Lib.hid hF
  have hB2 := hg2.size
  obtain ⟨B, hB⟩ : ∃ z, w1.heap.size = z := ⟨_, rfl⟩
  rw [hB] at hP hS hE H6 hB2
  have hga := Gr.alloc w2 (.cells #[.int .i64 I, .int .i64 J, .slice p n c] 24)
  have hra := heap_alloc_new w2 (.cells #[.int .i64 I, .int .i64 J, .slice p n c] 24)
  go_upto_region 3 with fail
  obtain ⟨b, hb⟩ : ∃ b, w2.heap.size = b := ⟨_, rfl⟩
  rw [hb] at hra
  simp only [hb]
  have H0 := Lib.hid ((HG1.out.trans hg2).trans hga)
  have HR := Lib.hid hra
  have HE := Lib.hid (Own.gr hE hga)
  have HP := Lib.hid (OwnL.gr hP hga)
  have HS := Lib.hid (OwnL.gr hS hga)
  have HF' := Lib.hid (hga.block (hg2.block HF.out))
  have HX' := Lib.hid (hga.block (hg2.block HX.out))
  have HZ : Hid (B ≤ (w2.alloc (.cells #[.int .i64 I, .int .i64 J, .slice p n c] 24)).heap.size ∧ b ≠ x6) := Lib.hid ⟨Nat.le_trans hB2 hga.size, by have := H6.out; omega⟩
  clear hF hP hS hE hg2 HG1 HMd hga hra hB hb hB2 HF HX
  generalize w2.alloc (.cells #[.int .i64 I, .int .i64 J, .slice p n c] 24) = w3 at H0 HR HE HP HS HF' HX' HZ ⊢
  go_wp2_with fail
  refine (HC3.out w3 H0.out).mono ?_
  rintro e w4 ⟨u3, rfl, ho, hg⟩
  obtain ⟨pu3, mu3, cu3, rfl⟩ := shape3 ho.strs
  have HA := Lib.hid (OwnL.mono ho HZ.out.1)
  replace H0 := Lib.hid (H0.out.trans hg)
  replace HR := Lib.hid (hg.block HR.out)
  replace HE := Lib.hid (Own.gr HE.out hg)
  replace HP := Lib.hid (OwnL.gr HP.out hg)
  replace HS := Lib.hid (OwnL.gr HS.out hg)
  replace HF' := Lib.hid (hg.block HF'.out)
  replace HX' := Lib.hid (hg.block HX'.out)
  replace HZ := Lib.hid (And.intro (Nat.le_trans HZ.out.1 hg.size) HZ.out.2)
  clear hg ho HC3
  go_wp2_with fail
  refine (HC4.out w4 H0.out).mono ?_
  rintro e w5 ⟨u4, rfl, ho, hg⟩
  obtain ⟨pu4, mu4, cu4, rfl⟩ := shape3 ho.strs
  have HTl := Lib.hid (OwnL.mono ho HZ.out.1)
  replace H0 := Lib.hid (H0.out.trans hg)
  replace HR := Lib.hid (hg.block HR.out)
  replace HE := Lib.hid (Own.gr HE.out hg)
  replace HP := Lib.hid (OwnL.gr HP.out hg)
  replace HS := Lib.hid (OwnL.gr HS.out hg)
  replace HF' := Lib.hid (hg.block HF'.out)
  replace HX' := Lib.hid (hg.block HX'.out)
  replace HA := Lib.hid (OwnL.gr HA.out hg)
  replace HZ := Lib.hid (And.intro (Nat.le_trans HZ.out.1 hg.size) HZ.out.2)
  clear hg ho HC4
  go_wp2_with fail
  refine (HC8.out w5 H0.out).mono ?_
  rintro e w6 ⟨u8, rfl, ho, hg⟩
  obtain ⟨pu8, mu8, cu8, rfl⟩ := shape3 ho.strs
  have HQ := Lib.hid (OwnL.mono ho HZ.out.1)
  replace H0 := Lib.hid (H0.out.trans hg)
  replace HR := Lib.hid (hg.block HR.out)
  replace HE := Lib.hid (Own.gr HE.out hg)
  replace HP := Lib.hid (OwnL.gr HP.out hg)
  replace HS := Lib.hid (OwnL.gr HS.out hg)
  replace HF' := Lib.hid (hg.block HF'.out)
  replace HX' := Lib.hid (hg.block HX'.out)
  replace HA := Lib.hid (OwnL.gr HA.out hg)
  replace HTl := Lib.hid (OwnL.gr HTl.out hg)
  replace HZ := Lib.hid (And.intro (Nat.le_trans HZ.out.1 hg.size) HZ.out.2)
  clear hg ho HC8
  obtain ⟨k0, k1, k2, k3⟩ := row4 HX'.out
  go_wp2_with fail
  clear k0 k1 k2 k3
  refine (HEn.out w6).mono ?_
  rintro e w7 ⟨rfl, hg⟩
  replace H0 := Lib.hid (H0.out.trans hg)
  replace HR := Lib.hid (hg.block HR.out)
  replace HE := Lib.hid (Own.gr HE.out hg)
  replace HP := Lib.hid (OwnL.gr HP.out hg)
  replace HS := Lib.hid (OwnL.gr HS.out hg)
  replace HF' := Lib.hid (hg.block HF'.out)
  replace HX' := Lib.hid (hg.block HX'.out)
  replace HA := Lib.hid (OwnL.gr HA.out hg)
  replace HTl := Lib.hid (OwnL.gr HTl.out hg)
  replace HQ := Lib.hid (OwnL.gr HQ.out hg)
  clear hg HEn
  have HOw : Hid (CmOw w B x5 b n0 n1 n2 n3 I J n E P S p pp ps c cp cs (.slice pu3 mu3 cu3) (.slice pu4 mu4 cu4) (.slice pu8 mu8 cu8) _ _ _ w7) := Lib.hid ⟨H0.out, HR.out, HE.out, HP.out, HS.out, HF'.out, HA.out, HTl.out, HQ.out⟩
  clear H0 HR HE HP HS HF' HA HTl HQ
  have hxe : (cutEn x).path.size ≤ 70 := by show (cutD x.path 70).size ≤ 70; rw [cutD_size]; omega
  obtain ⟨⟨xP, xF, xN, xD⟩, hce⟩ : ∃ z, cutEn x = z := ⟨_, rfl⟩
  rw [hce] at hxe ⊢
  simp only at hxe
  have Hxe := Lib.hid hxe
  clear hce hxe
  simp only [enC]
  obtain ⟨k0, k1, k2, k3⟩ := row4 HX'.out
  obtain ⟨f0, f1, f2, f3⟩ := frozen4 HX'.out
  go_upto_region 7 with fail
  clear k0 k1 k2 k3 f0 f1 f2 f3
  have hch : Chg (some x6) w7 ((((w7.setCell ⟨x6, 0, none⟩ (.string xP)).setCell ⟨x6, 1, none⟩ (.int .i64 xF)).setCell ⟨x6, 2, none⟩ (.int .i64 xN)).setCell ⟨x6, 3, none⟩ (.string xD)) := setCells_chg x6 [.string xP, .int .i64 xF, .int .i64 xN, .string xD] 0 w7
  have hrow := row_set4 (a' := .string xP) (b' := .int .i64 xF) (c' := .int .i64 xN) (d' := .string xD) HX'.out
  have HM := Lib.hid (CmOw.keep (xe := ⟨xP, xF, xN, xD⟩) HOw.out HFm.out.eLen hch H6.out Hx.out.2 HZ.out.2 Hx.out.1 hrow)
  clear hch hrow HOw HX' H6 Hx HZ
  generalize ((((w7.setCell ⟨x6, 0, none⟩ (.string xP)).setCell ⟨x6, 1, none⟩ (.int .i64 xF)).setCell ⟨x6, 2, none⟩ (.int .i64 xN)).setCell ⟨x6, 3, none⟩ (.string xD)) = w8 at HM ⊢
  have t5 : min (s.size : Int) 70 = ((min s.size 70 : Nat) : Int) := by omega
  have t6 : min s.size 70 ≤ s.size := Nat.min_le_left _ _
  go_upto_region 8 with fail
  clear t5 t6
  have hsz : (s.extract 0 (min s.size 70)).size ≤ 70 := by rw [ByteArray.size_extract]; omega
  obtain ⟨sp, hsp⟩ : ∃ z, s.extract 0 (min s.size 70) = z := ⟨_, rfl⟩
  rw [hsp] at hsz
  simp only [hsp]
  have Hsp := Lib.hid hsz
  clear hsp hsz hs
  obtain ⟨gp, op, rfl, -, -, -, -⟩ := strs_parts HM.out.m.p HFm.out.pLen (by have := HFm.out.bounds; omega)
  have HFw : Hid ((_ ∧ _) ∧ (_ ∧ _) ∧ (_ ∧ _) ∧ (_ ∧ _) ∧ (_ ∧ _)) := Lib.hid (cm_few l3 l4 l8 HFm.out)
  obtain ⟨k0, k1, k2⟩ := row3 HM.out.m.r
  go_wp2_with fail
  clear k0 k1 k2
  refine (rootX_any I J _ E w8 HM.out.m.e (by rw [HFm.out.eLen]; have := HFm.out.bounds; omega) HFm.out.ePath (HT.out.gr HM.out.m.g)).mono ?_
  rintro e w9 ⟨rfl, hg⟩
  obtain ⟨R, hR⟩ : ∃ R, rootP I J E = R := ⟨_, rfl⟩
  simp only [hR]
  clear hR
  replace HM := Lib.hid (HM.out.gr hg)
  clear hg
  obtain ⟨k0, k1, k2⟩ := row3 HM.out.m.r
  go_upto_region 10 with fail
  clear k0 k1 k2
  obtain ⟨bq, hbq⟩ : ∃ z, w9.heap.size = z := ⟨_, rfl⟩
  have hra := heap_alloc_new w9 (.cells #[.int .i64 I, .int .i64 J, .slice p n c, .int .i64 0, .int .i64 0, .slice none 0 0] 24)
  rw [hbq] at hra
  simp only [hbq]
  replace HM := Lib.hid (HM.out.gr (Gr.alloc w9 (.cells #[.int .i64 I, .int .i64 J, .slice p n c, .int .i64 0, .int .i64 0, .slice none 0 0] 24)))
  have HB := Lib.hid hra
  clear hra hbq
  generalize w9.alloc (.cells #[.int .i64 I, .int .i64 J, .slice p n c, .int .i64 0, .int .i64 0, .slice none 0 0] 24) = w10 at HM HB ⊢
  go_loopw [25, 27, 29, 31, 32, 33, 34, 35, 36, 37, 38, 39, 41, 70] (fun _ _ _ _ _ _ _ _ _ _ _ _ _ v70 W => ∃ (k : Nat), k ≤ 2 ∧ v70 = .int .i64 (k : Int) ∧ Hid (CmAt w x5 x6 b n0 n1 n2 n3 ⟨xP, xF, xN, xD⟩ I J n E P S p (some ⟨gp, op, none⟩) ps c cp cs (.slice pu3 mu3 cu3) (.slice pu4 mu4 cu4) (.slice pu8 mu8 cu8) (cutsD l3 20 70) (cutsD l4 20 70) (cutsD l8 12 40) W) ∧ Hid (W.heap[bq]? = some (.cells #[.int .i64 I, .int .i64 J, .slice p n c, .int .i64 0, .int .i64 0, .slice none 0 0] 24 (0, 0)))) (fun _ _ _ _ _ _ _ _ _ _ _ _ _ v70 _ => 2 - (intOf v70).toNat)
  case atStart => exact ⟨0, by omega, rfl, HM, HB⟩
  clear HM HB
  case round =>
    obtain ⟨k, hk, rfl, HM, HB⟩ := hrel
    by_cases hlt : k < 2
    · have i0 : (0 : Int) ≤ (k : Int) := by omega
      have i1 : (k : Int) < 2 := by omega
      have ht : decide ((k : Int) < 2) = true := decide_eq_true i1
      obtain ⟨I1, J1, p1, m1, c1, E1, h0, h1, h2, hR1, hE1, hEp1⟩ : ∃ (I1 J1 : Int) (p1 : Option Addr) (m1 c1 : Nat) (E1 : List En), wr.cell? ⟨bq, k * 3, none⟩ = some (.int .i64 I1) ∧ wr.cell? ⟨bq, k * 3 + 1, none⟩ = some (.int .i64 J1) ∧ wr.cell? ⟨bq, k * 3 + 2, none⟩ = some (.slice p1 m1 c1) ∧ Rws 4 enC (.slice p1 m1 c1) E1 wr ∧ E1.length ≤ 1000 ∧ ∀ x ∈ E1, x.path.size ≤ 9223372036854775807 := by
        have hb := HB.out
        have he := HM.out.m.e
        have hel := HFm.out.eLen
        have hbd := HFm.out.bounds
        rcases (show k = 0 ∨ k = 1 by omega) with rfl | rfl
        · exact ⟨I, J, p, n, c, E, by simp [World.cell?, hb], by simp [World.cell?, hb], by simp [World.cell?, hb], he, by omega, HFm.out.ePath⟩
        · exact ⟨0, 0, none, 0, 0, [], by simp [World.cell?, hb], by simp [World.cell?, hb], by simp [World.cell?, hb], .inl ⟨rfl, none, 0, rfl⟩, by decide, fun x hx => by cases hx⟩
      have HE1 := Lib.hid (And.intro hE1 hEp1)
      clear hE1 hEp1
      go_upto_region 12 with fail
      clear h0 h1 h2 i0 i1 ht
      obtain ⟨b1, hb1⟩ : ∃ z, wr.heap.size = z := ⟨_, rfl⟩
      have hra := heap_alloc_new wr (.cells #[.int .i64 I1, .int .i64 J1, .slice p1 m1 c1] 24)
      rw [hb1] at hra
      simp only [hb1]
      have hga := Gr.alloc wr (.cells #[.int .i64 I1, .int .i64 J1, .slice p1 m1 c1] 24)
      have HK := Lib.hid (CmRd.mk (HM.out.gr hga) (hga.block HB.out) hra (hR1.gr hga))
      clear HM HB hra hga hb1 hR1
      generalize wr.alloc (.cells #[.int .i64 I1, .int .i64 J1, .slice p1 m1 c1] 24) = wa at HK ⊢
      go_wp2_with ((with_reducible show wpList _ _ _ (⟨some 78, _, _, _, _, _⟩ :: _) _ _); refine append_fresh0 (B := wa.heap.size) (M := cutsD l3 20 70) rfl (.tmp 76) (.tmp 77) rfl (Nat.le_refl _) (Gr.alloc _ _).size rfl rfl (HK.out.m.a.gr (Gr.alloc _ _)) ?b1A ?_)
      case b1A => have := HFw.out.1.1; omega
      intro vA wb ho1 hg1
      have HgB := Lib.hid ((Gr.alloc wa _).trans hg1)
      have HoB := Lib.hid ho1
      clear ho1 hg1
      go_wp2_with ((with_reducible show wpList _ _ _ (⟨some 80, _, _, _, _, _⟩ :: _) _ _); refine append_strs (L := cutsD l3 20 70) (M := P) rfl (.tmp 78) (.tmp 79) rfl rfl HoB.out rfl (HK.out.gr HgB.out).m.m.p ?b1A HgB.out.size ?_)
      case b1A => have h1 := HFw.out.1.1; have h2 := HFw.out.2.2.2.1.1; omega
      intro vB wc ho2 hc2
      replace HK := Lib.hid (HK.out.gr (gr_step HgB.out (Gr.refl _) hc2 (fun g e => Own.ge HoB.out e)))
      have HoC := Lib.hid ho2.strs
      obtain ⟨pB, mB, cB, rfl⟩ := shape3 ho2.strs
      clear ho2 hc2 HgB HoB
      go_upto_region 13 with fail
      obtain ⟨b2, hb2⟩ : ∃ z, wc.heap.size = z := ⟨_, rfl⟩
      have hra := heap_alloc_new wc (.cells #[.slice pu3 mu3 cu3, .slice (some ⟨gp, op, none⟩) n cp, .slice pB mB cB] 25)
      rw [hb2] at hra
      simp only [hb2]
      have hga := Gr.alloc wc (.cells #[.slice pu3 mu3 cu3, .slice (some ⟨gp, op, none⟩) n cp, .slice pB mB cB] 25)
      replace HK := Lib.hid (HK.out.gr hga)
      have HL2 := Lib.hid (lsts3 hra HK.out.m.a HK.out.m.m.p (HoC.out.gr hga) (Few1.less HFw.out.1) (Few1.less HFw.out.2.2.2.1) (Few1.join HFw.out.1 HFw.out.2.2.2.1))
      clear hra hga hb2 HoC
      generalize wc.alloc (.cells #[.slice pu3 mu3 cu3, .slice (some ⟨gp, op, none⟩) n cp, .slice pB mB cB] 25) = wd at HK HL2 ⊢
      go_loopw [27, 29, 83] (fun _ _ v83 W => ∃ (k2 : Nat), k2 ≤ 3 ∧ v83 = .int .i64 (k2 : Int) ∧ Hid (CmRd w x5 x6 b n0 n1 n2 n3 ⟨xP, xF, xN, xD⟩ I J n E P S p (some ⟨gp, op, none⟩) ps c cp cs (.slice pu3 mu3 cu3) (.slice pu4 mu4 cu4) (.slice pu8 mu8 cu8) (cutsD l3 20 70) (cutsD l4 20 70) (cutsD l8 12 40) bq b1 I1 J1 p1 m1 c1 E1 W) ∧ Hid (Lsts b2 3 W)) (fun _ _ v83 _ => 3 - (intOf v83).toNat)
      case atStart => exact ⟨0, by omega, rfl, HK, HL2⟩
      clear HK HL2
      case round =>
        obtain ⟨k2, hk2, rfl, HK, HL2⟩ := hrel
        by_cases hlt2 : k2 < 3
        · have i0 : (0 : Int) ≤ (k2 : Int) := by omega
          have i1 : (k2 : Int) < 3 := by omega
          have ht : decide ((k2 : Int) < 3) = true := decide_eq_true i1
          obtain ⟨py, cy, Y, hcy, hY, hYf⟩ := HL2.out k2 hlt2
          have HY := Lib.hid hY
          have HYf := Lib.hid hYf
          obtain ⟨ny, hny⟩ : ∃ z, Y.length = z := ⟨_, rfl⟩
          rw [hny] at hcy HY
          clear hY hYf hny
          go_upto_region 15 with fail
          clear hcy i0 i1 ht
          go_wp2_with ((with_reducible show wpList _ _ _ (⟨some 91, _, _, _, _, _⟩ :: _) _ _); refine append_fresh0 (B := wr.heap.size) (M := cutsD l4 20 70) rfl (.tmp 89) (.tmp 90) rfl (Nat.le_refl _) (Gr.alloc _ _).size rfl rfl (HK.out.m.t.gr (Gr.alloc _ _)) ?b1A ?_)
          case b1A => have := HFw.out.2.1.1; omega
          intro vA wb ho1 hg1
          have HgB := Lib.hid ((Gr.alloc wr _).trans hg1)
          have HoB := Lib.hid ho1
          clear ho1 hg1
          go_wp2_with ((with_reducible show wpList _ _ _ (⟨some 93, _, _, _, _, _⟩ :: _) _ _); refine append_strs (L := cutsD l4 20 70) (M := S) rfl (.tmp 91) (.tmp 92) rfl rfl HoB.out rfl (HK.out.gr HgB.out).m.m.s ?b1A HgB.out.size ?_)
          case b1A => have h1 := HFw.out.2.1.1; have h2 := HFw.out.2.2.2.2.1; omega
          intro vB wc ho2 hc2
          have HgC := Lib.hid (gr_step HgB.out (Gr.refl _) hc2 (fun g e => Own.ge HoB.out e))
          have HoC := Lib.hid ho2.strs
          obtain ⟨pB, mB, cB, rfl⟩ := shape3 ho2.strs
          clear ho2 hc2 HgB HoB
          go_upto_region 16 with fail
          obtain ⟨b3, hb3⟩ : ∃ z, wc.heap.size = z := ⟨_, rfl⟩
          have hra := heap_alloc_new wc (.cells #[.slice pu4 mu4 cu4, .slice ps n cs, .slice pB mB cB] 25)
          rw [hb3] at hra
          simp only [hb3]
          have hga := Gr.alloc wc (.cells #[.slice pu4 mu4 cu4, .slice ps n cs, .slice pB mB cB] 25)
          replace HK := Lib.hid (HK.out.gr (HgC.out.trans hga))
          replace HL2 := Lib.hid (HL2.out.gr (HgC.out.trans hga))
          replace HY := Lib.hid (HY.out.gr (HgC.out.trans hga))
          have HL3 := Lib.hid (lsts3 hra HK.out.m.t HK.out.m.m.s (HoC.out.gr hga) (Few1.less HFw.out.2.1) (Few1.less HFw.out.2.2.2.2) (Few1.join HFw.out.2.1 HFw.out.2.2.2.2))
          clear hra hga hb3 HoC HgC
          generalize wc.alloc (.cells #[.slice pu4 mu4 cu4, .slice ps n cs, .slice pB mB cB] 25) = wd at HK HL2 HY HL3 ⊢
          go_loopw [29, 96] (fun _ v96 W => ∃ (k3 : Nat), k3 ≤ 3 ∧ v96 = .int .i64 (k3 : Int) ∧ Hid (CmRd w x5 x6 b n0 n1 n2 n3 ⟨xP, xF, xN, xD⟩ I J n E P S p (some ⟨gp, op, none⟩) ps c cp cs (.slice pu3 mu3 cu3) (.slice pu4 mu4 cu4) (.slice pu8 mu8 cu8) (cutsD l3 20 70) (cutsD l4 20 70) (cutsD l8 12 40) bq b1 I1 J1 p1 m1 c1 E1 W) ∧ Hid (Lsts b2 3 W) ∧ Hid (StrsAt (.slice py ny cy) Y W) ∧ Hid (Lsts b3 3 W)) (fun _ v96 _ => 3 - (intOf v96).toNat)
          case atStart => exact ⟨0, by omega, rfl, HK, HL2, HY, HL3⟩
          clear HK HL2 HY HL3
          case round =>
            obtain ⟨k3, hk3, rfl, HK, HL2, HY, HL3⟩ := hrel
            by_cases hlt3 : k3 < 3
            · have i0 : (0 : Int) ≤ (k3 : Int) := by omega
              have i1 : (k3 : Int) < 3 := by omega
              have ht : decide ((k3 : Int) < 3) = true := decide_eq_true i1
              obtain ⟨pz, cz, Z, hcz, hZ, hZf⟩ := HL3.out k3 hlt3
              have HZ := Lib.hid hZ
              have HZf := Lib.hid hZf
              obtain ⟨nz, hnz⟩ : ∃ z, Z.length = z := ⟨_, rfl⟩
              rw [hnz] at hcz HZ
              clear hZ hZf hnz
              go_upto_region 18 with fail
              clear hcz i0 i1 ht
              obtain ⟨R1, hR1⟩ : ∃ z, checkD I1 J1 E1 (Y.zip Z) = z := ⟨_, rfl⟩
              have hRf : R1.length ≤ 1000000 := by rw [← hR1]; exact checkD_few HE1.out.1 (zip_few Y Z HYf.out.1)
              have HC1 : Hid (∀ y, Gr wr y → Calls Tryz.prog 30 #[.agg #[.int .i64 I1, .int .i64 J1, .slice p1 m1 c1], .slice py ny cy, .slice pz nz cz] y fun e w' => ∃ u, e = .returned u ∧ StrsAt u R1 w' ∧ Gr y w') := Lib.hid (fun y hg => chk_st y hR1 (HK.out.e.gr hg) HE1.out.1 HE1.out.2 (HY.out.gr hg) (HZ.out.gr hg) HYf.out HZf.out (HT.out.gr (HK.out.m.m.g.trans hg)))
              have HC2 : Hid (∀ y, Gr wr y → Calls Tryz.prog 31 #[.agg #[.int .i64 I1, .int .i64 J1, .slice p1 m1 c1], .slice py ny cy, .slice pz nz cz] y fun e w' => ∃ u, e = .returned u ∧ StrsAt u R1 w' ∧ Gr y w') := Lib.hid (fun y hg => chkR_st y hR1 (HK.out.e.gr hg) HE1.out.1 HE1.out.2 (HY.out.gr hg) (HZ.out.gr hg) HYf.out HZf.out)
              clear hR1
              have S0 : ∀ q : GrS wr.drew, q.w.cell? ⟨b1, 0, none⟩ = some (.int .i64 I1) := fun q => q.h.cell (w := wr.drew) (row3 HK.out.k).1
              have S1 : ∀ q : GrS wr.drew, q.w.cell? ⟨b1, 1, none⟩ = some (.int .i64 J1) := fun q => q.h.cell (w := wr.drew) (row3 HK.out.k).2.1
              have S2 : ∀ q : GrS wr.drew, q.w.cell? ⟨b1, 2, none⟩ = some (.slice p1 m1 c1) := fun q => q.h.cell (w := wr.drew) (row3 HK.out.k).2.2
              refine region_grow 10 228 (by kernel_rfl) rfl (by kernel_rfl) rfl rfl ?_
              simp only [List.take_succ_cons, List.take_zero, List.drop_succ_cons, List.drop_zero]
              refine seg 3 rfl rfl rfl rfl ?_
              simp only [List.take_succ_cons, List.take_zero, List.drop_succ_cons, List.drop_zero]
              repeat (go_big_quiet_step (fail))
              refine wpQuiet_nil ?_
              intro _
              refine grow_open (fun v w => StrsAt v R1 w) rfl rfl rfl rfl (strs_stb _) (fun w1 hG => ?_) ?_
              · go_simp
                refine (HC1.out w1 ((Gr.drew wr).trans hG)).mono ?_
                rintro e w' ⟨u, rfl, h1, h2⟩
                exact ⟨u, rfl, h2, h1⟩
              refine seg 3 rfl rfl rfl rfl ?_
              simp only [List.take_succ_cons, List.take_zero, List.drop_succ_cons, List.drop_zero]
              repeat (go_big_quiet_step (fail))
              refine wpQuiet_nil ?_
              intro _
              refine grow_open (fun v w => StrsAt v R1 w) rfl rfl rfl rfl (strs_stb _) (fun w1 hG => ?_) ?_
              · go_simp
                refine (HC2.out w1 ((Gr.drew wr).trans hG)).mono ?_
                rintro e w' ⟨u, rfl, h1, h2⟩
                exact ⟨u, rfl, h2, h1⟩
              refine grow_det2 103 107 (v := .bool true) rfl (by decide) (by decide) rfl rfl rfl rfl (by decide) (by decide) rfl rfl rfl rfl (fun w1 u u2 hG hu hu2 => ?_) ?_
              · simp only [Act.put, List.setIfInBounds_toArray, List.set_cons_zero, List.set_cons_succ]
                go_simp
                refine (sameS_any _ _ R1 R1 w1 hu hu2 hRf).mono ?_
                rintro e w' ⟨rfl, hg⟩
                exact ⟨by rw [decide_eq_true rfl], hg⟩
              simp only [Act.put, List.setIfInBounds_toArray, List.set_cons_zero, List.set_cons_succ]
              refine seg 1 rfl rfl rfl rfl ?_
              simp only [List.take_succ_cons, List.take_zero, List.drop_succ_cons, List.drop_zero]
              repeat (go_big_quiet_step (fail))
              refine wpQuiet_nil ?_
              intro _
              refine grow_pop rfl (by decide) rfl (fun u107 => ?_)
              refine grow_pop rfl (by decide) rfl (fun u103 => ?_)
              refine grow_end0 rfl rfl (fun wk hG g103 g107 => ?_)
              clear g103 g107
              simp only [Act.put, List.setIfInBounds_toArray, List.set_cons_zero, List.set_cons_succ]
              have hgk : Gr wr wk := (Gr.drew wr).trans hG
              replace HK := Lib.hid (HK.out.gr hgk)
              replace HL2 := Lib.hid (HL2.out.gr hgk)
              replace HY := Lib.hid (HY.out.gr hgk)
              replace HL3 := Lib.hid (HL3.out.gr hgk)
              clear hgk hG S0 S1 S2 HC1 HC2 HZ HZf hRf
              go_wp2_with fail
              go_roundw
              case rel => exact ⟨k3 + 1, by omega, by go_num, HK, HL2, HY, HL3⟩
              case measure => simp [intOf]; omega
            · have hke : k3 = 3 := by omega
              subst hke
              clear HL3 hlt3 HY HYf
              go_wp2_with fail
              go_roundw
              case rel => exact ⟨k2 + 1, by omega, by go_num, HK, HL2⟩
              case measure => simp [intOf]; omega
        · have hke : k2 = 3 := by omega
          subst hke
          clear HL2 hlt2
          obtain ⟨j, hj, hjn⟩ : ∃ j, pickD n0 n = j ∧ j < n := ⟨_, rfl, pickD_lt n0 n (by have := HFm.out.bounds; omega)⟩
          have HPk : Hid (∀ y, Calls Tryz.prog 21 #[.int .i64 n0, .int .i64 (n : Int)] y fun e w' => e = .returned (.int .i64 (j : Int)) ∧ y = w') := Lib.hid (fun y => by rw [← hj]; exact pick_any n0 n y HN.out.1 (by have := HFm.out.bounds; omega) (by have := HFm.out.bounds; omega))
          obtain ⟨pj, hpj⟩ : ∃ z, pathOf j = z := ⟨_, rfl⟩
          have hpjs : pj.size ≤ 70 := by rw [← hpj]; show 3 ≤ 70; decide
          have hcj : wr.cell? ⟨gp, op + j, none⟩ = some (.string pj) := by rw [← hpj]; exact strs_cell HK.out.m.m.p (HFm.out.pAt hjn)
          clear hj hpj
          obtain ⟨k0, k1, k2, k3⟩ := row4 HK.out.m.f
          go_wp2_with fail
          clear k1 k2 k3
          refine (HPk.out _).mono ?_
          rintro e w' ⟨rfl, rfl⟩
          clear HPk k0
          have i0 : (0 : Int) ≤ (j : Int) := by omega
          have i1 : (j : Int) < (n : Int) := by omega
          go_upto_region 23 with fail
          clear hcj i0 i1
          obtain ⟨b4, hb4⟩ : ∃ z, wr.heap.size = z := ⟨_, rfl⟩
          have hra := heap_alloc_new wr (.cells #[.string sp, .string pj] 9)
          rw [hb4] at hra
          simp only [hb4]
          replace HK := Lib.hid (HK.out.gr (Gr.alloc wr (.cells #[.string sp, .string pj] 9)))
          have HY4 := Lib.hid hra
          clear hra hb4 hjn
          generalize wr.alloc (.cells #[.string sp, .string pj] 9) = wd at HK HY4 ⊢
          go_loopw [31, 32, 33, 34, 35, 36, 37, 38, 39, 41, 123] (fun _ _ _ _ _ _ _ _ _ _ v123 W => ∃ (k4 : Nat), k4 ≤ 2 ∧ v123 = .int .i64 (k4 : Int) ∧ Hid (CmRd w x5 x6 b n0 n1 n2 n3 ⟨xP, xF, xN, xD⟩ I J n E P S p (some ⟨gp, op, none⟩) ps c cp cs (.slice pu3 mu3 cu3) (.slice pu4 mu4 cu4) (.slice pu8 mu8 cu8) (cutsD l3 20 70) (cutsD l4 20 70) (cutsD l8 12 40) bq b1 I1 J1 p1 m1 c1 E1 W) ∧ Hid (W.heap[b4]? = some (.cells #[.string sp, .string pj] 9 (0, 0)))) (fun _ _ _ _ _ _ _ _ _ _ v123 _ => 2 - (intOf v123).toNat)
          case atStart => exact ⟨0, by omega, rfl, HK, HY4⟩
          clear HK HY4
          case round =>
            obtain ⟨k4, hk4, rfl, HK, HY4⟩ := hrel
            by_cases hlt4 : k4 < 2
            · have i0 : (0 : Int) ≤ (k4 : Int) := by omega
              have i1 : (k4 : Int) < 2 := by omega
              have ht : decide ((k4 : Int) < 2) = true := decide_eq_true i1
              obtain ⟨s1, hcs⟩ : ∃ s1, wr.cell? ⟨b4, k4, none⟩ = some (.string s1) := by
                have hb := HY4.out
                rcases (show k4 = 0 ∨ k4 = 1 by omega) with rfl | rfl
                · exact ⟨sp, by simp [World.cell?, hb]⟩
                · exact ⟨pj, by simp [World.cell?, hb]⟩
              obtain ⟨aP, aF, aN, aD, N1, L1, C1, hpr, haP, hL1⟩ := pr_parts I1 J1 E1 s1 HE1.out.1 HE1.out.2
              have HPv : Hid (∀ y, Gr wr y → _) := Lib.hid (fun y (hg : Gr wr y) => prove_to y hpr (HK.out.e.gr hg) HE1.out.1 HE1.out.2 (HT.out.gr (HK.out.m.m.g.trans hg)))
              have HPr : Hid (∀ y, Gr wr y → _) := Lib.hid (fun y (hg : Gr wr y) => proveR_to y hpr (HK.out.e.gr hg) HE1.out.1 HE1.out.2)
              have HaP := Lib.hid haP
              have HL1 := Lib.hid hL1
              clear hpr haP hL1
              go_upto_region 25 with fail
              clear hcs i0 i1 ht
              obtain ⟨k0, k1, k2⟩ := row3 HK.out.k
              go_wp2_with fail
              clear k0 k1 k2
              refine (HPv.out wr (Gr.refl _)).mono ?_
              rintro e we ⟨ua, rfl, hua, hg⟩
              obtain ⟨pUa, mUa, cUa, rfl⟩ := shape3 hua
              have HGe := Lib.hid hg
              have HUa := Lib.hid hua
              clear hg hua HPv
              go_upto_region 26 with fail
              obtain ⟨b32, hb32⟩ : ∃ z, we.heap.size = z := ⟨_, rfl⟩
              have hra := heap_alloc_new we (.cells #[.string aP, .int .i64 aF, .int .i64 aN, .string aD] 28)
              rw [hb32] at hra
              simp only [hb32]
              have hga := Gr.alloc we (.cells #[.string aP, .int .i64 aF, .int .i64 aN, .string aD] 28)
              replace HGe := Lib.hid (HGe.out.trans hga)
              replace HUa := Lib.hid (HUa.out.gr hga)
              have HE32 := Lib.hid hra
              clear hra hga hb32
              generalize we.alloc (.cells #[.string aP, .int .i64 aF, .int .i64 aN, .string aD] 28) = wf at HGe HUa HE32 ⊢
              obtain ⟨k0, k1, k2⟩ := row3 (HK.out.gr HGe.out).k
              go_wp2_with fail
              clear k0 k1 k2
              refine (HPr.out wf HGe.out).mono ?_
              rintro e wg ⟨ub, rfl, hub, hg⟩
              replace HGe := Lib.hid (HGe.out.trans hg)
              replace HUa := Lib.hid (HUa.out.gr hg)
              replace HE32 := Lib.hid (hg.block HE32.out)
              have HUb := Lib.hid hub
              clear hg hub HPr
              go_upto_region 27 with fail
              obtain ⟨b36, hb36⟩ : ∃ z, wg.heap.size = z := ⟨_, rfl⟩
              have hra := heap_alloc_new wg (.cells #[.string aP, .int .i64 aF, .int .i64 aN, .string aD] 28)
              rw [hb36] at hra
              simp only [hb36]
              have hga := Gr.alloc wg (.cells #[.string aP, .int .i64 aF, .int .i64 aN, .string aD] 28)
              replace HGe := Lib.hid (HGe.out.trans hga)
              replace HUa := Lib.hid (HUa.out.gr hga)
              replace HUb := Lib.hid (HUb.out.gr hga)
              replace HE32 := Lib.hid (hga.block HE32.out)
              obtain ⟨m0, m1, m2, m3⟩ := row4 hra
              clear hra hga hb36
              generalize wg.alloc (.cells #[.string aP, .int .i64 aF, .int .i64 aN, .string aD] 28) = wh at HGe HUa HUb HE32 m0 m1 m2 m3 ⊢
              obtain ⟨k0, k1, k2, k3⟩ := row4 HE32.out
              go_wp2_with fail
              clear k0 k1 k2 k3 m0 m1 m2 m3
              refine (sameS_any _ _ L1 L1 wh HUa.out HUb.out (by have := HL1.out.1; omega)).mono ?_
              rintro e wi ⟨rfl, hg⟩
              simp only
              replace HGe := Lib.hid (HGe.out.trans hg)
              replace HUa := Lib.hid (HUa.out.gr hg)
              replace HE32 := Lib.hid (hg.block HE32.out)
              clear hg HUb
              go_upto_region 30 with fail
              obtain ⟨b5, hb5⟩ : ∃ z, wi.heap.size = z := ⟨_, rfl⟩
              have hra := heap_alloc_new wi (.cells #[.slice pUa mUa cUa, .slice pu8 mu8 cu8] 25)
              rw [hb5] at hra
              simp only [hb5]
              have hga := Gr.alloc wi (.cells #[.slice pUa mUa cUa, .slice pu8 mu8 cu8] 25)
              replace HK := Lib.hid (HK.out.gr (HGe.out.trans hga))
              replace HY4 := Lib.hid ((HGe.out.trans hga).block HY4.out)
              replace HE32 := Lib.hid (hga.block HE32.out)
              have HL5 := Lib.hid (lsts2 hra (HUa.out.gr hga) HK.out.m.q HL1.out (Few1.less HFw.out.2.2.1))
              clear hra hga hb5 HUa HGe HL1
              generalize wi.alloc (.cells #[.slice pUa mUa cUa, .slice pu8 mu8 cu8] 25) = wj at HK HY4 HE32 HL5 ⊢
              go_loopw [41, 166] (fun _ v166 W => ∃ (k5 : Nat), k5 ≤ 2 ∧ v166 = .int .i64 (k5 : Int) ∧ Hid (CmRd w x5 x6 b n0 n1 n2 n3 ⟨xP, xF, xN, xD⟩ I J n E P S p (some ⟨gp, op, none⟩) ps c cp cs (.slice pu3 mu3 cu3) (.slice pu4 mu4 cu4) (.slice pu8 mu8 cu8) (cutsD l3 20 70) (cutsD l4 20 70) (cutsD l8 12 40) bq b1 I1 J1 p1 m1 c1 E1 W) ∧ Hid (W.heap[b4]? = some (.cells #[.string sp, .string pj] 9 (0, 0))) ∧ Hid (W.heap[b32]? = some (.cells #[.string aP, .int .i64 aF, .int .i64 aN, .string aD] 28 (0, 0))) ∧ Hid (Lsts b5 2 W)) (fun _ v166 _ => 2 - (intOf v166).toNat)
              case atStart => exact ⟨0, by omega, rfl, HK, HY4, HE32, HL5⟩
              clear HK HY4 HE32 HL5
              case round =>
                obtain ⟨k5, hk5, rfl, HK, HY4, HE32, HL5⟩ := hrel
                by_cases hlt5 : k5 < 2
                · have i0 : (0 : Int) ≤ (k5 : Int) := by omega
                  have i1 : (k5 : Int) < 2 := by omega
                  have ht : decide ((k5 : Int) < 2) = true := decide_eq_true i1
                  obtain ⟨pz, cz, Z, hcz, hZ, hZf⟩ := HL5.out k5 hlt5
                  have HZ := Lib.hid hZ
                  have HZf := Lib.hid hZf
                  obtain ⟨nz, hnz⟩ : ∃ z, Z.length = z := ⟨_, rfl⟩
                  rw [hnz] at hcz HZ
                  clear hZ hZf hnz
                  go_upto_region 32 with fail
                  clear hcz i0 i1 ht
                  obtain ⟨V1, hV1⟩ : ∃ z, verM R I J n n1 ⟨aP, aF, aN, aD⟩ Z = z := ⟨_, rfl⟩
                  obtain ⟨V2, hV2⟩ : ∃ z, verM R n0 n1 n2 n3 ⟨xP, xF, xN, xD⟩ Z = z := ⟨_, rfl⟩
                  have HV1 : Hid (∀ y, Gr wr y → Calls Tryz.prog 34 #[.string R, .int .i64 I, .int .i64 J, .int .i64 (n : Int), .int .i64 n1, .agg #[.string aP, .int .i64 aF, .int .i64 aN, .string aD], .slice pz nz cz] y fun e w' => e = .returned (.bool V1) ∧ Gr y w') := Lib.hid (fun y hg => by rw [← hV1]; exact verifyM_any R I J n n1 ⟨aP, aF, aN, aD⟩ _ Z y (HZ.out.gr hg) (by have := HZf.out.1; omega) (by have := HFm.out.bounds; omega) HaP.out HZf.out.2 (HT.out.gr (HK.out.m.m.g.trans hg)))
                  have HV1r : Hid (∀ y, Gr wr y → Calls Tryz.prog 35 #[.string R, .int .i64 I, .int .i64 J, .int .i64 (n : Int), .int .i64 n1, .agg #[.string aP, .int .i64 aF, .int .i64 aN, .string aD], .slice pz nz cz] y fun e w' => e = .returned (.bool V1) ∧ Gr y w') := Lib.hid (fun y hg => by rw [← hV1]; exact verifyMR_any R I J n n1 ⟨aP, aF, aN, aD⟩ _ Z y (HZ.out.gr hg) (by have := HZf.out.1; omega) HaP.out HZf.out.2)
                  have HV2 : Hid (∀ y, Gr wr y → Calls Tryz.prog 34 #[.string R, .int .i64 n0, .int .i64 n1, .int .i64 n2, .int .i64 n3, .agg #[.string xP, .int .i64 xF, .int .i64 xN, .string xD], .slice pz nz cz] y fun e w' => e = .returned (.bool V2) ∧ Gr y w') := Lib.hid (fun y hg => by rw [← hV2]; exact verifyM_any R n0 n1 n2 n3 ⟨xP, xF, xN, xD⟩ _ Z y (HZ.out.gr hg) (by have := HZf.out.1; omega) HN.out.2.2.1.2 (Nat.le_trans Hxe.out (by decide)) HZf.out.2 (HT.out.gr (HK.out.m.m.g.trans hg)))
                  have HV2r : Hid (∀ y, Gr wr y → Calls Tryz.prog 35 #[.string R, .int .i64 n0, .int .i64 n1, .int .i64 n2, .int .i64 n3, .agg #[.string xP, .int .i64 xF, .int .i64 xN, .string xD], .slice pz nz cz] y fun e w' => e = .returned (.bool V2) ∧ Gr y w') := Lib.hid (fun y hg => by rw [← hV2]; exact verifyMR_any R n0 n1 n2 n3 ⟨xP, xF, xN, xD⟩ _ Z y (HZ.out.gr hg) (by have := HZf.out.1; omega) (Nat.le_trans Hxe.out (by decide)) HZf.out.2)
                  clear hV1 hV2
                  have S0 : ∀ q : GrS wr.drew, q.w.cell? ⟨b, 0, none⟩ = some (.int .i64 I) := fun q => q.h.cell (w := wr.drew) (row3 HK.out.m.m.r).1
                  have S1 : ∀ q : GrS wr.drew, q.w.cell? ⟨b, 1, none⟩ = some (.int .i64 J) := fun q => q.h.cell (w := wr.drew) (row3 HK.out.m.m.r).2.1
                  have S2 : ∀ q : GrS wr.drew, q.w.cell? ⟨b, 2, none⟩ = some (.slice p n c) := fun q => q.h.cell (w := wr.drew) (row3 HK.out.m.m.r).2.2
                  have F0 : ∀ q : GrS wr.drew, q.w.cell? ⟨x5, 0, none⟩ = some (.int .i64 n0) := fun q => q.h.cell (w := wr.drew) (row4 HK.out.m.f).1
                  have F1 : ∀ q : GrS wr.drew, q.w.cell? ⟨x5, 1, none⟩ = some (.int .i64 n1) := fun q => q.h.cell (w := wr.drew) (row4 HK.out.m.f).2.1
                  have F2 : ∀ q : GrS wr.drew, q.w.cell? ⟨x5, 2, none⟩ = some (.int .i64 n2) := fun q => q.h.cell (w := wr.drew) (row4 HK.out.m.f).2.2.1
                  have F3 : ∀ q : GrS wr.drew, q.w.cell? ⟨x5, 3, none⟩ = some (.int .i64 n3) := fun q => q.h.cell (w := wr.drew) (row4 HK.out.m.f).2.2.2
                  have X0 : ∀ q : GrS wr.drew, q.w.cell? ⟨x6, 0, none⟩ = some (.string xP) := fun q => q.h.cell (w := wr.drew) (row4 HK.out.m.x).1
                  have X1 : ∀ q : GrS wr.drew, q.w.cell? ⟨x6, 1, none⟩ = some (.int .i64 xF) := fun q => q.h.cell (w := wr.drew) (row4 HK.out.m.x).2.1
                  have X2 : ∀ q : GrS wr.drew, q.w.cell? ⟨x6, 2, none⟩ = some (.int .i64 xN) := fun q => q.h.cell (w := wr.drew) (row4 HK.out.m.x).2.2.1
                  have X3 : ∀ q : GrS wr.drew, q.w.cell? ⟨x6, 3, none⟩ = some (.string xD) := fun q => q.h.cell (w := wr.drew) (row4 HK.out.m.x).2.2.2
                  have Y0 : ∀ q : GrS wr.drew, q.w.cell? ⟨b32, 0, none⟩ = some (.string aP) := fun q => q.h.cell (w := wr.drew) (row4 HE32.out).1
                  have Y1 : ∀ q : GrS wr.drew, q.w.cell? ⟨b32, 1, none⟩ = some (.int .i64 aF) := fun q => q.h.cell (w := wr.drew) (row4 HE32.out).2.1
                  have Y2 : ∀ q : GrS wr.drew, q.w.cell? ⟨b32, 2, none⟩ = some (.int .i64 aN) := fun q => q.h.cell (w := wr.drew) (row4 HE32.out).2.2.1
                  have Y3 : ∀ q : GrS wr.drew, q.w.cell? ⟨b32, 3, none⟩ = some (.string aD) := fun q => q.h.cell (w := wr.drew) (row4 HE32.out).2.2.2
                  refine region_grow 54 228 (by kernel_rfl) rfl (by kernel_rfl) rfl rfl ?_
                  simp only [List.take_succ_cons, List.take_zero, List.drop_succ_cons, List.drop_zero]
                  refine seg 12 rfl rfl rfl rfl ?_
                  simp only [List.take_succ_cons, List.take_zero, List.drop_succ_cons, List.drop_zero]
                  repeat (go_big_quiet_step (fail))
                  refine wpQuiet_nil ?_
                  intro _
                  refine grow_det (v := .bool V1) rfl rfl rfl rfl rfl ?_ ?_
                  · intro w1 hG
                    go_simp
                    refine (HV1.out w1 ((Gr.drew wr).trans hG)).mono ?_
                    rintro e w' ⟨rfl, hb⟩
                    exact ⟨rfl, hb⟩
                  simp only [Act.put, List.setIfInBounds_toArray, List.set_cons_zero, List.set_cons_succ]
                  refine seg 12 rfl rfl rfl rfl ?_
                  simp only [List.take_succ_cons, List.take_zero, List.drop_succ_cons, List.drop_zero]
                  repeat (go_big_quiet_step (fail))
                  refine wpQuiet_nil ?_
                  intro _
                  refine grow_det (v := .bool V1) rfl rfl rfl rfl rfl ?_ ?_
                  · intro w1 hG
                    go_simp
                    refine (HV1r.out w1 ((Gr.drew wr).trans hG)).mono ?_
                    rintro e w' ⟨rfl, hb⟩
                    exact ⟨rfl, hb⟩
                  simp only [Act.put, List.setIfInBounds_toArray, List.set_cons_zero, List.set_cons_succ]
                  refine seg 2 rfl rfl rfl rfl ?_
                  simp only [List.take_succ_cons, List.take_zero, List.drop_succ_cons, List.drop_zero]
                  repeat (go_big_quiet_step (fail))
                  refine wpQuiet_nil ?_
                  intro _
                  refine seg 11 rfl rfl rfl rfl ?_
                  simp only [List.take_succ_cons, List.take_zero, List.drop_succ_cons, List.drop_zero]
                  repeat (go_big_quiet_step (fail))
                  refine wpQuiet_nil ?_
                  intro _
                  refine grow_det (v := .bool V2) rfl rfl rfl rfl rfl ?_ ?_
                  · intro w1 hG
                    go_simp
                    refine (HV2.out w1 ((Gr.drew wr).trans hG)).mono ?_
                    rintro e w' ⟨rfl, hb⟩
                    exact ⟨rfl, hb⟩
                  simp only [Act.put, List.setIfInBounds_toArray, List.set_cons_zero, List.set_cons_succ]
                  refine seg 11 rfl rfl rfl rfl ?_
                  simp only [List.take_succ_cons, List.take_zero, List.drop_succ_cons, List.drop_zero]
                  repeat (go_big_quiet_step (fail))
                  refine wpQuiet_nil ?_
                  intro _
                  refine grow_det (v := .bool V2) rfl rfl rfl rfl rfl ?_ ?_
                  · intro w1 hG
                    go_simp
                    refine (HV2r.out w1 ((Gr.drew wr).trans hG)).mono ?_
                    rintro e w' ⟨rfl, hb⟩
                    exact ⟨rfl, hb⟩
                  simp only [Act.put, List.setIfInBounds_toArray, List.set_cons_zero, List.set_cons_succ]
                  refine seg 2 rfl rfl rfl rfl ?_
                  simp only [List.take_succ_cons, List.take_zero, List.drop_succ_cons, List.drop_zero]
                  repeat (go_big_quiet_step (fail))
                  refine wpQuiet_nil ?_
                  intro _
                  refine grow_end0 rfl rfl ?_
                  intro wk hG
                  have hgk : Gr wr wk := (Gr.drew wr).trans hG
                  replace HK := Lib.hid (HK.out.gr hgk)
                  replace HY4 := Lib.hid (hgk.block HY4.out)
                  replace HE32 := Lib.hid (hgk.block HE32.out)
                  replace HL5 := Lib.hid (HL5.out.gr hgk)
                  clear hgk hG S0 S1 S2 F0 F1 F2 F3 X0 X1 X2 X3 Y0 Y1 Y2 Y3 HV1 HV1r HV2 HV2r HZ HZf
                  go_wp2_with fail
                  go_roundw
                  case rel => exact ⟨k5 + 1, by omega, by go_num, HK, HY4, HE32, HL5⟩
                  case measure => simp [intOf]; omega
                · have hke : k5 = 2 := by omega
                  subst hke
                  clear HE32 HL5 hlt5
                  go_wp2_with fail
                  go_roundw
                  case rel => exact ⟨k4 + 1, by omega, by go_num, HK, HY4⟩
                  case measure => simp [intOf]; omega
            · have hke : k4 = 2 := by omega
              subst hke
              clear HY4 hlt4
              go_wp2_with fail
              go_roundw
              case rel => exact ⟨k + 1, by omega, by go_num, Lib.hid HK.out.m, Lib.hid HK.out.q⟩
              case measure => simp [intOf]; omega
    · have hke : k = 2 := by omega
      subst hke
      go_wp2_with fail
      go_ret
      exact ⟨rfl, HM.out.m.g⟩
end Go.Proofs.YtjnnhhengpinmaaGreatDoor
