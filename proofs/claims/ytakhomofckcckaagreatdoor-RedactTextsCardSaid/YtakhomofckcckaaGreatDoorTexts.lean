/- The walk of the statement RedactTexts: it answers true. -/
import Derived.Test.YtakhomofckcckaaGreatDoorTxE
namespace Go.Proofs.YtakhomofckcckaaGreatDoor
open Go Go.RowKit Go.Shelf
attribute [local go_sem] gAt gUpon
attribute [local simp] Gr.refl Gr.alloc

theorem validB_swap {ls ms : List Ln} {cs ds : List Ce} {wd we : Int} {bits cits : ByteArray} (h : validB ls cs wd bits = true) (k : validB ms ds we cits = true) : validB ls ds we cits = true := by
  unfold validB at h k ⊢
  simp only [Bool.and_eq_true, decide_eq_true_eq] at h k ⊢
  exact ⟨h.1, k.2.1, k.2.2.1, h.2.2.2.1, k.2.2.2.2.1, k.2.2.2.2.2⟩
theorem validB_only {ls : List Ln} {cs : List Ce} {wd : Int} {bits : ByteArray} (h : validB ls cs wd bits = true) : validB ls [] 0 ⟨#[]⟩ = true :=
  validB_swap h (ms := []) (by decide +kernel)
set_option maxRecDepth 100000 in
set_option maxHeartbeats 8000000 in
theorem texts_any (v1 v2 : Value) (r0 r1 : Int) (s : ByteArray) (y1 y2 : Value) (q0 q1 : Int) (z : ByteArray) (w : World) (hx : CaseIn v1 v2 r0 r1 w) (hs : s.size ≤ 9223372036854775807) (hy : CaseIn y1 y2 q0 q1 w) (hz : z.size ≤ 9223372036854775807) (hT : Tab w) :
    Calls Tryz.prog 6 #[.agg #[v1, v2, .int .i64 r0, .int .i64 r1, .string s], .agg #[y1, y2, .int .i64 q0, .int .i64 q1, .string z]] w fun e w' => e = .returned (.bool true) ∧ Gr w w' := by
  have HX := Lib.hid hx
  have HY := Lib.hid hy
  have HT := Lib.hid hT
  obtain ⟨⟨L1, L2, h1, h2, -⟩, -⟩ := hx
  obtain ⟨p1, c1, rfl⟩ := h1.shape
  obtain ⟨p2, c2, rfl⟩ := h2.shape
  obtain ⟨⟨M1, M2, g1, g2, -⟩, -⟩ := hy
  obtain ⟨e1, d1, rfl⟩ := g1.shape
  obtain ⟨e2, d2, rfl⟩ := g2.shape
  have HLZ := Lib.hid hz
  clear hT h1 h2 g1 g2 hz
  go_enter Tryz.func6, Tryz.ntmps6
  go_upto_region 1 with fail
  refine wp_gen (F := fun y => Gr w y ∧ y.heap[w.heap.size]? = some (.cells #[.slice p1 L1.length c1, .slice p2 L2.length c2, .int .i64 r0, .int .i64 r1, .string s] 30 (0, 0)) ∧ y.heap[w.heap.size + 1]? = some (.cells #[.slice e1 M1.length d1, .slice e2 M2.length d2, .int .i64 q0, .int .i64 q1, .string z] 30 (0, 0))) ⟨(Gr.alloc _ _).trans (Gr.alloc _ _), (Gr.alloc _ _).block (heap_alloc_new _ _), by
    have h := heap_alloc_new (w.alloc (.cells #[.slice p1 L1.length c1, .slice p2 L2.length c2, .int .i64 r0, .int .i64 r1, .string s] 30)) (.cells #[.slice e1 M1.length d1, .slice e2 M2.length d2, .int .i64 q0, .int .i64 q1, .string z] 30)
    simpa using h⟩ ?_
  rintro w0 ⟨hg0, hrC, hrB⟩
  have HG0 := Lib.hid hg0
  have HRC := Lib.hid hrC
  have HRB := Lib.hid hrB
  generalize w.heap.size = gc at HRC HRB hrC hrB ⊢
  clear hg0 hrC hrB
  go_wp2_with fail
  refine (sane_any _ (HT.out.gr HG0.out)).mono ?_
  rintro e w1 ⟨rfl, hg1⟩
  obtain ⟨k0, k1, k2, k3, k4⟩ := row5 (hg1.block HRC.out)
  have HRB1 := Lib.hid (hg1.block HRB.out)
  have HG1 := Lib.hid (HG0.out.trans hg1)
  clear hg1 HRC HRB HG0
  go_wp2_with fail
  refine (made_any _ _ r0 r1 s _ (HX.out.gr HG1.out) hs).mono ?_
  rintro e w2 ⟨vL, vC, ls, cs, wd, bits, sc, rfl, hd, hsc, hg2⟩
  have HG2 := Lib.hid (HG1.out.trans hg2)
  have HRB2 := Lib.hid (hg2.block HRB1.out)
  have HD2 := Lib.hid hd
  obtain ⟨pl, cl, rfl⟩ := hd.1.1.shape
  obtain ⟨pc, cc, rfl⟩ := hd.1.2.shape
  have hls6 := hd.2.2
  clear hg2 hd k0 k1 k2 k3 k4 HRB1 HG1
  go_upto_region 3 with fail
  refine wp_gen (F := fun y => Gr w2 y ∧ y.heap[w2.heap.size]? = some (.cells #[.slice pl ls.length cl, .slice pc cs.length cc, .int .i64 wd, .string bits] 25 (0, 0))) ⟨Gr.alloc _ _, heap_alloc_new _ _⟩ ?_
  rintro w3 ⟨hg3, hr3⟩
  have HG3 := Lib.hid (HG2.out.trans hg3)
  have HD3 := Lib.hid (HD2.out.gr hg3)
  have HR3 := Lib.hid hr3
  obtain ⟨k0, k1, k2, k3, k4⟩ := row5 (hg3.block HRB2.out)
  generalize w2.heap.size = gd at hr3 HR3 ⊢
  clear hr3 hg3 HD2 HRB2 HG2
  go_wp2_with fail
  refine (made_any _ _ q0 q1 z _ (HY.out.gr HG3.out) HLZ.out).mono ?_
  rintro e w4 ⟨vM, vN, ms, ns, we, cits, sd, rfl, he, hsd, hg4⟩
  have HG4 := Lib.hid (HG3.out.trans hg4)
  have HD4 := Lib.hid (HD3.out.gr hg4)
  have HE4 := Lib.hid he
  have HR4 := Lib.hid (hg4.block HR3.out)
  obtain ⟨pm, cm, rfl⟩ := he.1.1.shape
  obtain ⟨pn, cn, rfl⟩ := he.1.2.shape
  clear hg4 he k0 k1 k2 k3 k4 HR3 HG3 HD3
  go_upto_region 4 with fail
  refine wp_gen (F := fun y => Gr w4 y ∧ y.heap[w4.heap.size]? = some (.cells #[.slice pm ms.length cm, .slice pn ns.length cn, .int .i64 we, .string cits] 25 (0, 0))) ⟨Gr.alloc _ _, heap_alloc_new _ _⟩ ?_
  rintro w5 ⟨hg5, hr5⟩
  have HG5 := Lib.hid (HG4.out.trans hg5)
  have HD5 := Lib.hid (HD4.out.gr hg5)
  have HE5 := Lib.hid (HE4.out.gr hg5)
  have HR5 := Lib.hid (hg5.block HR4.out)
  generalize w4.heap.size = gq at hr5 ⊢
  obtain ⟨k0, k1, k2, k3⟩ := row4 hr5
  obtain ⟨j0, j1, j2, j3⟩ := row4 (hg5.block HR4.out)
  have j0 : ∀ o, (w5.alloc o).cell? ⟨gd, 0, none⟩ = some (.slice pl ls.length cl) := fun o => (Gr.alloc w5 o).cell j0
  clear hr5 hg5 HD4 HE4 HR4 HG4
  go_upto_region 6 with fail
  refine wp_gen (F := fun y => Gr w5 y ∧ y.heap[w5.heap.size]? = some (.cells #[.slice pl ls.length cl, .slice pn ns.length cn, .int .i64 we, .string cits] 25 (0, 0))) ⟨Gr.alloc _ _, heap_alloc_new _ _⟩ ?_
  rintro w6 ⟨hg6, hr6⟩
  have HG6 := Lib.hid (HG5.out.trans hg6)
  have HD6 := Lib.hid (HD5.out.gr hg6)
  have HE6 := Lib.hid (HE5.out.gr hg6)
  have HR6 := Lib.hid (hg6.block HR5.out)
  have HT6 := Lib.hid hr6
  clear k0 k1 k2 k3 j0 j1 j2 j3
  generalize w5.heap.size = gt at hr6 HT6 ⊢
  obtain ⟨j0, j1, j2, j3⟩ := row4 (hg6.block HR5.out)
  clear hr6 hg6 HD5 HE5 HR5 HG5
  go_wp2_with fail
  refine (leaves_ok _ _ ls cs wd bits sc w6 HD6.out.1 HD6.out.2.1 (by omega) (HT.out.gr HG6.out)).mono ?_
  rintro e w7 ⟨u7, rfl, ho7, hg7⟩
  have HG7 := Lib.hid (HG6.out.trans hg7)
  have HD7 := Lib.hid (HD6.out.gr hg7)
  have HE7 := Lib.hid (HE6.out.gr hg7)
  have HR7 := Lib.hid (hg7.block HR6.out)
  obtain ⟨p7, c7, rfl⟩ := ho7.slice
  have HO7 : Hid (Rws 5 lfC (.slice p7 ls.length c7) (leavesD sc ls) w7) := Lib.hid (by
    have h := own_rws (l := leavesD sc ls) lfC_len (v := .slice p7 ls.length c7) (by rw [leavesD_len]; exact ho7)
    exact h)
  obtain ⟨i0, i1, i2, i3⟩ := row4 (hg7.block HT6.out)
  have HVs := Lib.hid (validB_swap HD6.out.2.1 HE6.out.2.1)
  clear hg7 ho7 j0 j1 j2 j3 HD6 HE6 HR6 HT6 HG6
  go_wp2_with fail
  refine (leaves_ok _ _ ls ns we cits sc w7 ⟨HD7.out.1.1, HE7.out.1.2⟩ HVs.out (by omega) (HT.out.gr HG7.out)).mono ?_
  rintro e w8 ⟨u8, rfl, ho8, hg8⟩
  have HG8 := Lib.hid (HG7.out.trans hg8)
  have HD8 := Lib.hid (HD7.out.gr hg8)
  have HR8 := Lib.hid (hg8.block HR7.out)
  have HO8 := Lib.hid (HO7.out.gr hg8)
  obtain ⟨p8, c8, rfl⟩ := ho8.slice
  have HP8 : Hid (Rws 5 lfC (.slice p8 ls.length c8) (leavesD sc ls) w8) := Lib.hid (by
    have h := own_rws (l := leavesD sc ls) lfC_len (v := .slice p8 ls.length c8) (by rw [leavesD_len]; exact ho8)
    exact h)
  have HLN : Hid ((leavesD sc ls).length = ls.length) := Lib.hid (leavesD_len sc ls)
  have hvl := validB_lines HD8.out.2.1
  have hll := leaves_list (secret := sc) hvl.1 hvl.2
  have HLNS := Lib.hid (leaves_lines hll)
  clear hg8 ho8 i0 i1 i2 i3 HD7 HE7 HR7 HO7 HG7 HVs hvl hll
  generalize leavesD sc ls = l at HO8 HP8 HLN HLNS
  go_wp2_with fail
  refine (same_lf _ _ l w8 HO8.out HP8.out (by rw [HLN.out]; omega)).mono ?_
  rintro e w9 ⟨rfl, hg9⟩
  have HG9 := Lib.hid (HG8.out.trans hg9)
  have HD9 := Lib.hid (HD8.out.gr hg9)
  have HR9 := Lib.hid (hg9.block HR8.out)
  have HO9 := Lib.hid (HO8.out.gr hg9)
  clear hg9 HD8 HR8 HO8 HP8 HG8
  go_wp2_with fail
  refine (rLines_any _ l w9 HO9.out (by rw [HLN.out]; omega)).mono ?_
  rintro e w10 ⟨u10, rfl, ho10, hg10⟩
  have HG10 := Lib.hid (HG9.out.trans hg10)
  have HD10 := Lib.hid (HD9.out.gr hg10)
  have HR10 := Lib.hid (hg10.block HR9.out)
  rw [HLNS.out] at ho10
  have hq10 : Rws 2 lnC u10 ls w10 := own_rws (s := 2) (enc := lnC) (fun _ => rfl) (Own.of_row ho10)
  obtain ⟨p10, c10, rfl⟩ := hq10.shape
  have HQ10 := Lib.hid hq10
  clear hg10 ho10 hq10 HD9 HR9 HO9 HG9
  go_upto_region 11 with fail
  refine wp_gen (F := fun y => Gr w10 y ∧ y.heap[w10.heap.size]? = some (.cells #[.slice p10 ls.length c10, .slice none 0 0, .int .i64 0, .string ⟨#[]⟩] 25 (0, 0))) ⟨Gr.alloc _ _, heap_alloc_new _ _⟩ ?_
  rintro w11 ⟨hg11, hr11⟩
  have HG11 := Lib.hid (HG10.out.trans hg11)
  have HD11 := Lib.hid (HD10.out.gr hg11)
  have HA11 : Hid (DocIn (.slice p10 ls.length c10) (.slice none 0 0) ls [] w11) := Lib.hid ⟨HQ10.out.gr hg11, .inl ⟨rfl, none, 0, rfl⟩⟩
  have HR11 := Lib.hid (hg11.block HR10.out)
  have HS11 := Lib.hid hr11
  have HVo := Lib.hid (validB_only HD11.out.2.1)
  generalize w10.heap.size = ga at hr11 HS11 ⊢
  obtain ⟨j0, j1, j2, j3⟩ := row4 (hg11.block HR10.out)
  clear hg11 hr11 HD10 HR10 HQ10 HG10
  go_wp2_with fail
  refine (property1_any _ _ ls cs wd bits w11 HD11.out.1 HD11.out.2.1).mono ?_
  rintro e w12 ⟨rfl, hg12⟩
  have HG12 := Lib.hid (HG11.out.trans hg12)
  have HD12 := Lib.hid (HD11.out.gr hg12)
  have HA12 := Lib.hid (HA11.out.gr hg12)
  have HR12 := Lib.hid (hg12.block HR11.out)
  have HS12 := Lib.hid (hg12.block HS11.out)
  obtain ⟨i0, i1, i2, i3⟩ := row4 (hg12.block HS11.out)
  clear hg12 j0 j1 j2 j3 HD11 HA11 HR11 HS11 HG11
  go_wp2_with fail
  refine (property1_any _ _ ls [] 0 ⟨#[]⟩ w12 HA12.out HVo.out).mono ?_
  rintro e w13 ⟨rfl, hg13⟩
  have HG13 := Lib.hid (HG12.out.trans hg13)
  have HD13 := Lib.hid (HD12.out.gr hg13)
  have HA13 := Lib.hid (HA12.out.gr hg13)
  have HS13 := Lib.hid (hg13.block HS12.out)
  obtain ⟨j0, j1, j2, j3⟩ := row4 (hg13.block HR12.out)
  clear hg13 i0 i1 i2 i3 HD12 HA12 HR12 HS12 HG12
  go_wp2_with fail
  refine (property2_any _ _ ls cs wd bits w13 HD13.out.1 HD13.out.2.1).mono ?_
  rintro e w14 ⟨rfl, hg14⟩
  have HG14 := Lib.hid (HG13.out.trans hg14)
  have HA14 := Lib.hid (HA13.out.gr hg14)
  obtain ⟨i0, i1, i2, i3⟩ := row4 (hg14.block HS13.out)
  clear hg14 j0 j1 j2 j3 HD13 HA13 HS13 HG13
  go_wp2_with fail
  refine (property2_any _ _ ls [] 0 ⟨#[]⟩ w14 HA14.out HVo.out).mono ?_
  rintro e w15 ⟨rfl, hg15⟩
  have HG15 := Lib.hid (HG14.out.trans hg15)
  generalize (propB txB ls.length ls).toArray = S1
  generalize (propB mkB ls.length ls).toArray = S2
  clear hg15 i0 i1 i2 i3 HA14 HG14
  go_wp2_with fail
  go_ret
  exact ⟨rfl, HG15.out⟩
end Go.Proofs.YtakhomofckcckaaGreatDoor
