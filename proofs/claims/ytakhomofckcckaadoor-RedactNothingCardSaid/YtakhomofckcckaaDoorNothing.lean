/- The walk of the statement RedactNothing: it answers true. -/
import Derived.Test.YtakhomofckcckaaDoorNtA
namespace Go.Proofs.YtakhomofckcckaaDoor
open Go Go.RowKit Go.Shelf
attribute [local go_sem] gAt gUpon
attribute [local simp] Gr.refl Gr.alloc

set_option maxRecDepth 100000 in
set_option maxHeartbeats 8000000 in
theorem nothing_any (v1 v2 : Value) (r0 r1 : Int) (s : ByteArray) (va : Value) (la : List Int) (y1 y2 : Value) (q0 q1 : Int) (z : ByteArray) (w : World) (hx : CaseIn v1 v2 r0 r1 w) (hs : s.size ≤ 9223372036854775807) (ha : Rws 1 inC va la w) (hla : la.length ≤ 9223372036854775807) (hra : ∀ x ∈ la, I64 x) (hy : CaseIn y1 y2 q0 q1 w) (hz : z.size ≤ 9223372036854775807) (hT : Tab w) :
    Calls Tryd.prog 4 #[.agg #[v1, v2, .int .i64 r0, .int .i64 r1, .string s], va, .agg #[y1, y2, .int .i64 q0, .int .i64 q1, .string z]] w fun e w' => e = .returned (.bool true) ∧ Gr w w' := by
  obtain ⟨iL, hiL, hzL, hszL, hbL⟩ := info_parts infoLn
  have HX := Lib.hid hx
  have HY := Lib.hid hy
  have HT := Lib.hid hT
  obtain ⟨⟨L1, L2, h1, h2, -⟩, -⟩ := hx
  obtain ⟨p1, c1, rfl⟩ := h1.shape
  obtain ⟨p2, c2, rfl⟩ := h2.shape
  obtain ⟨⟨M1, M2, g1, g2, -⟩, -⟩ := hy
  obtain ⟨e1, d1, rfl⟩ := g1.shape
  obtain ⟨e2, d2, rfl⟩ := g2.shape
  obtain ⟨pa, ca, rfl, hca⟩ := ha.shape2
  have hmna : min (la.length : Int) 20 = ((min la.length 20 : Nat) : Int) := by omega
  have hlea : min la.length 20 ≤ ca := Nat.le_trans (Nat.min_le_left _ _) hca
  have HA0 := Lib.hid (ha.cut 20)
  have HRA : Hid (∀ x ∈ la.take 20, I64 x) := Lib.hid (fun x hx => hra x (List.mem_of_mem_take hx))
  have HLA : Hid ((la.take 20).length = min la.length 20) := Lib.hid (by rw [List.length_take, Nat.min_comm])
  have HLZ := Lib.hid hz
  clear hT h1 h2 g1 g2 ha hra hca hz
  go_enter Tryd.func4, Tryd.ntmps4
  go_upto_region 1 with fail
  refine wp_gen (F := fun y => Gr w y ∧ y.heap[w.heap.size]? = some (.cells #[.slice p1 L1.length c1, .slice p2 L2.length c2, .int .i64 r0, .int .i64 r1, .string s] 26 (0, 0)) ∧ y.heap[w.heap.size + 1]? = some (.cells #[.slice e1 M1.length d1, .slice e2 M2.length d2, .int .i64 q0, .int .i64 q1, .string z] 26 (0, 0))) ⟨(Gr.alloc _ _).trans (Gr.alloc _ _), (Gr.alloc _ _).block (heap_alloc_new _ _), ?_⟩ ?_
  · have h := heap_alloc_new (w.alloc (.cells #[.slice p1 L1.length c1, .slice p2 L2.length c2, .int .i64 r0, .int .i64 r1, .string s] 26)) (.cells #[.slice e1 M1.length d1, .slice e2 M2.length d2, .int .i64 q0, .int .i64 q1, .string z] 26)
    rw [World.size_alloc] at h
    exact h
  rintro wA ⟨hgA, hrX, hrY⟩
  have HGA := Lib.hid hgA
  have HRX := Lib.hid hrX
  have HRY := Lib.hid hrY
  clear hgA hrX hrY
  go_wp2_with fail
  refine (sane_any _ (HT.out.gr HGA.out)).mono ?_
  rintro e w1 ⟨rfl, hg1⟩
  obtain ⟨k0, k1, k2, k3, k4⟩ := row5 (hg1.block HRX.out)
  have HG1 := Lib.hid (HGA.out.trans hg1)
  have HK1 := Lib.hid hg1
  clear hg1 HRX
  go_wp2_with fail
  refine (made_any _ _ r0 r1 s _ (HX.out.gr HG1.out) hs).mono ?_
  rintro e w2 ⟨vL, vC, ls, cs, wd, bits, sc, rfl, hd, hsc, hg2⟩
  have HG2 := Lib.hid (HG1.out.trans hg2)
  have HK2 := Lib.hid (HK1.out.trans hg2)
  have HD2 := Lib.hid hd
  obtain ⟨pl, cl, rfl⟩ := hd.1.1.shape
  obtain ⟨pc, cc, rfl⟩ := hd.1.2.shape
  have HLs : Hid (ls.length ≤ 6) := Lib.hid hd.2.2
  clear hg2 hd k0 k1 k2 k3 k4 HK1
  go_upto_region 3 with fail
  refine wp_gen (F := fun y => Gr w2 y ∧ y.heap[w2.heap.size]? = some (.cells #[.slice pl ls.length cl, .slice pc cs.length cc, .int .i64 wd, .string bits] 32 (0, 0))) ⟨Gr.alloc _ _, heap_alloc_new _ _⟩ ?_
  rintro w3 ⟨hg3, hr3⟩
  have HR3 := Lib.hid hr3
  have HG3 := Lib.hid (HG2.out.trans hg3)
  have HD3 := Lib.hid (HD2.out.gr hg3)
  have HM2 : Hid (w2.heap.size < w3.heap.size) := Lib.hid (Array.getElem?_eq_some_iff.1 hr3).1
  obtain ⟨k0, k1, k2, k3, k4⟩ := row5 ((HK2.out.trans hg3).block HRY.out)
  generalize w2.heap.size = gd at hr3 HR3 HM2 ⊢
  clear hr3 hg3 HD2 HK2 HRY
  go_wp2_with fail
  refine (made_any _ _ q0 q1 z _ (HY.out.gr HG3.out) HLZ.out).mono ?_
  rintro e w4 ⟨vO, vP, os, ps, wo, bo, an, rfl, hd, han, hg4⟩
  have HG4 := Lib.hid (HG3.out.trans hg4)
  have HK4 := Lib.hid hg4
  have HO4 := Lib.hid hd
  obtain ⟨po, co, rfl⟩ := hd.1.1.shape
  obtain ⟨pp, cp, rfl⟩ := hd.1.2.shape
  clear hg4 hd k0 k1 k2 k3 k4
  go_upto_region 4 with fail
  refine wp_gen (F := fun y => Gr w4 y ∧ y.heap[w4.heap.size]? = some (.cells #[.slice po os.length co, .slice pp ps.length cp, .int .i64 wo, .string bo] 32 (0, 0))) ⟨Gr.alloc _ _, heap_alloc_new _ _⟩ ?_
  rintro w5 ⟨hg5, hr5⟩
  have HR5 := Lib.hid hr5
  have HG5 := Lib.hid (HG4.out.trans hg5)
  have HK5 := Lib.hid (HK4.out.trans hg5)
  have HO5 := Lib.hid (HO4.out.gr hg5)
  have HD5 := Lib.hid (HD3.out.gr HK5.out)
  have HR3' := Lib.hid (HK5.out.block HR3.out)
  generalize w4.heap.size = go at hr5 HR5 ⊢
  clear hr5 hg5 HO4 HD3 HR3 HK4
  obtain ⟨k0, k1, k2, k3⟩ := row4 HR3'.out
  go_upto_region 5 with fail
  have e1 := HLA.out
  rw [← e1]
  clear e1 hmna hlea
  have HLa : Hid ((la.take 20).length ≤ 20) := Lib.hid (by rw [List.length_take]; omega)
  clear HLA hla
  have HA := Lib.hid (HA0.out.gr HG5.out)
  generalize la.take 20 = A at HA HRA HLa ⊢
  clear HA0
  have hA20 : A.length ≤ 20 := HLa.out
  have hls6 : ls.length ≤ 6 := HLs.out
  go_upto_region 6 with fail
  refine wp_gen (F := fun y => Gr w5 y ∧ y.heap[w5.heap.size]? = some (.cells #[.slice pl ls.length cl, .slice pc cs.length cc, .int .i64 wd, .string bits] 32 (0, 0))) ⟨Gr.alloc _ _, heap_alloc_new _ _⟩ ?_
  rintro w6 ⟨hg6, hr6⟩
  have HR6 := Lib.hid hr6
  have HK6 := Lib.hid hg6
  have HM6 : Hid (w5.heap.size < w6.heap.size) := Lib.hid (Array.getElem?_eq_some_iff.1 hr6).1
  have HOE := Lib.hid (own_empty w6 45 w6.heap.size 2 (Nat.le_refl _))
  clear k0 k1 k2 k3
  obtain ⟨k0, k1, k2, k3⟩ := row4 (hg6.block HR3'.out)
  have k0 : ∀ o, (w6.alloc o).cell? ⟨gd, 0, none⟩ = some (.slice pl ls.length cl) := fun o => (Gr.alloc w6 o).cell k0
  clear k1 k2 k3 hr6 hg6
  go_wp2_with ((with_reducible show wpList _ _ _ (⟨some 42, _, _, _, _, _⟩ :: _) _ _); refine wpList_append_Rws (enc := lnC) rfl (.tmp 39) (.tmp 41) 29 rfl 45 iL (.agg #[.string ⟨#[]⟩, .int .i64 0]) 2 24 Tryd.underlying29 hiL hzL hszL hbL rfl (by decide) rfl HOE.out (fun _ => rfl) lnC_one ls _ rfl (HD5.out.1.1.gr (HK6.out.trans (Gr.alloc _ _))) ?b1A ?b2A ?hBA ?_)
  case b1A => unfold maxLen; omega
  case b2A => omega
  case hBA => simp
  intro v42 w42 hown42 hchg42
  have hg42 : Gr w6 w42 := gr_step (Gr.refl w6) (Gr.alloc _ _) hchg42 (fun g hg => HOE.out.ge hg)
  have hq42 : Own w6.heap.size 2 v42 ls.length (ls.flatMap lnC) w42 := by
    have h := hown42
    try simp only [Nat.zero_add, List.nil_append] at h
    exact h
  obtain ⟨p42, c42, rfl⟩ := hq42.slice
  have HO42 := Lib.hid hq42
  have hr42 := hg42.block HR6.out
  obtain ⟨f0, -, -, -⟩ := frozen4 hr42
  obtain ⟨j0, -, -, -⟩ := row4 hr42
  have HR42 := Lib.hid hr42
  have HG42 := Lib.hid hg42
  clear hown42 hchg42 hg42 hq42 hr42 HOE k0
  go_upto_region 7 with fail
  have hch : Chg (some w5.heap.size) w42 (w42.setCell ⟨w5.heap.size, 0, none⟩ (.slice p42 ls.length c42)) := setCells_chg w5.heap.size [.slice p42 ls.length c42] 0 w42
  have HR7 : Hid ((w42.setCell ⟨w5.heap.size, 0, none⟩ (.slice p42 ls.length c42)).heap[w5.heap.size]? = some (.cells #[.slice p42 ls.length c42, .slice pc cs.length cc, .int .i64 wd, .string bits] 32 (0, 0))) := Lib.hid (by
    rw [heap_setCell_same _ _ _ _ _ _ HR42.out]; rfl)
  have HO7 : Hid (Own w6.heap.size 2 (.slice p42 ls.length c42) ls.length (ls.flatMap lnC) (w42.setCell ⟨w5.heap.size, 0, none⟩ (.slice p42 ls.length c42))) := Lib.hid (HO42.out.keep hch (.inr (fun e => by have := HO42.out.ge e; have := HM6.out; omega)))
  have HG7 : Hid (Gr w5 (w42.setCell ⟨w5.heap.size, 0, none⟩ (.slice p42 ls.length c42))) := Lib.hid (gr_step (HK6.out.trans HG42.out) (Gr.refl _) hch (fun g e => by cases e; exact Nat.le_refl _))
  clear hch f0 j0 HO42 HR42 HG42 HR6 HK6
  generalize w42.setCell ⟨w5.heap.size, 0, none⟩ (.slice p42 ls.length c42) = w7 at HR7 HO7 HG7 ⊢
  have hne : ((ls.length : Int) != (ls.length : Int)) = false := by simp
  go_wp2_with fail
  go_loopw [13] (fun v13 W => ∃ (k : Nat) (zs : List Ln), k ≤ ls.length ∧ v13 = .int .i64 (k : Int) ∧ Hid (Off A zs ls) ∧ Hid (zs.all lnB = true) ∧ Hid (Own w6.heap.size 2 (.slice p42 ls.length c42) ls.length (zs.flatMap lnC) W) ∧ Hid (W.heap[w5.heap.size]? = some (.cells #[.slice p42 ls.length c42, .slice pc cs.length cc, .int .i64 wd, .string bits] 32 (0, 0))) ∧ Hid (Gr w5 W)) (fun v13 _ => ls.length - (intOf v13).toNat)
  case atStart => exact ⟨0, ls, Nat.zero_le _, rfl, Lib.hid (Off.refl _ _), Lib.hid (validB_lines HD5.out.2.1).2, HO7, HR7, HG7⟩
  case round =>
    obtain ⟨k, zs, hk, rfl, HOff, HAll, HO, HR, HG⟩ := hrel
    obtain ⟨j0, -, -, -⟩ := row4 HR.out
    obtain ⟨i0, -, -, -⟩ := row4 (HG.out.block HR5.out)
    by_cases hb : k < ls.length ∧ k < os.length
    · obtain ⟨hb1, hb2⟩ := hb
      have t1 : decide (k < ls.length) = true := decide_eq_true hb1
      have t2 : decide (k < os.length) = true := decide_eq_true hb2
      go_wp2_with fail
      refine (has_any _ A (k : Int) wr (HA.out.gr HG.out) (by omega)).mono ?_
      rintro e wa ⟨rfl, hga⟩
      have HGa := Lib.hid (HG.out.trans hga)
      have HOa := Lib.hid (HO.out.gr hga)
      have HRa := Lib.hid (hga.block HR.out)
      clear hga HO HR HG i0 j0
      by_cases hA : (k : Int) ∈ A
      · rw [decide_eq_true hA]
        have HMA := Lib.hid hA
        obtain ⟨j0, -, -, -⟩ := row4 HRa.out
        obtain ⟨i0, -, -, -⟩ := row4 (HGa.out.block HR5.out)
        obtain ⟨x, hx⟩ : ∃ x, os[k]? = some x := ⟨_, List.getElem?_eq_getElem hb2⟩
        obtain ⟨go', oo', rfl, hlo, hco⟩ := (HO5.out.1.1.gr HGa.out).at_ hx
        have HLx : Hid (lnB x = true) := Lib.hid (all_at (validB_lines HO5.out.2.1).2 hx)
        obtain ⟨tx, mx⟩ := x
        have x0 := hco 0 _ rfl
        have x1 := hco 1 _ rfl
        rw [Nat.add_zero] at x0
        rw [← Nat.add_assoc] at x1
        simp only at x0 x1
        obtain ⟨gz, oz, cz, he, hgz, hlz, hmz⟩ := HOa.out.shape (by omega)
        injection he with he1 _ he2
        subst he1 he2
        have HTh : Hid (wa.there gz (oz + k * 2) 2) := Lib.hid (HOa.out.there k hb1)
        clear hA hco hx
        go_upto_region 11 with fail
        have s1 : ∀ n : GrS wa.drew, n.w.cell? ⟨w5.heap.size, 0, none⟩ = some (.slice (some ⟨gz, oz, none⟩) ls.length c42) := fun n => n.h.cell (w := wa.drew) j0
        have s2 : ∀ n : GrS wa.drew, n.w.cell? ⟨go, 0, none⟩ = some (.slice (some ⟨go', oo', none⟩) os.length co) := fun n => n.h.cell (w := wa.drew) i0
        have s3 : ∀ n : GrS wa.drew, n.w.cell? ⟨go', oo' + k * 2, none⟩ = some (.string tx) := fun n => n.h.cell (w := wa.drew) x0
        have s4 : ∀ n : GrS wa.drew, n.w.cell? ⟨go', oo' + k * 2 + 1, none⟩ = some (.int .i64 mx) := fun n => n.h.cell (w := wa.drew) x1
        clear i0 j0 x0 x1
        refine region_grow 9 159 (by kernel_rfl) rfl (by kernel_rfl) rfl rfl ?_
        simp only [List.take_succ_cons, List.take_zero, List.drop_succ_cons, List.drop_zero]
        refine seg 9 rfl rfl rfl rfl ?_
        simp only [List.take_succ_cons, List.take_zero, List.drop_succ_cons, List.drop_zero]
        repeat (go_big_quiet_step (fail))
        refine wpQuiet_nil ?_
        intro _
        refine grow_end0 rfl rfl ?_
        intro wb hgb
        have hgab : Gr wa wb := Gr.trans (Gr.drew wa) hgb
        have HGb := Lib.hid (HGa.out.trans hgab)
        have HOb := Lib.hid (HOa.out.gr hgab)
        have HRb := Lib.hid (hgab.block HRa.out)
        have HTb : Hid (wb.there gz (oz + k * 2) 2) := Lib.hid (HOb.out.there k hb1)
        clear hgb hgab HGa HOa HRa HTh s1 s2 s3 s4
        go_wp2_with ((with_reducible show wpList _ _ _ (⟨none, _, _, _, _, _⟩ :: _) _ _); refine wpList_store_mid rfl 45 (.tmp 69) (.tmp 68) rfl gz (oz + k * 2) #[.string tx, .int .i64 mx] rfl rfl HTb.out (infoLn_size Tryd.prog rfl) (by simp [Value.oneCell']) ?_)
        have hst := HOb.out.store k hb1 [.string tx, .int .i64 mx] rfl
        have hch := setCells_chg gz [.string tx, .int .i64 mx] (oz + k * 2) wb
        have HO' : Hid (Own w6.heap.size 2 (.slice (some ⟨gz, oz, none⟩) ls.length c42) ls.length ((zs.set k ((tx, mx) : Ln)).flatMap lnC) (wb.setCells gz (oz + k * 2) [.string tx, .int .i64 mx])) := Lib.hid (by
          rw [flat_set (s := 2) (enc := lnC) (fun _ => rfl) _ _ _ (by rw [HOff.out.1]; exact hb1)]
          exact hst)
        have HR' : Hid ((wb.setCells gz (oz + k * 2) [.string tx, .int .i64 mx]).heap[w5.heap.size]? = some (.cells #[.slice (some ⟨gz, oz, none⟩) ls.length c42, .slice pc cs.length cc, .int .i64 wd, .string bits] 32 (0, 0))) := Lib.hid (hch.block HRb.out (by have := HM6.out; simp; omega))
        have HG' : Hid (Gr w5 (wb.setCells gz (oz + k * 2) [.string tx, .int .i64 mx])) := Lib.hid (gr_step HGb.out (Gr.refl _) hch (fun g hg => by cases hg; have := HM6.out; omega))
        have HOff' := Lib.hid (HOff.out.put HMA.out ((tx, mx) : Ln))
        have HAll' := Lib.hid (all_put HAll.out k HLx.out)
        clear hst hch HTb HOb HRb HGb HOff HAll HLx
        go_wp2_with fail
        go_roundw
        case rel => exact ⟨k + 1, _, by omega, by go_num, HOff', HAll', HO', HR', HG'⟩
        case measure => simp [intOf]; omega
      · rw [decide_eq_false hA]
        clear hA
        go_wp2_with fail
        go_roundw
        case rel => exact ⟨k + 1, zs, by omega, by go_num, HOff, HAll, HOa, HRa, HGa⟩
        case measure => simp [intOf]; omega
    · have hb' : ¬ k < ls.length ∨ (k < ls.length ∧ ¬ k < os.length) := by omega
      clear hb
      rcases hb' with h | ⟨h, h'⟩
      case' inl =>
        have t1 : decide (k < ls.length) = false := decide_eq_false h
        go_upto_region 12 with fail
        clear h t1
      case' inr =>
        have t1 : decide (k < ls.length) = true := decide_eq_true h
        have t2 : decide (k < os.length) = false := decide_eq_false h'
        go_upto_region 12 with fail
        clear h h' t1 t2
      all_goals (
        clear i0 j0
        obtain ⟨k0, k1, k2, k3⟩ := row4 (HG.out.block HR3'.out)
        have HZD : Hid (DocIn (.slice p42 ls.length c42) (.slice pc cs.length cc) zs cs wr) := Lib.hid ⟨own_rws (s := 2) (enc := lnC) (fun _ => rfl) (by rw [HOff.out.1]; exact HO.out), HD5.out.1.2.gr HG.out⟩
        have HZV : Hid (validB zs cs wd bits = true) := Lib.hid (validB_put HD5.out.2.1 HOff.out.1 HAll.out)
        have HZO := Lib.hid (leaves_off sc HOff.out)
        have HZS : Hid (ShB (leavesD sc zs)) := Lib.hid (leaves_sh (by rw [HOff.out.1]; omega) HAll.out)
        have HZL := HOff.out.1
        clear HO HOff HAll
        go_wp2_with fail
        refine (leaves_ok _ _ ls cs wd bits sc wr (HD5.out.1.gr HG.out) HD5.out.2.1 (by omega) (HT.out.gr (HG5.out.trans HG.out))).mono ?_
        rintro e w8 ⟨u8, rfl, ho8, hg8⟩
        obtain ⟨p8, c8, rfl⟩ := ho8.slice
        have HG8 := Lib.hid (HG.out.trans hg8)
        have HR8 := Lib.hid (hg8.block HR.out)
        have HZD8 := Lib.hid (HZD.out.gr hg8)
        have HL8 : Hid (Rws 5 lfC (.slice p8 ls.length c8) (leavesD sc ls) w8) := Lib.hid (by
          have h := own_rws (l := leavesD sc ls) lfC_len (v := .slice p8 ls.length c8) (by rw [leavesD_len]; exact ho8)
          exact h)
        have HLL : Hid (listB (leavesD sc ls) = true) := Lib.hid (leaves_list (validB_lines HD5.out.2.1).1 (validB_lines HD5.out.2.1).2)
        have HLN : Hid ((leavesD sc ls).length = ls.length) := Lib.hid (leavesD_len sc ls)
        clear hg8 ho8 k0 k1 k2 k3 HG HR HZD
        obtain ⟨k0, k1, k2, k3⟩ := row4 HR8.out
        go_wp2_with fail
        refine (leaves_ok _ _ zs cs wd bits sc w8 HZD8.out HZV.out (by omega) (HT.out.gr (HG5.out.trans HG8.out))).mono ?_
        rintro e w9 ⟨u9, rfl, ho9, hg9⟩
        rw [HZL] at ho9
        obtain ⟨p9, c9, rfl⟩ := ho9.slice
        have HO9 := Lib.hid ho9
        have HG9 := Lib.hid hg9
        have HG58 := Lib.hid (HG5.out.trans HG8.out)
        have HA8 := Lib.hid (HA.out.gr HG8.out)
        clear ho9 hg9 k0 k1 k2 k3 HR8 HZD8 HZV HA HZL
        generalize leavesD sc zs = ms0 at HZO HZS HO9
        generalize leavesD sc ls = l at HL8 HLL HLN HZO
        go_wp2_with fail
        go_loopw [18] (fun v18 W => ∃ (k : Nat) (ms : List Lf), k ≤ ls.length ∧ v18 = .int .i64 (k : Int) ∧ Hid (ShB ms) ∧ Hid (Off A ms l) ∧ Hid (Own w8.heap.size 5 (.slice p9 ls.length c9) ls.length (ms.flatMap lfC) W) ∧ Hid (Gr w8 W)) (fun v18 _ => ls.length - (intOf v18).toNat)
        case atStart => exact ⟨0, ms0, Nat.zero_le _, rfl, HZS, HZO, HO9, HG9⟩
        case round =>
          clear HZS HZO HO9 HG9
          obtain ⟨i, ms, hi, rfl, HS, HF, HO, HG⟩ := hrel
          by_cases hlt : i < ls.length
          · have ht : decide (i < ls.length) = true := decide_eq_true hlt
            go_wp2_with fail
            refine (has_any _ A (i : Int) wr (HA8.out.gr HG.out) (by omega)).mono ?_
            rintro e wa ⟨rfl, hga⟩
            have HGa := Lib.hid (HG.out.trans hga)
            have HOa := Lib.hid (HO.out.gr hga)
            clear hga HO HG
            by_cases hA : (i : Int) ∈ A
            · rw [decide_eq_true hA]
              have HMA := Lib.hid hA
              clear hA
              go_wp2_with fail
              refine (salt_any an (i : Int) wa (by omega) (HT.out.gr (HG58.out.trans HGa.out))).mono ?_
              rintro e wb ⟨rfl, hgb⟩
              have HGb := Lib.hid (HGa.out.trans hgb)
              have HOb := Lib.hid (HOa.out.gr hgb)
              clear hgb HGa HOa
              have hlm : ms.length = ls.length := by rw [HF.out.1, HLN.out]
              have HLm := Lib.hid hlm
              obtain ⟨x, hx⟩ : ∃ x, ms[i]? = some x := ⟨_, List.getElem?_eq_getElem (by omega)⟩
              have HX1 := Lib.hid hx
              obtain ⟨gm, om, cm, he, hgm, hlq, hmq⟩ := HOb.out.shape (by omega)
              injection he with he1 _ he2
              subst he1 he2
              obtain ⟨b0, b1, b2, b3, b4⟩ := own_cells HOb.out i x hx
              obtain ⟨f0, f1, f2, f3, f4⟩ := own_free HOb.out i hlt
              rw [← Nat.add_assoc] at b3
              have HSl := Lib.hid (saltD_16 an (k := i) (by omega))
              generalize saltD an (i : Int) = sl at HSl ⊢
              have HS' := Lib.hid (HS.out.salt HX1.out HSl.out)
              have HF' := Lib.hid (HF.out.put HMA.out ⟨x.shown, x.text, x.mark, sl, x.digest⟩)
              have HO' := Lib.hid (own_put (j := 3) (y := ⟨x.shown, x.text, x.mark, sl, x.digest⟩) (u := .string sl) HOb.out HLm.out HX1.out (by decide) rfl)
              have HG' : Hid (Gr w8 (wb.setCell ⟨gm, om + i * 5 + 3, none⟩ (.string sl))) := Lib.hid (gr_step HGb.out (Gr.refl _) (setCells_chg gm [.string sl] (om + i * 5 + 3) wb) (fun g hg => by cases hg; exact hgm))
              clear hlm hx b0 b1 b2 b4 f0 f1 f2 f4 HS HF HMA
              go_wp2_with fail
              go_roundw
              case rel => exact ⟨i + 1, _, by omega, by go_num, HS', HF', HO', HG'⟩
              case measure => simp [intOf]; omega
            · rw [decide_eq_false hA]
              clear hA
              go_wp2_with fail
              go_roundw
              case rel => exact ⟨i + 1, ms, by omega, by go_num, HS, HF, HOa, HGa⟩
              case measure => simp [intOf]; omega
          · have ht : decide (i < ls.length) = false := decide_eq_false hlt
            have HLm : Hid (ms.length = ls.length) := Lib.hid (by rw [HF.out.1, HLN.out])
            have hwr := HG.out
            have HRm : Hid (Rws 5 lfC (.slice p9 ls.length c9) ms wr) := Lib.hid (own_rws (l := ms) lfC_len (v := .slice p9 ls.length c9) (by rw [HLm.out]; exact HO.out))
            have HGx := Lib.hid (HG58.out.trans HG.out)
            have HAx := Lib.hid (HA8.out.gr HG.out)
            have HLx := Lib.hid (HL8.out.gr HG.out)
            clear hlt hwr HO HG
            obtain ⟨wB, hwB⟩ : ∃ y, y = wr := ⟨_, rfl⟩
            subst hwB
            go_wp2_with fail
            refine (hide_ok _ l A _ _ HLx.out HLL.out HAx.out HRA.out (by omega) (HT.out.gr HGx.out)).mono ?_
            rintro e w11 ⟨z11, rfl, ho11, hg11⟩
            rw [HLN.out] at ho11
            obtain ⟨p11, c11, rfl⟩ := ho11.slice
            have HO11 := Lib.hid ho11
            have HG11 := Lib.hid hg11
            have HGy := Lib.hid (HGx.out.trans hg11)
            clear ho11 hg11
            go_wp2_with fail
            refine (hide_ok _ ms A _ _ (HRm.out.gr HG11.out) HS.out.1 (HAx.out.gr HG11.out) HRA.out (by omega) (HT.out.gr HGy.out)).mono ?_
            rintro e w12 ⟨z12, rfl, ho12, hg12⟩
            rw [HLm.out] at ho12
            obtain ⟨p12, c12, rfl⟩ := ho12.slice
            have HNE : Hid (∀ g g', 0 < ls.length → (Value.slice p11 ls.length c11).ownBlock = some g → (Value.slice p12 ls.length c12).ownBlock = some g' → g' ≠ g) := Lib.hid (fun g g' h0 h1 h2 => by
              have a1 := HO11.out.lt (by omega) h1
              have a2 := ho12.ge h2
              omega)
            have HO12 := Lib.hid (HO11.out.gr hg12)
            have HB12 : Hid (Rws 5 lfC (.slice p12 ls.length c12) (hideD A ms) w12) := Lib.hid (own_rws (l := hideD A ms) lfC_len (v := .slice p12 ls.length c12) (by rw [hideD_len HS.out.1, HLm.out]; exact ho12))
            have HG12 := Lib.hid (HG11.out.trans hg12)
            have HLh : Hid ((hideD A ms).length = ls.length) := Lib.hid (by rw [hideD_len HS.out.1, HLm.out])
            have HH0 : Hid (Half 0 (hideD A l) (hideD A l) (hideD A ms)) := Lib.hid (Half.start (by rw [hideD_len HLL.out, HLN.out, HLh.out]))
            clear ho12 hg12 HG11 HO11 HGy
            go_wp2_with fail
            go_loopw [21] (fun v21 W => ∃ (i : Nat) (az : List Lf), i ≤ ls.length ∧ v21 = .int .i64 (i : Int) ∧ Hid (Half i az (hideD A l) (hideD A ms)) ∧ Hid (Own wB.heap.size 5 (.slice p11 ls.length c11) ls.length (az.flatMap lfC) W) ∧ Hid (Rws 5 lfC (.slice p12 ls.length c12) (hideD A ms) W) ∧ Hid (Gr wB W)) (fun v21 _ => ls.length - (intOf v21).toNat)
            case atStart => exact ⟨0, _, Nat.zero_le _, rfl, HH0, HO12, HB12, HG12⟩
            case round =>
              obtain ⟨j, az, hj, rfl, HH, HO, HB, HG⟩ := hrel
              clear HH0 HO12 HB12 HG12
              by_cases hlt : j < ls.length
              · have ht : decide (j < ls.length) = true := decide_eq_true hlt
                go_wp2_with fail
                refine (has_any _ A (j : Int) wr (HAx.out.gr HG.out) (by omega)).mono ?_
                rintro e wa ⟨rfl, hga⟩
                have HGa := Lib.hid (HG.out.trans hga)
                have HOa := Lib.hid (HO.out.gr hga)
                have HBa := Lib.hid (HB.out.gr hga)
                clear hga HO HB HG
                by_cases hA : (j : Int) ∈ A
                · rw [decide_eq_true hA]
                  obtain ⟨x, hx⟩ : ∃ x, l[j]? = some x := ⟨_, List.getElem?_eq_getElem (by rw [HLN.out]; exact hlt)⟩
                  obtain ⟨y, hy⟩ : ∃ y, ms[j]? = some y := ⟨_, List.getElem?_eq_getElem (by rw [HLm.out]; exact hlt)⟩
                  have hla := HH.out.2.2 j (Nat.le_refl _)
                  rw [hide_at HLL.out hA hx] at hla
                  have hmb := hide_at HS.out.1 hA hy
                  have HLas : Hid (az.length = ls.length) := Lib.hid (by rw [HH.out.1, HLh.out])
                  obtain ⟨ga, oa, ca', he, hgx, hlx, hmx⟩ := HOa.out.shape (by omega)
                  injection he with he1 _ he2
                  subst he1 he2
                  obtain ⟨gb, ob, rfl, hlb, hcb⟩ := HBa.out.at_n HLh.out hmb
                  have b4 := hcb 4 _ rfl
                  rw [← Nat.add_assoc] at b4
                  simp only at b4
                  obtain ⟨a0, a1, a2, a3, a4⟩ := own_cells HOa.out j _ hla
                  rw [← Nat.add_assoc] at a4
                  simp only at a4
                  obtain ⟨f0, f1, f2, f3, f4⟩ := own_free HOa.out j hlt
                  generalize valueD y = vy at b4 hmb
                  have HH' := Lib.hid (HH.out.put hmb)
                  have HO' := Lib.hid (own_put (j := 4) (y := ⟨false, ⟨#[]⟩, 0, ⟨#[]⟩, vy⟩) (u := .string vy) HOa.out HLas.out hla (by decide) rfl)
                  have hch := setCells_chg ga [.string vy] (oa + j * 5 + 4) wa
                  have HB' : Hid (Rws 5 lfC (.slice (some ⟨gb, ob, none⟩) ls.length c12) (hideD A ms) (wa.setCell ⟨ga, oa + j * 5 + 4, none⟩ (.string vy))) := Lib.hid (HBa.out.chg hch (fun g hg e => HNE.out ga g (by omega) rfl hg (by injection e)))
                  have HG' : Hid (Gr wB (wa.setCell ⟨ga, oa + j * 5 + 4, none⟩ (.string vy))) := Lib.hid (gr_step HGa.out (Gr.refl _) hch (fun g hg => by cases hg; exact hgx))
                  clear hla hmb hx hy hA hcb a0 a1 a2 a3 f0 f1 f2 f3 hch HH HOa HBa HGa
                  go_wp2_with fail
                  go_roundw
                  case rel => exact ⟨j + 1, _, by omega, by go_num, HH', HO', HB', HG'⟩
                  case measure => simp [intOf]; omega
                · rw [decide_eq_false hA]
                  have HH' := Lib.hid (HH.out.out HLL.out HS.out.1 HF.out hA)
                  clear hA HH
                  go_wp2_with fail
                  go_roundw
                  case rel => exact ⟨j + 1, az, by omega, by go_num, HH', HOa, HBa, HGa⟩
                  case measure => simp [intOf]; omega
              · have ht : decide (j < ls.length) = false := decide_eq_false hlt
                have HE : Hid (az = hideD A ms) := Lib.hid (HH.out.stop (by rw [HLh.out]; omega))
                have HAs : Hid (Rws 5 lfC (.slice p11 ls.length c11) (hideD A ms) wr) := Lib.hid (own_rws (l := hideD A ms) lfC_len (v := .slice p11 ls.length c11) (by rw [HLh.out, ← HE.out]; exact HO.out))
                have HChk : Hid (chkD (rtD ms) (hideD A ms) = true) := Lib.hid (by unfold chkD; rw [hideD_list HS.out.1, hideD_root HS.out.1]; simp)
                clear hlt HE HH HO
                go_wp2_with fail
                refine (same_lf _ _ (hideD A ms) wr HAs.out HB.out (by rw [HLh.out]; omega)).mono ?_
                rintro e w20 ⟨rfl, hg20⟩
                have HG20 := Lib.hid (HG.out.trans hg20)
                have HA20 := Lib.hid (HAs.out.gr hg20)
                clear hg20 HAs HB HG
                go_wp2_with fail
                refine (rRoot_any _ ms w20 (HRm.out.gr HG20.out) (by rw [HLm.out]; omega) (HT.out.gr (HGx.out.trans HG20.out))).mono ?_
                rintro e w21 ⟨rfl, hg21⟩
                have HG21 := Lib.hid (HG20.out.trans hg21)
                have HA21 := Lib.hid (HA20.out.gr hg21)
                clear hg21 HG20 HA20
                go_wp2_with fail
                refine (check_any (rtD ms) _ (hideD A ms) w21 HA21.out (by rw [HLh.out]; omega) (HT.out.gr (HGx.out.trans HG21.out))).mono ?_
                rintro e w22 ⟨rfl, hg22⟩
                rw [HChk.out]
                have HG22 := Lib.hid (HG21.out.trans hg22)
                clear hg22 HG21 HA21
                go_wp2_with fail
                go_ret
                exact ⟨rfl, HGx.out.trans HG22.out⟩)

end Go.Proofs.YtakhomofckcckaaDoor
