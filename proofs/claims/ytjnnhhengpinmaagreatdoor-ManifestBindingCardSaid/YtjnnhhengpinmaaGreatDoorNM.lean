/- The contract of the statements' helper entry. -/
import Derived.Test.YtjnnhhengpinmaaGreatDoorNL
import Derived.Test.YtjnnhhengpinmaaGreatDoorMkA
namespace Go.Proofs.YtjnnhhengpinmaaGreatDoor
section
open Go Go.RowKit Go.Shelf
attribute [local go_sem] gAt gUpon
attribute [local simp] Gr.refl Gr.alloc

def cutEn (x : En) : En := ⟨cutD x.path 70, x.fmt, x.len, cutD x.dig 40⟩
set_option maxRecDepth 100000 in
theorem entry_any (x : En) (w : World) (h1 : x.path.size ≤ 9223372036854775807) (h2 : x.dig.size ≤ 9223372036854775807) :
    Calls Tryz.prog 20 #[.agg #[.string x.path, .int .i64 x.fmt, .int .i64 x.len, .string x.dig]] w fun e w' => e = .returned (.agg (enC (cutEn x)).toArray) ∧ Gr w w' := by
  obtain ⟨pa, f, n, d⟩ := x
  simp only at h1 h2 ⊢
  have hm1 : min (pa.size : Int) 70 = ((min pa.size 70 : Nat) : Int) := by omega
  have hm2 : min (d.size : Int) 40 = ((min d.size 40 : Nat) : Int) := by omega
  have hm3 : min pa.size 70 ≤ pa.size := Nat.min_le_left _ _
  have hm4 : min d.size 40 ≤ d.size := Nat.min_le_left _ _
  go_enter Tryz.func20, Tryz.ntmps20
  go_upto_region 1 with fail
  refine wp_gen (F := fun z => Gr w z ∧ z.heap[w.heap.size]? = some (.cells #[.string pa, .int .i64 f, .int .i64 n, .string d] 28 (0, 0)) ∧ z.heap[w.heap.size + 1]? = some (.cells #[.string ⟨#[]⟩, .int .i64 0, .int .i64 0, .string ⟨#[]⟩] 28 (0, 0))) ⟨(Gr.alloc _ _).trans (Gr.alloc _ _), (Gr.alloc _ _).block (heap_alloc_new _ _), by
    have h := heap_alloc_new (w.alloc (.cells #[.string pa, .int .i64 f, .int .i64 n, .string d] 28)) (.cells #[.string ⟨#[]⟩, .int .i64 0, .int .i64 0, .string ⟨#[]⟩] 28)
    simpa using h⟩ ?_
  rintro wA ⟨hgA, hrA, hrB⟩
  have HGA := Lib.hid hgA
  have HRA := Lib.hid hrA
  have HRB := Lib.hid hrB
  clear hgA hrA hrB
  obtain ⟨bx, hbx⟩ : ∃ b, w.heap.size = b := ⟨_, rfl⟩
  have Hbx := Lib.hid hbx
  rw [hbx] at HRA HRB ⊢
  clear hbx
  obtain ⟨a0, a1, a2, a3⟩ := row4 HRA.out
  obtain ⟨f0, f1, f2, f3⟩ := frozen4 HRA.out
  go_upto_region 2 with fail
  refine wp_gen (F := fun z => Chg (some bx) wA z ∧ z.heap[bx]? = some (.cells #[.string (cutD pa 70), .int .i64 f, .int .i64 n, .string d] 28 (0, 0))) ⟨setCells_chg bx [.string (cutD pa 70)] 0 wA, by
    rw [heap_setCell_same wA bx 0 _ _ _ HRA.out]; rfl⟩ ?_
  rintro wB ⟨hcB, hrB⟩
  have HRA2 := Lib.hid hrB
  have HG2 : Hid (Gr w wB) := Lib.hid (gr_step HGA.out (Gr.refl _) hcB (fun g e => by cases e; have := Hbx.out; omega))
  have HRB2 := Lib.hid (hcB.block HRB.out (by simp))
  clear hcB hrB a0 a1 a2 a3 f0 f1 f2 f3 HRA HRB HGA
  obtain ⟨a0, a1, a2, a3⟩ := row4 HRA2.out
  obtain ⟨f0, f1, f2, f3⟩ := frozen4 HRA2.out
  go_upto_region 3 with fail
  refine wp_gen (F := fun z => Chg (some bx) wB z ∧ z.heap[bx]? = some (.cells #[.string (cutD pa 70), .int .i64 f, .int .i64 n, .string (cutD d 40)] 28 (0, 0))) ⟨setCells_chg bx [.string (cutD d 40)] 3 wB, by
    rw [heap_setCell_same wB bx 3 _ _ _ HRA2.out]; rfl⟩ ?_
  rintro wC ⟨hcB, hrB⟩
  have HRA3 := Lib.hid hrB
  have HG3 : Hid (Gr w wC) := Lib.hid (gr_step HG2.out (Gr.refl _) hcB (fun g e => by cases e; have := Hbx.out; omega))
  have HRB3 := Lib.hid (hcB.block HRB2.out (by simp))
  clear hcB hrB a0 a1 a2 a3 f0 f1 f2 f3 HRA2 HRB2 HG2
  obtain ⟨a0, a1, a2, a3⟩ := row4 HRA3.out
  obtain ⟨b0, b1, b2, b3⟩ := row4 HRB3.out
  obtain ⟨f0, f1, f2, f3⟩ := frozen4 HRB3.out
  have hrow := Lib.hid (row_set4 (a' := .string (cutD pa 70)) (b' := .int .i64 f) (c' := .int .i64 n) (d' := .string (cutD d 40)) HRB3.out)
  have hch : Chg (some (bx + 1)) wC ((((wC.setCell ⟨bx + 1, 0, none⟩ (.string (cutD pa 70))).setCell ⟨bx + 1, 1, none⟩ (.int .i64 f)).setCell ⟨bx + 1, 2, none⟩ (.int .i64 n)).setCell ⟨bx + 1, 3, none⟩ (.string (cutD d 40))) := setCells_chg (bx + 1) [.string (cutD pa 70), .int .i64 f, .int .i64 n, .string (cutD d 40)] 0 wC
  have HGx := Lib.hid (gr_step HG3.out (Gr.refl _) hch (fun g e => by cases e; have := Hbx.out; omega))
  clear hch
  go_wp2_with fail
  refine bodyPost_ret (results_cell_row rfl _ _ (bx + 1) 28 _ (0, 0) _ rfl hrow.out Tryz.underlying28 rfl (by kernel_rfl)) rfl ?_
  exact ⟨rfl, HGx.out⟩
end
section
open Go Go.RowKit Go.Shelf
attribute [local go_sem] gAt gUpon
attribute [local simp] Gr.refl Gr.alloc

def fewL (l : List En) : List En := (l.take 66).map cutEn
def fewK (l : List En) (k : Nat) : List En := (l.take k).map cutEn
theorem fewK_step {l : List En} {k : Nat} {x : En} (h : l[k]? = some x) : (fewK l (k + 1)).flatMap enC = (fewK l k).flatMap enC ++ enC (cutEn x) := by
  unfold fewK
  rw [List.take_add_one, h, Option.toList_some, List.map_append, List.flatMap_append]
  simp
set_option maxRecDepth 100000 in
set_option maxHeartbeats 1000000 in
theorem few_any (id ver : Int) (v : Value) (l : List En) (w : World) (hv : Rws 4 enC v l w) (hp : ∀ x ∈ l, x.path.size ≤ 9223372036854775807 ∧ x.dig.size ≤ 9223372036854775807) :
    Calls Tryz.prog 19 #[.agg #[.int .i64 id, .int .i64 ver, v]] w fun e w' => ∃ u, e = .returned (.agg #[.int .i64 id, .int .i64 ver, u]) ∧ Own w.heap.size 4 u (fewL l).length ((fewL l).flatMap enC) w' ∧ Gr w w' := by
  obtain ⟨iE, hiE, hzE, hszE, hbE⟩ := info_parts infoEn
  have HI := Lib.hid hiE
  have HI0 := Lib.hid hzE
  have HI1 := Lib.hid hszE
  have HI2 := Lib.hid hbE
  obtain ⟨p, c, rfl⟩ := hv.shape
  have HV := Lib.hid hv
  have HP := Lib.hid hp
  clear hiE hzE hszE hbE hv hp
  go_enter Tryz.func19, Tryz.ntmps19
  go_upto_region 1 with fail
  refine wp_gen (F := fun z => Gr w z ∧ z.heap[w.heap.size]? = some (.cells #[.int .i64 id, .int .i64 ver, .slice p l.length c] 24 (0, 0)) ∧ z.heap[w.heap.size + 1]? = some (.cells #[.int .i64 0, .int .i64 0, .slice none 0 0] 24 (0, 0)) ∧ w.heap.size + 2 = z.heap.size) ⟨(Gr.alloc _ _).trans (Gr.alloc _ _), (Gr.alloc _ _).block (heap_alloc_new _ _), by
    have h := heap_alloc_new (w.alloc (.cells #[.int .i64 id, .int .i64 ver, .slice p l.length c] 24)) (.cells #[.int .i64 0, .int .i64 0, .slice none 0 0] 24)
    simpa using h, by simp⟩ ?_
  rintro wA ⟨hgA, hr0, hrA, hsz⟩
  obtain ⟨k0, k1, k2⟩ := row3 hr0
  have HR0 := Lib.hid hr0
  have HRA := Lib.hid hrA
  have HGA := Lib.hid hgA
  have HSZ := Lib.hid hsz
  clear hr0 hrA hgA hsz
  go_upto_region 2 with fail
  refine wp_gen (F := fun z => Gr wA z ∧ z.heap[wA.heap.size]? = some (.cells #[.int .i64 id, .int .i64 ver, .slice none 0 0] 24 (0, 0)) ∧ wA.heap.size + 1 ≤ z.heap.size) ⟨Gr.alloc _ _, heap_alloc_new _ _, by simp⟩ ?_
  rintro wC ⟨hgC, hrC, hszC⟩
  clear k0 k1 k2
  replace HR0 := Lib.hid (hgC.block HR0.out)
  replace HRA := Lib.hid (hgC.block HRA.out)
  have HRB := Lib.hid hrC
  replace HGA : Hid (Gr w wC) := Lib.hid (HGA.out.trans hgC)
  obtain ⟨bp, hbp⟩ : ∃ b, wA.heap.size = b := ⟨_, rfl⟩
  obtain ⟨br, hbr⟩ : ∃ b, w.heap.size + 1 = b := ⟨_, rfl⟩
  obtain ⟨b0, hb0⟩ : ∃ b, w.heap.size = b := ⟨_, rfl⟩
  have Hbp : Hid (bp = b0 + 2 ∧ br = b0 + 1 ∧ w.heap.size = b0) := Lib.hid ⟨by have := HSZ.out; omega, by omega, hb0⟩
  replace HSZ : Hid (b0 + 3 ≤ wC.heap.size) := Lib.hid (by have := HSZ.out; omega)
  rw [hbp] at HRB ⊢
  rw [hbr] at HRA ⊢
  rw [hb0] at HR0 ⊢
  clear hbp hbr hb0 hgC hrC hszC
  go_wp2_with fail
  go_loopw [4] (fun v4 W => ∃ (k : Nat) (V : Value), k ≤ l.length ∧ k ≤ 66 ∧ v4 = .int .i64 (k : Int) ∧ Hid (Gr w W) ∧ Hid (b0 + 3 ≤ W.heap.size) ∧ Hid (W.heap[b0]? = some (.cells #[.int .i64 id, .int .i64 ver, .slice p l.length c] 24 (0, 0))) ∧ Hid (W.heap[br]? = some (.cells #[.int .i64 0, .int .i64 0, .slice none 0 0] 24 (0, 0))) ∧ Hid (W.heap[bp]? = some (.cells #[.int .i64 id, .int .i64 ver, V] 24 (0, 0))) ∧ Hid (Own (b0 + 3) 4 V k ((fewK l k).flatMap enC) W)) (fun v4 _ => l.length - (intOf v4).toNat)
  case atStart => exact ⟨0, _, Nat.zero_le _, Nat.zero_le _, rfl, HGA, HSZ, HR0, HRA, HRB, Lib.hid (Own.nil _ _ _)⟩
  clear HR0 HRA HRB HGA HSZ
  case round =>
    obtain ⟨k, V, hk, hk66, rfl, HG, HZ, HR0, HRA, HRB, HO⟩ := hrel
    obtain ⟨-, -, n2⟩ := row3 HR0.out
    by_cases hgo : k < l.length ∧ k < 66
    · obtain ⟨hlt, h66⟩ := hgo
      have ht : decide (k < l.length) = true := decide_eq_true hlt
      have ht' : decide ((k : Int) < (l.length : Int)) = true := decide_eq_true (by omega)
      have ht2 : decide (k < 66) = true := decide_eq_true h66
      have ht2' : decide ((k : Int) < 66) = true := decide_eq_true (by omega)
      obtain ⟨x, hx⟩ : ∃ x, l[k]? = some x := ⟨_, List.getElem?_eq_getElem hlt⟩
      have HSt := Lib.hid (fewK_step hx)
      have hpx := HP.out x (List.mem_of_getElem? hx)
      have HEn := Lib.hid (fun y => entry_any x y hpx.1 hpx.2)
      obtain ⟨g, off, rfl, hlc, hc⟩ := (HV.out.gr HG.out).at_ hx
      have y0 := hc 0 _ rfl
      have y1 := hc 1 _ rfl
      have y2 := hc 2 _ rfl
      have y3 := hc 3 _ rfl
      rw [Nat.add_zero] at y0
      rw [← Nat.add_assoc] at y1 y2 y3
      obtain ⟨xp, xf, xn, xd⟩ := x
      simp only at y0 y1 y2 y3 HEn
      have i0 : (0 : Int) ≤ (k : Int) := by omega
      have i1 : (k : Int) < (l.length : Int) := by omega
      obtain ⟨m0, m1, m2⟩ := row3 HRB.out
      have S0 : ∀ q : GrS wr.drew, q.w.cell? ⟨bp, 2, none⟩ = some V := fun q => q.h.cell (w := wr.drew) m2
      have S1 : ∀ q : GrS wr.drew, q.w.cell? ⟨b0, 2, none⟩ = some (.slice (some ⟨g, off, none⟩) l.length c) := fun q => q.h.cell (w := wr.drew) n2
      have S2 : ∀ q : GrS wr.drew, q.w.cell? ⟨g, off + k * 4, none⟩ = some (.string xp) := fun q => q.h.cell (w := wr.drew) y0
      have S3 : ∀ q : GrS wr.drew, q.w.cell? ⟨g, off + k * 4 + 1, none⟩ = some (.int .i64 xf) := fun q => q.h.cell (w := wr.drew) y1
      have S4 : ∀ q : GrS wr.drew, q.w.cell? ⟨g, off + k * 4 + 2, none⟩ = some (.int .i64 xn) := fun q => q.h.cell (w := wr.drew) y2
      have S5 : ∀ q : GrS wr.drew, q.w.cell? ⟨g, off + k * 4 + 3, none⟩ = some (.string xd) := fun q => q.h.cell (w := wr.drew) y3
      clear hc hx m0 m1 m2 y0 y1 y2 y3 hpx
      go_upto_region 5 with fail
      clear n2
      refine region_grow 9 33 (by kernel_rfl) rfl (by kernel_rfl) rfl rfl ?_
      simp only [List.take_succ_cons, List.take_zero, List.drop_succ_cons, List.drop_zero]
      refine seg 7 rfl rfl rfl rfl ?_
      simp only [List.take_succ_cons, List.take_zero, List.drop_succ_cons, List.drop_zero]
      repeat (go_big_quiet_step (fail))
      refine wpQuiet_nil ?_
      intro _
      refine grow_det (v := .agg #[.string (cutD xp 70), .int .i64 xf, .int .i64 xn, .string (cutD xd 40)]) rfl rfl rfl rfl rfl ?_ ?_
      · intro w1 hG
        go_simp
        refine (HEn.out w1).mono ?_
        rintro e w' ⟨rfl, hb⟩
        exact ⟨rfl, hb⟩
      simp only [Act.put, List.setIfInBounds_toArray, List.set_cons_zero, List.set_cons_succ]
      refine grow_open (NewEl [.string (cutD xp 70), .int .i64 xf, .int .i64 xn, .string (cutD xd 40)] 28) rfl rfl rfl rfl (stb_el _ _) (fun wX hG => ?_) ?_
      · go_simp
        exact newEl_alloc _ [.string (cutD xp 70), .int .i64 xf, .int .i64 xn, .string (cutD xd 40)] _
      refine grow_end1 rfl rfl (by decide) (fun w2 u hG hu => ?_)
      obtain ⟨bn, rfl, hbn⟩ := hu
      simp only [Act.put, List.setIfInBounds_toArray, List.set_cons_zero, List.set_cons_succ]
      have HG2 := Lib.hid ((Gr.drew wr).trans hG)
      have HBn := Lib.hid hbn
      clear hG S0 S1 S2 S3 S4 S5 HEn hbn
      have HO2 := Lib.hid (HO.out.gr HG2.out)
      have hsz2 : b0 + 3 ≤ w2.heap.size := by
        have := HZ.out; have := HG2.out.size; omega
      go_wp2_with ((with_reducible show wpList _ _ _ (⟨some 30, _, _, _, _, _⟩ :: _) _ _); refine wpList_append_Own rfl (.tmp 22) (.tmp 29) 22 rfl 28 iE (.agg #[.string ⟨#[]⟩, .int .i64 0, .int .i64 0, .string ⟨#[]⟩]) 4 48 Tryz.underlying22 HI.out HI0.out HI1.out HI2.out rfl (by decide) rfl HO2.out ⟨bn, 0, none⟩ 1 1 [.string (cutD xp 70), .int .i64 xf, .int .i64 xn, .string (cutD xd 40)] rfl rfl (row_at HBn.out) (enC_one (cutEn ⟨xp, xf, xn, xd⟩)) (by decide) ?b1 ?b2 hsz2 ?_)
      case b1 => unfold maxLen; omega
      case b2 => omega
      intro v9 w9 hown hchg _
      replace hown : Own (b0 + 3) 4 v9 (k + 1) ((fewK l k).flatMap enC ++ enC (cutEn ⟨xp, xf, xn, xd⟩)) w9 := hown
      rw [← HSt.out] at hown
      obtain ⟨p9, c9, rfl⟩ := hown.slice
      have hz9 : b0 + 3 ≤ w9.heap.size := Nat.le_trans hsz2 hchg.size
      have hne9 : ∀ b, b < b0 + 3 → some b ≠ V.ownBlock := fun b hb e => by have := HO2.out.ge e.symm; omega
      have HR09 := Lib.hid (hchg.block (HG2.out.block HR0.out) (hne9 b0 (by omega)))
      have HRA9 := Lib.hid (hchg.block (HG2.out.block HRA.out) (hne9 br (by have := Hbp.out; omega)))
      have HRB9 := Lib.hid (hchg.block (HG2.out.block HRB.out) (hne9 bp (by have := Hbp.out; omega)))
      have HG9 : Hid (Gr w w9) := Lib.hid (gr_step (HG.out.trans HG2.out) (Gr.refl _) hchg (fun g hg => by have := HO2.out.ge hg; have := Hbp.out; omega))
      have HO9 := Lib.hid hown
      have HZ9 := Lib.hid hz9
      clear hown hchg hz9 hne9 hsz2 HO2 HO HR0 HRA HRB HG HG2 HZ HSt HBn
      obtain ⟨m0, m1, m2⟩ := row3 HRB9.out
      obtain ⟨f0, f1, f2⟩ := frozen3 HRB9.out
      have HCh : Hid (Chg (some bp) w9 (w9.setCell ⟨bp, 2, none⟩ (.slice p9 (k + 1) c9))) := Lib.hid (setCells_chg bp [.slice p9 (k + 1) c9] 2 w9)
      have HRBx : Hid ((w9.setCell ⟨bp, 2, none⟩ (.slice p9 (k + 1) c9)).heap[bp]? = some (.cells #[.int .i64 id, .int .i64 ver, .slice p9 (k + 1) c9] 24 (0, 0))) := Lib.hid (by
        rw [heap_setCell_same w9 bp 2 _ _ (.slice p9 (k + 1) c9) HRB9.out]; rfl)
      have HR0x := Lib.hid (HCh.out.block HR09.out (by have := Hbp.out; simp; omega))
      have HRAx := Lib.hid (HCh.out.block HRA9.out (by have := Hbp.out; simp; omega))
      have HGx : Hid (Gr w (w9.setCell ⟨bp, 2, none⟩ (.slice p9 (k + 1) c9))) := Lib.hid (gr_step HG9.out (Gr.refl _) HCh.out (fun g e => by cases e; have := Hbp.out; omega))
      have HOx := Lib.hid (HO9.out.keep HCh.out (.inr (fun e => by have := HO9.out.ge e; have := Hbp.out; omega)))
      have HZx : Hid (b0 + 3 ≤ (w9.setCell ⟨bp, 2, none⟩ (.slice p9 (k + 1) c9)).heap.size) := Lib.hid (Nat.le_trans HZ9.out HCh.out.size)
      clear HCh HR09 HRA9 HRB9 HG9 HO9 HZ9
      go_wp2_with fail
      go_roundw
      case rel => exact ⟨k + 1, _, by omega, by omega, by go_num, HGx, HZx, HR0x, HRAx, HRBx, HOx⟩
      case measure => simp [intOf]; omega
    · have HEq : Hid (fewK l k = fewL l) := Lib.hid (by
        unfold fewK fewL
        rcases Nat.lt_or_ge k l.length with h | h
        · rw [show k = 66 by omega]
        · rw [List.take_of_length_le h, List.take_of_length_le (by omega)])
      have HLk : Hid ((fewK l k).length = k) := Lib.hid (by unfold fewK; rw [List.length_map, List.length_take]; omega)
      obtain ⟨p9, c9, rfl⟩ := HO.out.slice
      obtain ⟨q0, q1, q2⟩ := row3 HRB.out
      obtain ⟨k0, k1, k2⟩ := row3 HRA.out
      obtain ⟨f0, f1, f2⟩ := frozen3 HRA.out
      have hch : Chg (some br) wr (((wr.setCell ⟨br, 0, none⟩ (.int .i64 id)).setCell ⟨br, 1, none⟩ (.int .i64 ver)).setCell ⟨br, 2, none⟩ (.slice p9 k c9)) := setCells_chg br [.int .i64 id, .int .i64 ver, .slice p9 k c9] 0 wr
      have HRow := Lib.hid (row_set3 (a' := .int .i64 id) (b' := .int .i64 ver) (c' := .slice p9 k c9) HRA.out)
      have HGx : Hid (Gr w (((wr.setCell ⟨br, 0, none⟩ (.int .i64 id)).setCell ⟨br, 1, none⟩ (.int .i64 ver)).setCell ⟨br, 2, none⟩ (.slice p9 k c9))) := Lib.hid (gr_step HG.out (Gr.refl _) hch (fun g e => by cases e; have := Hbp.out; omega))
      have HOx : Hid (Own w.heap.size 4 (.slice p9 k c9) (fewL l).length ((fewL l).flatMap enC) (((wr.setCell ⟨br, 0, none⟩ (.int .i64 id)).setCell ⟨br, 1, none⟩ (.int .i64 ver)).setCell ⟨br, 2, none⟩ (.slice p9 k c9))) := Lib.hid (by
        rw [← HEq.out, HLk.out]
        exact (HO.out.keep hch (.inr (fun e => by have := HO.out.ge e; have := Hbp.out; omega))).mono (by have := Hbp.out; omega))
      clear hch HO HEq HLk
      by_cases hlt : k < l.length
      · have ht : decide (k < l.length) = true := decide_eq_true hlt
        have ht' : decide ((k : Int) < (l.length : Int)) = true := decide_eq_true (by omega)
        have ht2 : decide (k < 66) = false := decide_eq_false (by omega)
        have ht2' : decide ((k : Int) < 66) = false := decide_eq_false (by omega)
        go_wp2_with fail
        refine bodyPost_ret (results_cell_row rfl _ _ br 24 _ (0, 0) _ rfl HRow.out Tryz.underlying24 rfl (by kernel_rfl)) rfl ?_
        exact ⟨_, rfl, HOx.out, HGx.out⟩
      · have ht : decide (k < l.length) = false := decide_eq_false hlt
        have ht' : decide ((k : Int) < (l.length : Int)) = false := decide_eq_false (by omega)
        go_wp2_with fail
        refine bodyPost_ret (results_cell_row rfl _ _ br 24 _ (0, 0) _ rfl HRow.out Tryz.underlying24 rfl (by kernel_rfl)) rfl ?_
        exact ⟨_, rfl, HOx.out, HGx.out⟩
end
end Go.Proofs.YtjnnhhengpinmaaGreatDoor
