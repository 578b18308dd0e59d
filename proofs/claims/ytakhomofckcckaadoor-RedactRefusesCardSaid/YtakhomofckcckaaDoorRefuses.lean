/- The walk of the statement RedactRefuses: it answers true. -/
import Derived.Test.YtakhomofckcckaaDoorRfZ
import Derived.Deep.CutBlock
import Derived.Deep.CutRange
namespace Go.Proofs.YtakhomofckcckaaDoor
open Go Go.RowKit Go.Shelf
attribute [local go_sem] gAt gUpon
attribute [local simp] Gr.refl Gr.alloc

/-- behind the switch: the leaf at k is none -/
def BadAt (B gb ob N cb : Nat) (l : List Lf) (k : Nat) (w : World) (W : World) : Prop := ∃ y, leafB y = false ∧ Own B 5 (.slice (some ⟨gb, ob, none⟩) N cb) N ((l.set k y).flatMap lfC) W ∧ Chg (some gb) w W
theorem BadAt.mk1 {B gb ob N cb : Nat} {l : List Lf} {k j : Nat} {w : World} {x y : Lf} {u : Value} (h : Own B 5 (.slice (some ⟨gb, ob, none⟩) N cb) N (l.flatMap lfC) w) (hN : l.length = N) (hx : l[k]? = some x) (hj : j < 5) (hy : lfC y = (lfC x).set j u) (hb : leafB y = false) :
    BadAt B gb ob N cb l k w (w.setCell ⟨gb, ob + k * 5 + j, none⟩ u) := by
  have hk := (List.getElem?_eq_some_iff.1 hx).1
  refine ⟨y, hb, ?_, setCells_chg gb [u] (ob + k * 5 + j) w⟩
  have h1 := h.put1 (k * 5 + j) (by rw [flat_len5]; omega) u
  rw [flat_put lfC_len l k j x y u hx hj hy, ← Nat.add_assoc] at h1
  exact h1
theorem BadAt.mk2 {B gb ob N cb : Nat} {l : List Lf} {k j : Nat} {w : World} {x z y : Lf} {u : Value} (h : Own B 5 (.slice (some ⟨gb, ob, none⟩) N cb) N (l.flatMap lfC) w) (hN : l.length = N) (hx : l[k]? = some x) (hj : j < 5) (hy : lfC y = (lfC z).set j u) (hb : leafB y = false) :
    BadAt B gb ob N cb l k w ((w.setCells gb (ob + k * 5) (lfC z)).setCell ⟨gb, ob + k * 5 + j, none⟩ u) := by
  have hk := (List.getElem?_eq_some_iff.1 hx).1
  have h0 := h.store k (by omega) (lfC z) rfl
  rw [← flat_set lfC_len l k z hk] at h0
  have hz : (l.set k z)[k]? = some z := by rw [List.getElem?_set_self hk]
  obtain ⟨y', h1, h2, h3⟩ := BadAt.mk1 (l := l.set k z) h0 (by rw [List.length_set]; exact hN) hz hj hy hb
  rw [List.set_set] at h2
  exact ⟨y', h1, h2, (setCells_chg gb (lfC z) (ob + k * 5) w).trans h3⟩
set_option maxRecDepth 100000 in
set_option maxHeartbeats 8000000 in
theorem refuses_any (v1 v2 : Value) (r0 r1 : Int) (s : ByteArray) (iw ih iz : Int) (w : World) (hx : CaseIn v1 v2 r0 r1 w) (hs : s.size ≤ 9223372036854775807) (hiw : I64 iw) (hih : I64 ih) (hiz : I64 iz) (hT : Tab w) :
    Calls Tryd.prog 5 #[.agg #[v1, v2, .int .i64 r0, .int .i64 r1, .string s], .int .i64 iw, .int .i64 ih, .int .i64 iz] w fun e w' => e = .returned (.bool true) ∧ Gr w w' := by
  obtain ⟨i3, hi3, hz3, hsz3, hb3⟩ := info_parts infoInt
  obtain ⟨iL, hiL, hzL, hszL, hbL⟩ := info_parts infoLn
  obtain ⟨i5, hi5, hz5, hsz5, hb5⟩ := info_parts infoLf
  have HX := Lib.hid hx
  have HT := Lib.hid hT
  obtain ⟨⟨L1, L2, h1, h2, -⟩, -⟩ := hx
  obtain ⟨p1, c1, rfl⟩ := h1.shape
  obtain ⟨p2, c2, rfl⟩ := h2.shape
  clear hT h1 h2
  go_enter Tryd.func5, Tryd.ntmps5
  go_wp2_with fail
  refine (sane_any _ (HT.out.gr (Gr.alloc _ _))).mono ?_
  rintro e w1 ⟨rfl, hg1⟩
  have hrow := hg1.block (heap_alloc_new w (.cells #[.slice p1 L1.length c1, .slice p2 L2.length c2, .int .i64 r0, .int .i64 r1, .string s] 26))
  obtain ⟨k0, k1, k2, k3, k4⟩ := row5 hrow
  have HG1 := Lib.hid ((Gr.alloc w (.cells #[.slice p1 L1.length c1, .slice p2 L2.length c2, .int .i64 r0, .int .i64 r1, .string s] 26)).trans hg1)
  clear hg1 hrow
  go_wp2_with fail
  refine (made_any _ _ r0 r1 s _ (HX.out.gr HG1.out) hs).mono ?_
  rintro e w2 ⟨vL, vC, ls, cs, wd, bits, sc, rfl, hd, hsc, hg2⟩
  have HG2 := Lib.hid (HG1.out.trans hg2)
  have HD2 := Lib.hid hd
  obtain ⟨pl, cl, rfl⟩ := hd.1.1.shape
  obtain ⟨pc, cc, rfl⟩ := hd.1.2.shape
  have HLs : Hid (ls.length ≤ 6) := Lib.hid hd.2.2
  have hls6 := hd.2.2
  clear hg2 hd k0 k1 k2 k3 k4
  go_upto_region 3 with fail
  refine wp_gen (F := fun y => Gr w2 y ∧ y.heap[w2.heap.size]? = some (.cells #[.slice pl ls.length cl, .slice pc cs.length cc, .int .i64 wd, .string bits] 32 (0, 0))) ⟨Gr.alloc _ _, heap_alloc_new _ _⟩ ?_
  rintro w3 ⟨hg3, hr3⟩
  have HR3 := Lib.hid hr3
  have HG3 := Lib.hid (HG2.out.trans hg3)
  have HD3 := Lib.hid (HD2.out.gr hg3)
  have HG23 := Lib.hid hg3
  have HZ2 : Hid (w.heap.size ≤ w2.heap.size ∧ w2.heap.size < w3.heap.size) := Lib.hid ⟨HG2.out.size, (Array.getElem?_eq_some_iff.1 hr3).1⟩
  obtain ⟨k0, -, -, -⟩ := row4 hr3
  have k0 : ∀ o, (w3.alloc o).cell? ⟨w2.heap.size, 0, none⟩ = some (.slice pl ls.length cl) := fun o => (Gr.alloc w3 o).cell k0
  have HOE := Lib.hid (own_empty w3 45 w3.heap.size 2 (Nat.le_refl _))
  clear hr3 hg3
  go_wp2_with ((with_reducible show wpList _ _ _ (⟨some 30, _, _, _, _, _⟩ :: _) _ _); refine wpList_append_Rws (enc := lnC) rfl (.tmp 27) (.tmp 29) 29 rfl 45 iL (.agg #[.string ⟨#[]⟩, .int .i64 0]) 2 24 Tryd.underlying29 hiL hzL hszL hbL rfl (by decide) rfl HOE.out (fun _ => rfl) lnC_one ls _ rfl (HD3.out.1.1.gr (Gr.alloc _ _)) ?b1A ?b2A ?hBA ?_)
  case b1A => unfold maxLen; omega
  case b2A => omega
  case hBA => simp
  intro v30 w30 hown30 hchg30
  have hg30 : Gr w3 w30 := gr_step (Gr.refl w3) (Gr.alloc _ _) hchg30 (fun g hg => HOE.out.ge hg)
  have HO30 := Lib.hid hown30
  have HG30 := Lib.hid hg30
  have HZ30 : Hid (w3.heap.size ≤ w30.heap.size) := Lib.hid hg30.size
  clear hown30 hchg30 hg30 HOE k0
  go_wp2_with ((with_reducible show wpList _ _ _ (⟨some 33, _, _, _, _, _⟩ :: _) _ _); refine wpList_append_Own rfl (.tmp 30) (.tmp 32) 29 rfl 45 iL (.agg #[.string ⟨#[]⟩, .int .i64 0]) 2 24 Tryd.underlying29 hiL hzL hszL hbL rfl (by decide) rfl (HO30.out.gr (Gr.alloc w30 _)) ⟨w30.heap.size, 0, none⟩ 1 1 [.string ⟨#[120]⟩, .int .i64 1] rfl rfl (cells_new_at w30 [.string ⟨#[120]⟩, .int .i64 1] 45) (one2 ⟨#[120]⟩ 1) Nat.one_pos ?b1B ?b2B ?hBB ?_)
  case b1B => unfold maxLen; omega
  case b2B => omega
  case hBB => have := HZ30.out; simp; omega
  intro v33 w33 hown33 hchg33 _
  obtain ⟨p33, c33, rfl⟩ := hown33.slice
  have hg33 : Gr w3 w33 := gr_step HG30.out (Gr.alloc _ _) hchg33 (fun g hg => HO30.out.ge hg)
  have HO33 : Hid (Own w3.heap.size 2 (.slice p33 (ls.length + 1) c33) (ls ++ [((⟨#[120]⟩, 1) : Ln)]).length ((ls ++ [((⟨#[120]⟩, 1) : Ln)]).flatMap lnC) w33) := Lib.hid (by
    rw [List.flatMap_append, List.length_append]
    have h := hown33
    first | exact h | (simp only [Nat.zero_add, List.nil_append] at h ⊢; exact h) | simpa using h)
  have HG33 := Lib.hid hg33
  have hr33 := hg33.block HR3.out
  obtain ⟨k0, -, -, -⟩ := row4 hr33
  obtain ⟨f0, -, -, -⟩ := frozen4 hr33
  have HR33 := Lib.hid hr33
  clear hown33 hchg33 hg33 hr33 HO30 HG30 HZ30
  go_upto_region 4 with fail
  have hNl : ls.length + 1 = (ls ++ [((⟨#[120]⟩, 1) : Ln)]).length := by simp
  rw [hNl] at HO33 ⊢
  have hch : Chg (some w2.heap.size) w33 (w33.setCell ⟨w2.heap.size, 0, none⟩ (.slice p33 (ls ++ [((⟨#[120]⟩, 1) : Ln)]).length c33)) := setCells_chg w2.heap.size [.slice p33 (ls ++ [((⟨#[120]⟩, 1) : Ln)]).length c33] 0 w33
  have HR4 : Hid ((w33.setCell ⟨w2.heap.size, 0, none⟩ (.slice p33 (ls ++ [((⟨#[120]⟩, 1) : Ln)]).length c33)).heap[w2.heap.size]? = some (.cells #[.slice p33 (ls ++ [((⟨#[120]⟩, 1) : Ln)]).length c33, .slice pc cs.length cc, .int .i64 wd, .string bits] 32 (0, 0))) := Lib.hid (by
    rw [heap_setCell_same _ _ _ _ _ _ HR33.out]; rfl)
  have HD4 : Hid (DocIn (.slice p33 (ls ++ [((⟨#[120]⟩, 1) : Ln)]).length c33) (.slice pc cs.length cc) (ls ++ [((⟨#[120]⟩, 1) : Ln)]) cs (w33.setCell ⟨w2.heap.size, 0, none⟩ (.slice p33 (ls ++ [((⟨#[120]⟩, 1) : Ln)]).length c33))) := Lib.hid ⟨
    own_rws (s := 2) (enc := lnC) (fun _ => rfl) (HO33.out.keep hch (.inr (fun e => by have := HO33.out.ge e; have := HZ2.out.2; omega))),
    (HD2.out.1.2).chg_new (s := 6) (enc := ceC) (fun _ => rfl) (by decide) (HG23.out.trans HG33.out) hch (Nat.le_refl _)⟩
  have HG4 : Hid (Gr w (w33.setCell ⟨w2.heap.size, 0, none⟩ (.slice p33 (ls ++ [((⟨#[120]⟩, 1) : Ln)]).length c33))) := Lib.hid (gr_step (HG3.out.trans HG33.out) (Gr.refl _) hch (fun g e => by cases e; exact HZ2.out.1))
  have HVd : Hid (validB (ls ++ [((⟨#[120]⟩, 1) : Ln)]) cs wd bits = true) := Lib.hid (validB_push HD2.out.2.1 HLs.out (by decide +kernel))
  have hM7 : (ls ++ [((⟨#[120]⟩, 1) : Ln)]).length ≤ 7 ∧ 0 < (ls ++ [((⟨#[120]⟩, 1) : Ln)]).length := by simp; omega
  clear hch hNl k0 f0 HO33 HR33 HG33 HD3 HR3
  generalize ls ++ [((⟨#[120]⟩, 1) : Ln)] = ms at HR4 HD4 HG4 HVd hM7 ⊢
  generalize w33.setCell ⟨w2.heap.size, 0, none⟩ (.slice p33 ms.length c33) = w4 at HR4 HD4 HG4 ⊢
  obtain ⟨k0, k1, k2, k3⟩ := row4 HR4.out
  obtain ⟨hM7, hM0⟩ := hM7
  go_wp2_with fail
  refine (leaves_ok _ _ ms cs wd bits sc w4 HD4.out HVd.out (by omega) (HT.out.gr HG4.out)).mono ?_
  rintro e w5 ⟨u5, rfl, ho5, hg5⟩
  have HG5 := Lib.hid (HG4.out.trans hg5)
  obtain ⟨p5, c5, rfl⟩ := ho5.slice
  have hvl := validB_lines HVd.out
  have hll := leaves_list (secret := sc) hvl.1 hvl.2
  have HO5 : Hid (Rws 5 lfC (.slice p5 ms.length c5) (leavesD sc ms) w5) := Lib.hid (by
    have h := own_rws (l := leavesD sc ms) lfC_len (v := .slice p5 ms.length c5) (by rw [leavesD_len]; exact ho5)
    exact h)
  have HLN : Hid ((leavesD sc ms).length = ms.length) := Lib.hid (leavesD_len sc ms)
  have HLL := Lib.hid hll
  have HGet := Lib.hid (leaves_get sc ms)
  have hz0 : ((ms.length : Int) == 0) = false := by rw [beq_eq_false_iff_ne]; omega
  have hz0' : (ms.length == 0) = false := by rw [beq_eq_false_iff_ne]; omega
  have hkM := pickD_lt iw ms.length hM0
  have HPk : Hid (∀ y, Calls Tryd.prog 17 #[.int .i64 iw, .int .i64 (ms.length : Int)] y fun e y' => e = .returned (.int .i64 (pickD iw ms.length : Int)) ∧ y = y') := Lib.hid (fun y => pick_any iw ms.length y hiw hM0 (by omega))
  have HPh : Hid (∀ y, Calls Tryd.prog 17 #[.int .i64 ih, .int .i64 7] y fun e y' => e = .returned (.int .i64 (pickD ih 7 : Int)) ∧ y = y') := Lib.hid (fun y => pick_any ih 7 y hih (by decide) (by decide))
  have HPz : Hid (∀ y, Calls Tryd.prog 17 #[.int .i64 iz, .int .i64 70] y fun e y' => e = .returned (.int .i64 (pickD iz 70 : Int)) ∧ y = y') := Lib.hid (fun y => pick_any iz 70 y hiz (by decide) (by decide))
  have hw7 := pickD_lt ih 7 (by decide)
  have hn70 := pickD_lt iz 70 (by decide)
  generalize pickD iw ms.length = k at HPk hkM
  generalize pickD ih 7 = wh at HPh hw7
  generalize pickD iz 70 = nn at HPz hn70
  clear hg5 ho5 hvl hll k0 k1 k2 k3 HR4 HD4 hiw hih hiz
  obtain ⟨x, hxk⟩ : ∃ x, ms[k]? = some x := ⟨_, List.getElem?_eq_getElem hkM⟩
  have HXk : Hid ((leavesD sc ms)[k]? = some (mkLf sc k x)) := Lib.hid (by rw [HGet.out, hxk]; rfl)
  have HSk : Hid ((saltD sc (k : Int)).size = 16) := Lib.hid (by
    unfold saltD
    rw [if_neg (by omega), ByteArray.size_extract, sha_size]; rfl)
  clear hxk HGet
  generalize leavesD sc ms = l at HO5 HLN HLL HXk
  have HRoot := Lib.hid (fun y (hg : Gr w5 y) => rRoot_any (.slice p5 ms.length c5) l y (HO5.out.gr hg) (by rw [HLN.out]; omega) (HT.out.gr (HG5.out.trans hg)))
  have HRz := Lib.hid (rtD_size HLL.out)
  generalize rtD l = R at HRoot HRz
  go_wp2_with fail
  refine (HPk.out _).mono ?_
  rintro e y ⟨rfl, rfl⟩
  go_wp2_with fail
  refine (HRoot.out _ (Gr.refl _)).mono ?_
  rintro e w6 ⟨rfl, hg6⟩
  have HG6 := Lib.hid (HG5.out.trans hg6)
  have HO6 := Lib.hid (HO5.out.gr hg6)
  have HOE := Lib.hid (own_empty w6 47 w6.heap.size 5 (Nat.le_refl _))
  clear hg6 HRoot HO5 HPk
  go_wp2_with ((with_reducible show wpList _ _ _ (⟨some 56, _, _, _, _, _⟩ :: _) _ _); refine wpList_append_Rws (enc := lfC) rfl (.tmp 54) (.tmp 55) 35 rfl 47 i5 (.agg #[.bool false, .string ⟨#[]⟩, .int .i64 0, .string ⟨#[]⟩, .string ⟨#[]⟩]) 5 64 Tryd.underlying35 hi5 hz5 hsz5 hb5 rfl (by decide) rfl HOE.out lfC_len lfC_one l _ rfl (HO6.out.gr (Gr.alloc _ _)) ?b1C ?b2C ?hBC ?_)
  case b1C => have := HLN.out; unfold maxLen; omega
  case b2C => have := HLN.out; omega
  case hBC => simp
  intro v56 w56 hown56 hchg56
  have hg56 : Gr w6 w56 := gr_step (Gr.refl w6) (Gr.alloc _ _) hchg56 (fun g hg => HOE.out.ge hg)
  have hob : Own w6.heap.size 5 v56 ms.length (l.flatMap lfC) w56 := by
    have h := hown56
    rw [HLN.out] at h
    simpa using h
  obtain ⟨gb, ob, cb, rfl, hgb, hlb, hmb⟩ := hob.shape hM0
  have HOb := Lib.hid hob
  have HG56 := Lib.hid (HG6.out.trans hg56)
  have HO56 := Lib.hid (HO6.out.gr hg56)
  clear hown56 hchg56 hg56 hob HOE HO6
  go_wp2_with fail
  refine (hide_ok _ l [(k : Int)] _ _ (HO56.out.gr (Gr.alloc _ _)) HLL.out (ints_new w56 [(k : Int)] 1 rfl) (by intro x hx; obtain rfl := List.mem_singleton.1 hx; omega) (by simp) (HT.out.gr (HG56.out.trans (Gr.alloc _ _)))).mono ?_
  rintro e w60 ⟨z60, rfl, ho60, hg60⟩
  rw [HLN.out] at ho60
  obtain ⟨gh, oh, chh, rfl, hgh, hlh, hmh⟩ := ho60.shape hM0
  have hgA := (Gr.alloc w56 (.cells #[.int .i64 (k : Int)] 3)).trans hg60
  have HG60 := Lib.hid (HG56.out.trans hgA)
  have HOb60 := Lib.hid (HOb.out.gr hgA)
  have HHd : Hid (Rws 5 lfC (.slice (some ⟨gh, oh, none⟩) ms.length chh) (hideD [(k : Int)] l) w60) := Lib.hid (by
    have h := own_rws (l := hideD [(k : Int)] l) lfC_len (v := .slice (some ⟨gh, oh, none⟩) ms.length chh) (by rw [hideD_len HLL.out, HLN.out]; exact ho60)
    exact h)
  have HBh : Hid (gb < gh) := Lib.hid (by
    have a1 := HOb.out.lt (by omega) (g := gb) rfl
    simp at hgh
    omega)
  have HLh : Hid ((hideD [(k : Int)] l).length = ms.length) := Lib.hid (by rw [hideD_len HLL.out, HLN.out])
  obtain ⟨vd, hvd, hlb, hone⟩ := hide_one HLL.out HXk.out
  have HVd := Lib.hid hvd
  have HLb := Lib.hid hlb
  have HOne := Lib.hid hone
  have HKN : Hid (k < l.length) := Lib.hid (by rw [HLN.out]; exact hkM)
  have HBk : Hid (∀ y : Lf, leafB y = false → listB (l.set k y) = false) := Lib.hid (fun y hy => list_bad HKN.out hy)
  have HZs : Hid (w.heap.size ≤ w6.heap.size) := Lib.hid HG6.out.size
  obtain ⟨xt, xm⟩ := x
  have hxk2 : l[k]? = some ⟨true, xt, xm, saltD sc (k : Int), ⟨#[]⟩⟩ := HXk.out
  generalize saltD sc (k : Int) = sk at hxk2 HSk
  have HX2 := Lib.hid hxk2
  clear ho60 hg60 hgA HOb HO56 HXk hvd hlb hone hxk2
  have hnn : ((ms.length : Int) != (ms.length : Int)) = false := by simp
  go_wp2_with fail
  refine (HPh.out _).mono ?_
  rintro e y ⟨rfl, rfl⟩
  go_upto_block 0 with fail
  obtain ⟨wS, hwS⟩ : ∃ wS, wS = w60 := ⟨_, rfl⟩
  subst hwS
  go_cut [] from 68 to 137 (fun wx => Hid (BadAt w6.heap.size gb ob ms.length cb l k wS wx))
  case first =>
    rename_i JJ KK hJ hK
    obtain ⟨b0, b1, b2, b3, b4⟩ := own_cells HOb60.out k _ HX2.out
    obtain ⟨f0, f1, f2, f3, f4⟩ := own_free HOb60.out k hkM
    obtain ⟨gq, oq, he, -, hch⟩ := HHd.out.at_n HLh.out HOne.out
    injection he with he
    injection he with e1 e2
    subst e1 e2
    have h0 := hch 0 _ rfl
    have h1 := hch 1 _ rfl
    have h2 := hch 2 _ rfl
    have h3 := hch 3 _ rfl
    have h4 := hch 4 _ rfl
    rw [Nat.add_zero] at b0 h0
    rw [← Nat.add_assoc] at b1 b2 b3 b4 h1 h2 h3 h4
    simp only at b0 b1 b2 b3 b4 h0 h1 h2 h3 h4
    have hs1 : 1 ≤ sk.size := by have := HSk.out; omega
    have hd1 : 1 ≤ vd.size := by have := HVd.out; omega
    have HTh : Hid (wS.there gb (ob + k * 5) 5) := Lib.hid (HOb60.out.there k hkM)
    clear hch
    have hcase : wh = 0 ∨ wh = 1 ∨ wh = 2 ∨ wh = 3 ∨ wh = 4 ∨ wh = 5 ∨ wh = 6 := by omega
    rcases hcase with rfl | rfl | rfl | rfl | rfl | rfl | rfl
    · go_wp2_with fail
      refine Met.intro (hJ _ _ ?_)
      repeat apply Exists.intro
      refine ⟨?_, rfl⟩
      exact Lib.hid (BadAt.mk1 (j := 4) (y := ⟨true, xt, xm, sk, R⟩) HOb60.out HLN.out HX2.out (by decide) rfl (leaf_bad0 HRz.out))
    · go_wp2_with fail
      refine Met.intro (hJ _ _ ?_)
      repeat apply Exists.intro
      refine ⟨?_, rfl⟩
      exact Lib.hid (BadAt.mk1 (j := 3) (y := ⟨true, xt, xm, sk.extract 1 sk.size, ⟨#[]⟩⟩) HOb60.out HLN.out HX2.out (by decide) rfl (leaf_bad1 (by rw [ByteArray.size_extract]; have := HSk.out; omega)))
    · go_wp2_with fail
      refine Met.intro (hJ _ _ ?_)
      repeat apply Exists.intro
      refine ⟨?_, rfl⟩
      exact Lib.hid (BadAt.mk1 (j := 2) (y := ⟨true, xt, 8, sk, ⟨#[]⟩⟩) HOb60.out HLN.out HX2.out (by decide) rfl leaf_bad2)
    · go_wp2_with fail
      refine Met.intro (hJ _ _ ?_)
      repeat apply Exists.intro
      refine ⟨?_, rfl⟩
      exact Lib.hid (BadAt.mk1 (j := 1) (y := ⟨true, ⟨#[10]⟩, xm, sk, ⟨#[]⟩⟩) HOb60.out HLN.out HX2.out (by decide) rfl leaf_bad3)
    · go_wp2_with fail
      refine Met.intro (hJ _ _ ?_)
      repeat apply Exists.intro
      refine ⟨?_, rfl⟩
      exact Lib.hid (BadAt.mk1 (j := 0) (y := ⟨false, xt, xm, sk, ⟨#[]⟩⟩) HOb60.out HLN.out HX2.out (by decide) rfl (leaf_bad4 HSk.out))
    · have hOs : Own w6.heap.size 5 (.slice (some ⟨gb, ob, none⟩) ms.length cb) ms.length ((l.set k ⟨false, ⟨#[]⟩, 0, ⟨#[]⟩, vd⟩).flatMap lfC) (wS.setCells gb (ob + k * 5) [.bool false, .string ⟨#[]⟩, .int .i64 0, .string ⟨#[]⟩, .string vd]) := by
        have h := HOb60.out.store k hkM (lfC ⟨false, ⟨#[]⟩, 0, ⟨#[]⟩, vd⟩) rfl
        rw [← flat_set lfC_len l k ⟨false, ⟨#[]⟩, 0, ⟨#[]⟩, vd⟩ HKN.out] at h
        exact h
      have hzk : (l.set k ⟨false, ⟨#[]⟩, 0, ⟨#[]⟩, vd⟩)[k]? = some ⟨false, ⟨#[]⟩, 0, ⟨#[]⟩, vd⟩ := by rw [List.getElem?_set_self HKN.out]
      obtain ⟨z0, z1, z2, z3, z4⟩ := own_cells hOs k _ hzk
      obtain ⟨g0, g1, g2, g3, g4⟩ := own_free hOs k hkM
      rw [Nat.add_zero] at z0
      rw [← Nat.add_assoc] at z1 z2 z3 z4
      simp only at z0 z1 z2 z3 z4
      clear hOs hzk b0 b1 b2 b3 b4 f0 f1 f2 f3 f4
      go_wp2_with ((with_reducible show wpList _ _ _ (⟨none, .store 47 _ _, _, _, _, _⟩ :: _) _ _); refine wpList_store_mid rfl 47 (.tmp 127) (.tmp 126) rfl gb (ob + k * 5) #[.bool false, .string ⟨#[]⟩, .int .i64 0, .string ⟨#[]⟩, .string vd] rfl rfl HTh.out (infoLf_size Tryd.prog rfl) (by simp [Value.oneCell']) ?_)
      refine Met.intro (hJ _ _ ?_)
      repeat apply Exists.intro
      refine ⟨?_, rfl⟩
      exact Lib.hid (BadAt.mk2 (j := 4) (z := ⟨false, ⟨#[]⟩, 0, ⟨#[]⟩, vd⟩) (y := ⟨false, ⟨#[]⟩, 0, ⟨#[]⟩, vd.extract 1 vd.size⟩) HOb60.out HLN.out HX2.out (by decide) rfl (leaf_bad5 (by rw [ByteArray.size_extract]; have := HVd.out; omega)))
    · have hOs : Own w6.heap.size 5 (.slice (some ⟨gb, ob, none⟩) ms.length cb) ms.length ((l.set k ⟨false, ⟨#[]⟩, 0, ⟨#[]⟩, vd⟩).flatMap lfC) (wS.setCells gb (ob + k * 5) [.bool false, .string ⟨#[]⟩, .int .i64 0, .string ⟨#[]⟩, .string vd]) := by
        have h := HOb60.out.store k hkM (lfC ⟨false, ⟨#[]⟩, 0, ⟨#[]⟩, vd⟩) rfl
        rw [← flat_set lfC_len l k ⟨false, ⟨#[]⟩, 0, ⟨#[]⟩, vd⟩ HKN.out] at h
        exact h
      have hzk : (l.set k ⟨false, ⟨#[]⟩, 0, ⟨#[]⟩, vd⟩)[k]? = some ⟨false, ⟨#[]⟩, 0, ⟨#[]⟩, vd⟩ := by rw [List.getElem?_set_self HKN.out]
      obtain ⟨z0, z1, z2, z3, z4⟩ := own_cells hOs k _ hzk
      obtain ⟨g0, g1, g2, g3, g4⟩ := own_free hOs k hkM
      rw [Nat.add_zero] at z0
      rw [← Nat.add_assoc] at z1 z2 z3 z4
      simp only at z0 z1 z2 z3 z4
      clear hOs hzk b0 b1 b2 b3 b4 f0 f1 f2 f3 f4
      go_wp2_with ((with_reducible show wpList _ _ _ (⟨none, .store 47 _ _, _, _, _, _⟩ :: _) _ _); refine wpList_store_mid rfl 47 (.tmp 74) (.tmp 73) rfl gb (ob + k * 5) #[.bool false, .string ⟨#[]⟩, .int .i64 0, .string ⟨#[]⟩, .string vd] rfl rfl HTh.out (infoLf_size Tryd.prog rfl) (by simp [Value.oneCell']) ?_)
      refine Met.intro (hJ _ _ ?_)
      repeat apply Exists.intro
      refine ⟨?_, rfl⟩
      exact Lib.hid (BadAt.mk2 (j := 2) (z := ⟨false, ⟨#[]⟩, 0, ⟨#[]⟩, vd⟩) (y := ⟨false, ⟨#[]⟩, 1, ⟨#[]⟩, vd⟩) HOb60.out HLN.out HX2.out (by decide) rfl leaf_bad6)
  obtain ⟨yb, hyb, hobc, hchb⟩ := hcut.out
  have HBad : Hid (Rws 5 lfC (.slice (some ⟨gb, ob, none⟩) ms.length cb) (l.set k yb) wc) := Lib.hid (own_rws (l := l.set k yb) lfC_len (v := .slice (some ⟨gb, ob, none⟩) ms.length cb) (by rw [List.length_set, HLN.out]; exact hobc))
  have HBl := Lib.hid (HBk.out yb hyb)
  have HBn : Hid ((l.set k yb).length = ms.length) := Lib.hid (by rw [List.length_set, HLN.out])
  have HHc : Hid (Rws 5 lfC (.slice (some ⟨gh, oh, none⟩) ms.length chh) (hideD [(k : Int)] l) wc) := Lib.hid (HHd.out.chg hchb (fun g e h => by
    have := HBh.out
    simp [Value.ownBlock] at e
    injection h
    omega))
  have HGc : Hid (Gr w wc) := Lib.hid (gr_step HG60.out (Gr.refl _) hchb (fun g e => by cases e; have := HZs.out; omega))
  generalize l.set k yb = bad at HBad HBl HBn
  clear hyb hobc hchb hcut HHd HOb60 HG60 HBk
  go_wp2_with fail
  refine (HPz.out _).mono ?_
  rintro e y ⟨rfl, rfl⟩
  go_wp2_with fail
  go_loopw [18, 20] (fun v18 v20 W => ∃ (i : Nat) (V : Value), i ≤ nn ∧ v20 = .int .i64 (i : Int) ∧ V = v18 ∧ Hid (Own wc.heap.size 5 V i ((List.replicate i (⟨false, ⟨#[]⟩, 0, ⟨#[]⟩, vd⟩ : Lf)).flatMap lfC) W) ∧ Hid (Gr wc W)) (fun _ v20 _ => nn - (intOf v20).toNat)
  case atStart => exact ⟨0, _, Nat.zero_le _, rfl, rfl, Lib.hid (Own.nil _ _ _), Lib.hid (Gr.refl _)⟩
  case round =>
    obtain ⟨i, v18, hi, rfl, rfl, HO, HG⟩ := hrel
    by_cases hlt : i < nn
    · have ht : decide (i < nn) = true := decide_eq_true hlt
      obtain ⟨gq, oq, he, -, hch⟩ := (HHc.out.gr HG.out).at_n HLh.out HOne.out
      injection he with he
      injection he with e1 e2
      subst e1 e2
      have h0 := hch 0 _ rfl
      have h1 := hch 1 _ rfl
      have h2 := hch 2 _ rfl
      have h3 := hch 3 _ rfl
      have h4 := hch 4 _ rfl
      rw [Nat.add_zero] at h0
      rw [← Nat.add_assoc] at h1 h2 h3 h4
      simp only at h0 h1 h2 h3 h4
      clear hch
      go_wp2_with ((with_reducible show wpList _ _ _ (⟨some 151, _, _, _, _, _⟩ :: _) _ _); refine wpList_append_Own rfl (.tmp 145) (.tmp 150) 35 rfl 47 i5 (.agg #[.bool false, .string ⟨#[]⟩, .int .i64 0, .string ⟨#[]⟩, .string ⟨#[]⟩]) 5 64 Tryd.underlying35 hi5 hz5 hsz5 hb5 rfl (by decide) rfl (HO.out.gr (Gr.alloc wr _)) ⟨wr.heap.size, 0, none⟩ 1 1 (lfC ⟨false, ⟨#[]⟩, 0, ⟨#[]⟩, vd⟩) rfl rfl (cells_new_at wr (lfC ⟨false, ⟨#[]⟩, 0, ⟨#[]⟩, vd⟩) 47) (lfC_one _) (by decide) ?b1D ?b2D ?hBD ?_)
      case b1D => unfold maxLen; omega
      case b2D => omega
      case hBD => have := HG.out.size; simp; omega
      intro vN wN hownN hchgN _
      have HGN : Hid (Gr wc wN) := Lib.hid (gr_step HG.out (Gr.alloc _ _) hchgN (fun g hg => HO.out.ge hg))
      have HON : Hid (Own wc.heap.size 5 vN (i + 1) ((List.replicate (i + 1) (⟨false, ⟨#[]⟩, 0, ⟨#[]⟩, vd⟩ : Lf)).flatMap lfC) wN) := Lib.hid (by
        rw [List.replicate_succ', List.flatMap_append]
        simpa using hownN)
      clear hownN hchgN HG HO h0 h1 h2 h3 h4
      go_wp2_with fail
      go_roundw
      case rel => exact ⟨i + 1, _, by omega, by go_num, rfl, HON, HGN⟩
      case measure => simp [intOf]; omega
    · have ht : decide (i < nn) = false := decide_eq_false hlt
      obtain rfl : i = nn := by omega
      have HMy : Hid (Rws 5 lfC v18 (List.replicate i (⟨false, ⟨#[]⟩, 0, ⟨#[]⟩, vd⟩ : Lf)) wr) := Lib.hid (own_rws (l := List.replicate i (⟨false, ⟨#[]⟩, 0, ⟨#[]⟩, vd⟩ : Lf)) lfC_len (by rw [List.length_replicate]; exact HO.out))
      have HML := Lib.hid (many_list HLb.out i)
      have HMn : Hid ((List.replicate i (⟨false, ⟨#[]⟩, 0, ⟨#[]⟩, vd⟩ : Lf)).length = i) := Lib.hid List.length_replicate
      generalize List.replicate i (⟨false, ⟨#[]⟩, 0, ⟨#[]⟩, vd⟩ : Lf) = many at HMy HML HMn
      obtain ⟨pm, cm, rfl⟩ := HO.out.slice
      have HB1 := Lib.hid (HBad.out.gr HG.out)
      have HG1' := Lib.hid (HGc.out.trans HG.out)
      clear hlt HO HG HBad HHc
      go_wp2_with fail
      refine (rRoot_any _ bad wr HB1.out (by rw [HBn.out]; omega) (HT.out.gr HG1'.out)).mono ?_
      rintro e wa ⟨rfl, hga⟩
      rw [bad_root HBl.out]
      have HGa := Lib.hid (HG1'.out.trans hga)
      have HKa := Lib.hid hga
      clear hga
      go_wp2_with fail
      refine (check_any R _ bad wa (HB1.out.gr HKa.out) (by rw [HBn.out]; omega) (HT.out.gr HGa.out)).mono ?_
      rintro e wb ⟨rfl, hgb'⟩
      rw [bad_check HBl.out]
      have HGb := Lib.hid (HGa.out.trans hgb')
      have HKb := Lib.hid (HKa.out.trans hgb')
      clear hgb' HGa HKa
      go_wp2_with fail
      refine (check_any ⟨#[]⟩ _ bad wb (HB1.out.gr HKb.out) (by rw [HBn.out]; omega) (HT.out.gr HGb.out)).mono ?_
      rintro e wd' ⟨rfl, hgd⟩
      rw [bad_check HBl.out]
      have HGd := Lib.hid (HGb.out.trans hgd)
      have HKd := Lib.hid (HKb.out.trans hgd)
      clear hgd HGb HKb
      go_wp2_with fail
      refine (hide_any _ _ bad [] wd' (HB1.out.gr HKd.out) (by rw [HBn.out]; omega) (.inl ⟨rfl, none, 0, rfl⟩) (fun x hx => by cases hx) (by simp) (HT.out.gr HGd.out)).mono ?_
      rintro e we ⟨ze, rfl, hoe, hge⟩
      rw [bad_hide HBl.out] at hoe
      obtain ⟨pe, ce, rfl⟩ := hoe.slice
      have HGe := Lib.hid (HGd.out.trans hge)
      have HKe := Lib.hid (HKd.out.trans hge)
      clear hge hoe HGd HKd
      go_wp2_with fail
      refine (rLines_any _ bad we (HB1.out.gr HKe.out) (by rw [HBn.out]; omega)).mono ?_
      rintro e wf ⟨uf, rfl, hrf, hgf⟩
      have huf : Rws 2 lnC uf (linesD bad) wf := rws_of_row (s := 2) (enc := lnC) (fun _ => rfl) hrf
      rw [bad_lines HBl.out] at huf
      obtain ⟨pf, cf, rfl⟩ := huf.shape
      have HGf := Lib.hid (HGe.out.trans hgf)
      have HKf := Lib.hid (HKe.out.trans hgf)
      clear hgf huf hrf HGe HKe
      go_wp2_with fail
      refine (rRoot_any _ many wf (HMy.out.gr HKf.out) (by rw [HMn.out]; omega) (HT.out.gr HGf.out)).mono ?_
      rintro e wg ⟨rfl, hgg⟩
      have HGg := Lib.hid (HGf.out.trans hgg)
      clear hgg HGf HKf
      by_cases h64 : i ≤ 64
      · have hd : decide ((64 : Int) < (i : Int)) = false := decide_eq_false (by omega)
        have hR2 : (rtD many).size = 32 := rtD_size (by rw [HML.out]; exact decide_eq_true h64)
        generalize rtD many = R2 at hR2 ⊢
        have hR3 : R2.toList.isEmpty = false := by rw [isEmpty_iff, hR2]; rfl
        have hR4 : ¬ R2.toList = [] := fun e => by rw [e] at hR3; cases hR3
        clear hR2
        go_wp2_with fail
        go_ret
        exact ⟨rfl, HGg.out⟩
      · have hd : decide ((64 : Int) < (i : Int)) = true := decide_eq_true (by omega)
        rw [bad_root (by rw [HML.out]; exact decide_eq_false h64)]
        go_wp2_with fail
        go_ret
        exact ⟨rfl, HGg.out⟩
end Go.Proofs.YtakhomofckcckaaDoor
