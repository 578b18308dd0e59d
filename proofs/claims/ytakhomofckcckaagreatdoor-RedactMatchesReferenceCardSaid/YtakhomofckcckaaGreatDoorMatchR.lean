/- The walk of the statement RedactMatchesReference: it answers true. -/
import Derived.Test.YtakhomofckcckaaGreatDoorBinding
import Derived.Test.YtakhomofckcckaaGreatDoorMY
import Derived.Test.YtakhomofckcckaaGreatDoorMT
namespace Go.Proofs.YtakhomofckcckaaGreatDoor
open Go Go.RowKit Go.Shelf
attribute [local go_sem] gAt gUpon
attribute [local simp] Gr.refl Gr.alloc

theorem Rws.setSl {α : Type} {s : Nat} {enc : α → List Value} (hne : ∀ x u, u ∈ enc x → ∀ p n c, u ≠ .slice p n c) {v : Value} {l : List α} {w : World} {a : Addr} {p : Option Addr} {n c : Nat} (h : Rws s enc v l w) (hc : w.cell? a = some (.slice p n c)) (u' : Value) : Rws s enc v l (w.setCell a u') := by
  rcases h with h | ⟨g, off, cap, rfl, h1, h2⟩
  · exact .inl h
  · refine .inr ⟨g, off, cap, rfl, h1, fun i y j u hy hu => ?_⟩
    have h3 := h2 i y j u hy hu
    have hne2 : a ≠ ⟨g, off + (i * s + j), none⟩ := fun e => by
      rw [← e, hc] at h3
      injection h3 with h3
      exact hne y u (List.mem_of_getElem? hu) p n c h3.symm
    rw [World.cell?_setCell_other (h := hne2)]
    exact h3
theorem lnC_nsl (x : Ln) : ∀ u, u ∈ lnC x → ∀ p n c, u ≠ .slice p n c := by
  intro u hu p n c
  simp [lnC] at hu
  rcases hu with rfl | rfl <;> simp
theorem ceC_nsl (x : Ce) : ∀ u, u ∈ ceC x → ∀ p n c, u ≠ .slice p n c := by
  intro u hu p n c
  simp [ceC] at hu
  rcases hu with rfl | rfl | rfl | rfl | rfl | rfl <;> simp
theorem row_put2 {W : World} {g : Nat} {a b c d a' b' : Value} {t : TypeId} (h : W.heap[g]? = some (.cells #[a, b, c, d] t (0, 0))) :
    ((W.setCell ⟨g, 0, none⟩ a').setCell ⟨g, 1, none⟩ b').heap[g]? = some (.cells #[a', b', c, d] t (0, 0)) := by
  have h1 : (W.setCell ⟨g, 0, none⟩ a').heap[g]? = some (.cells #[a', b, c, d] t (0, 0)) := by rw [heap_setCell_same _ _ _ _ _ _ h]; rfl
  rw [heap_setCell_same _ _ _ _ _ _ h1]; rfl
/-- a document's list behind the two stores -/
theorem doc_put2 {W : World} {g : Nat} {c d a' b' : Value} {pa pb : Option Addr} {na ca nb cb : Nat} {t : TypeId} {v1 v2 : Value} {ls : List Ln} {cs : List Ce} (h : W.heap[g]? = some (.cells #[.slice pa na ca, .slice pb nb cb, c, d] t (0, 0))) (hd : DocIn v1 v2 ls cs W) : DocIn v1 v2 ls cs ((W.setCell ⟨g, 0, none⟩ a').setCell ⟨g, 1, none⟩ b') := by
  have h1 : (W.setCell ⟨g, 0, none⟩ a').heap[g]? = some (.cells #[a', .slice pb nb cb, c, d] t (0, 0)) := by rw [heap_setCell_same _ _ _ _ _ _ h]; rfl
  have e0 : W.cell? ⟨g, 0, none⟩ = some (.slice pa na ca) := by rw [cell_of_row _ _ _ _ _ _ h]; rfl
  have e1 : (W.setCell ⟨g, 0, none⟩ a').cell? ⟨g, 1, none⟩ = some (.slice pb nb cb) := by rw [cell_of_row _ _ _ _ _ _ h1]; rfl
  exact ⟨(hd.1.setSl lnC_nsl e0 a').setSl lnC_nsl e1 b', (hd.2.setSl ceC_nsl e0 a').setSl ceC_nsl e1 b'⟩
/-- an entry of the law's first table -/
def DEnt (cs : Array Value) (w : World) (i : Nat) : Prop := ∃ (p1 : Option Addr) (c1 : Nat) (ls : List Ln) (p2 : Option Addr) (c2 : Nat) (ks : List Ce) (wd : Int) (bits : ByteArray),
  cs[i * 4]? = some (.slice p1 ls.length c1) ∧ cs[i * 4 + 1]? = some (.slice p2 ks.length c2) ∧ cs[i * 4 + 2]? = some (.int .i64 wd) ∧ cs[i * 4 + 3]? = some (.string bits) ∧ DocIn (.slice p1 ls.length c1) (.slice p2 ks.length c2) ls ks w ∧ ls.length ≤ 100 ∧ ks.length ≤ 100 ∧ (-9223372036854775808 ≤ wd ∧ wd ≤ 9223372036854775807) ∧ bits.size ≤ 9223372036854775807 ∧ ∀ x ∈ ls, x.1.size ≤ 9223372036854775807
/-- an entry of the law's second table -/
def LEnt (cs : Array Value) (w : World) (i : Nat) : Prop := ∃ (p1 : Option Addr) (c1 : Nat) (l : List Lf), cs[i]? = some (.slice p1 l.length c1) ∧ Rws 5 lfC (.slice p1 l.length c1) l w ∧ l.length ≤ 100 ∧ ∀ x ∈ l, x.text.size ≤ 9223372036854775807
/-- what the if leaves -/
def CutR (w w5 : World) (v18 : Value) (l : List Lf) (k : Nat) (o : Lf) (W : World) : Prop :=
  Rws 5 lfC v18 (l.set k o) W ∧ Gr w W ∧ ∃ y b, Gr w5 y ∧ w5.heap.size ≤ b ∧ Chg (some b) y W
theorem leaf_text {l : List Lf} (h : listB l = true) : ∀ x ∈ l, x.text.size ≤ 9223372036854775807 := fun x hx => by
  have := leafB_tiny ((listB_all h).2 x hx); omega
theorem fewX_text (x : Lf) : (fewX x).text.size ≤ 9223372036854775807 := by
  unfold fewX
  rw [ByteArray.size_extract]; omega
theorem fewD_text (l : List Lf) : ∀ x ∈ fewD l, x.text.size ≤ 9223372036854775807 := fun x hx => by
  unfold fewD at hx
  obtain ⟨y, _, rfl⟩ := List.mem_map.1 hx
  exact fewX_text y
set_option maxRecDepth 100000 in
set_option maxHeartbeats 16000000 in
theorem matchr_any (vr1 vr2 : Value) (rl : List Ln) (rc : List Ce) (rw0 : Int) (rbits : ByteArray) (v1 v2 : Value) (r0 r1 : Int) (s : ByteArray) (va : Value) (la0 : List Lf) (which : Int) (oth : Lf) (vh : Value) (hid0 : List Int) (root : ByteArray) (w : World) (hraw : DocRaw vr1 vr2 rl rc rw0 rbits w) (hx : CaseIn v1 v2 r0 r1 w) (hs : s.size ≤ 9223372036854775807) (ha : Rws 5 lfC va la0 w) (hna : la0.length ≤ 9223372036854775807) (hqa : ∀ x ∈ la0, LfIn x) (hwh : I64 which) (hoth : LfIn oth) (hh : Rws 1 inC vh hid0 w) (hnh : hid0.length ≤ 9223372036854775807) (hqh : ∀ x ∈ hid0, I64 x) (_hroot : root.size ≤ 9223372036854775807) (hT : Tab w) :
    Calls Tryz.prog 3 #[.agg #[vr1, vr2, .int .i64 rw0, .string rbits], .agg #[v1, v2, .int .i64 r0, .int .i64 r1, .string s], va, .int .i64 which, .agg #[.bool oth.shown, .string oth.text, .int .i64 oth.mark, .string oth.salt, .string oth.digest], vh, .string root] w fun e w' => e = .returned (.bool true) ∧ Gr w w' := by
  obtain ⟨i5, hi5, hz5, hsz5, hb5⟩ := info_parts infoLf
  have HX := Lib.hid hx
  have HT := Lib.hid hT
  obtain ⟨hrd, hrl, hrc, hrw, hrb, hrt⟩ := hraw
  obtain ⟨⟨L1, L2, h1, h2, -⟩, -⟩ := hx
  obtain ⟨p1, c1, rfl⟩ := h1.shape
  obtain ⟨p2, c2, rfl⟩ := h2.shape
  obtain ⟨pa, ca, rfl⟩ := ha.shape
  obtain ⟨pr, cr, rfl, hcr⟩ := hrd.1.shape2
  obtain ⟨pq, cq, rfl, hcq⟩ := hrd.2.shape2
  obtain ⟨ph, ch, rfl, hch⟩ := hh.shape2
  have hmnr : min (rl.length : Int) 66 = ((min rl.length 66 : Nat) : Int) := by omega
  have hmnq : min (rc.length : Int) 66 = ((min rc.length 66 : Nat) : Int) := by omega
  have hmnh : min (hid0.length : Int) 20 = ((min hid0.length 20 : Nat) : Int) := by omega
  have hler : min rl.length 66 ≤ cr := Nat.le_trans (Nat.min_le_left _ _) hcr
  have hleq : min rc.length 66 ≤ cq := Nat.le_trans (Nat.min_le_left _ _) hcq
  have hleh : min hid0.length 20 ≤ ch := Nat.le_trans (Nat.min_le_left _ _) hch
  have HRaw : Hid (DocIn (.slice pr (rl.take 66).length cr) (.slice pq (rc.take 66).length cq) (rl.take 66) (rc.take 66) w) := Lib.hid ⟨hrd.1.cut 66, hrd.2.cut 66⟩
  have HRt : Hid (∀ x ∈ rl.take 66, x.1.size ≤ 9223372036854775807) := Lib.hid (fun x hx => Nat.le_trans (hrt x (List.mem_of_mem_take hx)) (by decide))
  have HRb : Hid (rbits.size ≤ 9223372036854775807) := Lib.hid (Nat.le_trans hrb (by decide))
  have HRw := Lib.hid hrw
  have HH0 := Lib.hid (hh.cut 20)
  have HRH : Hid (∀ x ∈ hid0.take 20, I64 x) := Lib.hid (fun x hx => hqh x (List.mem_of_mem_take hx))
  have HLr : Hid ((rl.take 66).length = min rl.length 66) := Lib.hid (by rw [List.length_take, Nat.min_comm])
  have HLq : Hid ((rc.take 66).length = min rc.length 66) := Lib.hid (by rw [List.length_take, Nat.min_comm])
  have HLh : Hid ((hid0.take 20).length = min hid0.length 20) := Lib.hid (by rw [List.length_take, Nat.min_comm])
  have HFa := Lib.hid (fun y hgy => few_any (.slice pa la0.length ca) la0 y hgy hna (fun x hx => (hqa x hx).2))
  have HA0 := Lib.hid ha
  have HOth := Lib.hid hoth.2
  have HWh := Lib.hid hwh
  clear hT h1 h2 ha hqa hwh hoth hh hqh hrd hrt hrb hrw hcr hcq hch
  obtain ⟨osh, ot, om, osl, odg⟩ := oth
  simp only at HOth ⊢
  go_enter Tryz.func3, Tryz.ntmps3
  go_upto_region 1 with fail
  refine wp_gen (F := fun y => Gr w y ∧ y.heap[w.heap.size]? = some (.cells #[.slice pr rl.length cr, .slice pq rc.length cq, .int .i64 rw0, .string rbits] 25 (0, 0)) ∧ y.heap[w.heap.size + 1]? = some (.cells #[.slice p1 L1.length c1, .slice p2 L2.length c2, .int .i64 r0, .int .i64 r1, .string s] 30 (0, 0)) ∧ y.heap[w.heap.size + 1 + 1]? = some (.cells #[.bool osh, .string ot, .int .i64 om, .string osl, .string odg] 35 (0, 0))) ⟨((Gr.alloc _ _).trans (Gr.alloc _ _)).trans (Gr.alloc _ _), ((Gr.alloc _ _).trans (Gr.alloc _ _)).block (heap_alloc_new _ _), (Gr.alloc _ _).block (by
    have h := heap_alloc_new (w.alloc (.cells #[.slice pr rl.length cr, .slice pq rc.length cq, .int .i64 rw0, .string rbits] 25)) (.cells #[.slice p1 L1.length c1, .slice p2 L2.length c2, .int .i64 r0, .int .i64 r1, .string s] 30)
    simpa using h), by
    have h := heap_alloc_new ((w.alloc (.cells #[.slice pr rl.length cr, .slice pq rc.length cq, .int .i64 rw0, .string rbits] 25)).alloc (.cells #[.slice p1 L1.length c1, .slice p2 L2.length c2, .int .i64 r0, .int .i64 r1, .string s] 30)) (.cells #[.bool osh, .string ot, .int .i64 om, .string osl, .string odg] 35)
    simpa using h⟩ ?_
  rintro w0 ⟨hg0, hrR, hrC, hrB⟩
  have HG0 := Lib.hid hg0
  have HRR := Lib.hid hrR
  have HRC := Lib.hid hrC
  have HRB := Lib.hid hrB
  have HgR : Hid (w.heap.size ≤ w.heap.size ∧ w.heap.size < w0.heap.size) := Lib.hid ⟨Nat.le_refl _, (Array.getElem?_eq_some_iff.1 hrR).1⟩
  obtain ⟨gc, hgc⟩ : ∃ gc, gc = w.heap.size := ⟨_, rfl⟩
  rw [← hgc] at HRR HRC HRB hrR hrC hrB HgR ⊢
  have HGc := Lib.hid hgc
  clear hg0 hrR hrC hrB hgc
  go_wp2_with fail
  refine (sane_any _ (HT.out.gr HG0.out)).mono ?_
  rintro e w1 ⟨rfl, hg1⟩
  obtain ⟨k0, k1, k2, k3, k4⟩ := row5 (hg1.block HRC.out)
  have HRR1 := Lib.hid (hg1.block HRR.out)
  have HRB1 := Lib.hid (hg1.block HRB.out)
  have HG1 := Lib.hid (HG0.out.trans hg1)
  clear hg1 HRC HRB HRR HG0 HgR
  go_wp2_with fail
  refine (made_any _ _ r0 r1 s _ (HX.out.gr HG1.out) hs).mono ?_
  rintro e w2 ⟨vL, vC, ls, cs, wd, bits, sc, rfl, hd, hsc, hg2⟩
  have HG2 := Lib.hid (HG1.out.trans hg2)
  have HRR2 := Lib.hid (hg2.block HRR1.out)
  have HRB2 := Lib.hid (hg2.block HRB1.out)
  have HD2 := Lib.hid hd
  obtain ⟨pl, cl, rfl⟩ := hd.1.1.shape
  obtain ⟨pc, cc, rfl⟩ := hd.1.2.shape
  have hls6 := hd.2.2
  clear hg2 hd k0 k1 k2 k3 k4 HRB1 HRR1 HG1
  go_upto_region 3 with fail
  refine wp_gen (F := fun y => Gr w2 y ∧ y.heap[w2.heap.size]? = some (.cells #[.slice pl ls.length cl, .slice pc cs.length cc, .int .i64 wd, .string bits] 25 (0, 0))) ⟨Gr.alloc _ _, heap_alloc_new _ _⟩ ?_
  rintro w3 ⟨hg3, hr3⟩
  have HG3 := Lib.hid (HG2.out.trans hg3)
  have HD3 := Lib.hid (HD2.out.gr hg3)
  have HRR3 := Lib.hid (hg3.block HRR2.out)
  have HRB3 := Lib.hid (hg3.block HRB2.out)
  have HR3 := Lib.hid hr3
  have hgd : gc + 1 < w2.heap.size := by have := (Array.getElem?_eq_some_iff.1 HRB2.out).1; omega
  generalize w2.heap.size = gd at hr3 HR3 hgd ⊢
  obtain ⟨k0, k1, k2, k3⟩ := row4 HRR3.out
  obtain ⟨f0, f1, f2, f3⟩ := frozen4 HRR3.out
  clear hr3 hg3 HD2 HRR2 HRB2 HG2
  go_upto_region 5 with fail
  have HCs : Hid (Chg (some gc) w3 ((w3.setCell ⟨gc, 0, none⟩ (.slice pr (min rl.length 66) cr)).setCell ⟨gc, 1, none⟩ (.slice pq (min rc.length 66) cq))) := Lib.hid (setCells_chg gc [.slice pr (min rl.length 66) cr, .slice pq (min rc.length 66) cq] 0 w3)
  refine wp_gen (F := fun y => Chg (some gc) w3 y ∧ y.heap[gc]? = some (.cells #[.slice pr (min rl.length 66) cr, .slice pq (min rc.length 66) cq, .int .i64 rw0, .string rbits] 25 (0, 0)) ∧ DocIn (.slice pl ls.length cl) (.slice pc cs.length cc) ls cs y) ⟨HCs.out, row_put2 HRR3.out, doc_put2 HRR3.out HD3.out.1⟩ ?_
  rintro w4 ⟨hc4, hr4, hd4⟩
  have HG4 : Hid (Gr w w4) := Lib.hid (gr_step HG3.out (Gr.refl _) hc4 (fun g e => by cases e; rw [HGc.out]; exact Nat.le_refl _))
  have HD4 : Hid (DocOk (.slice pl ls.length cl) (.slice pc cs.length cc) ls cs wd bits w4) := Lib.hid ⟨hd4, HD3.out.2⟩
  have HRB4 := Lib.hid (hc4.block HRB3.out (fun e => by injection e with e; omega))
  have HR4 := Lib.hid (hc4.block HR3.out (fun e => by injection e with e; omega))
  have HRR4 := Lib.hid hr4
  clear hc4 hr4 hd4 HCs k0 k1 k2 k3 f0 f1 f2 f3 HD3 HRR3 HRB3 HR3 HG3 hgd
  go_upto_region 6 with fail
  have e1 := HLr.out
  have e2 := HLq.out
  have e3 := HLh.out
  rw [← e1, ← e2] at HRR4
  rw [← e3]
  clear e1 e2 e3 hmnr hmnq hmnh hler hleq hleh
  have hlr : (rl.take 66).length ≤ 66 := by rw [List.length_take]; omega
  have hlq : (rc.take 66).length ≤ 66 := by rw [List.length_take]; omega
  have hlh : (hid0.take 20).length ≤ 20 := by rw [List.length_take]; omega
  clear HLr HLq HLh
  have HRaw4 := Lib.hid (HRaw.out.gr HG4.out)
  have HH := Lib.hid (HH0.out.gr HG4.out)
  have HA4 := Lib.hid (HA0.out.gr HG4.out)
  generalize rl.take 66 = xl at HRR4 HRaw4 hlr HRt
  generalize rc.take 66 = xc at HRR4 HRaw4 hlq
  generalize hid0.take 20 = hd at HH HRH hlh ⊢
  clear HRaw HH0 HA0
  obtain ⟨k0, k1, k2, k3⟩ := row4 HRR4.out
  obtain ⟨j0, j1, j2, j3⟩ := row4 HR4.out
  go_wp2_with fail
  refine wp_gen (F := fun y => Gr w4 y ∧ y.heap[w4.heap.size]? = some (.cells #[.slice pr xl.length cr, .slice pq xc.length cq, .int .i64 rw0, .string rbits, .slice pl ls.length cl, .slice pc cs.length cc, .int .i64 wd, .string bits] 25 (0, 0))) ⟨Gr.alloc _ _, heap_alloc_new _ _⟩ ?_
  rintro w5 ⟨hg5, hr5⟩
  have HG5 := Lib.hid (HG4.out.trans hg5)
  have HD5 := Lib.hid (HD4.out.gr hg5)
  have HRB5 := Lib.hid (hg5.block HRB4.out)
  have HR5 := Lib.hid (hg5.block HR4.out)
  have HY5 := Lib.hid hr5
  have HH5 := Lib.hid (HH.out.gr hg5)
  have HA5 := Lib.hid (HA4.out.gr hg5)
  have hvb := validB_bounds HD5.out.2.1
  have hvl := validB_lines HD5.out.2.1
  have HEnt : Hid (∀ i, i < 2 → DEnt #[.slice pr xl.length cr, .slice pq xc.length cq, .int .i64 rw0, .string rbits, .slice pl ls.length cl, .slice pc cs.length cc, .int .i64 wd, .string bits] w5 i) := Lib.hid (by
    intro i hi
    match i, hi with
    | 0, _ => exact ⟨_, _, xl, _, _, xc, _, _, rfl, rfl, rfl, rfl, HRaw4.out.gr hg5, by omega, by omega, HRw.out, HRb.out, HRt.out⟩
    | 1, _ => exact ⟨_, _, ls, _, _, cs, _, _, rfl, rfl, rfl, rfl, HD5.out.1, by omega, by omega, by omega, by omega, fun x hx => Nat.le_trans (lnB_iff.1 (List.all_eq_true.1 hvl.2 x hx)).1 (by omega)⟩)
  generalize w4.heap.size = gy at hr5 HY5 ⊢
  have hvw := hvb.2.2.1
  have hvc := hvb.2.1
  have hvbs := hvb.2.2.2
  generalize (#[.slice pr xl.length cr, .slice pq xc.length cq, .int .i64 rw0, .string rbits, .slice pl ls.length cl, .slice pc cs.length cc, .int .i64 wd, .string bits] : Array Value) = rowY at HY5 HEnt
  clear hg5 hr5 HD4 HRB4 HR4 HRR4 HRaw4 HH HA4 HG4 HRw HRt HRb hvb hvl k0 k1 k2 k3 j0 j1 j2 j3
  go_loopw [61] (fun v61 W => ∃ i : Nat, i ≤ 2 ∧ v61 = .int .i64 (i : Int) ∧ Hid (Gr w5 W)) (fun v61 _ => 2 - (intOf v61).toNat)
  case atStart => exact ⟨0, Nat.zero_le _, rfl, Lib.hid (Gr.refl _)⟩
  case round =>
    obtain ⟨i, hi2, rfl, HG⟩ := hrel
    by_cases hlt : i < 2
    · have ht : decide (i < 2) = true := decide_eq_true hlt
      have ht' : decide ((i : Int) < 2) = true := decide_eq_true (by omega)
      obtain ⟨q1, d1, xs, q2, d2, ys, wi, bi, g0, g1, g2, g3, hdi, hn1, hn2, hwi, hbi, htx⟩ := HEnt.out i hlt
      have HDi := Lib.hid (hdi.gr HG.out)
      have hrow := HG.out.block HY5.out
      have hc0 : wr.cell? ⟨gy, i * 4, none⟩ = some (.slice q1 xs.length d1) := by rw [cell_of_row _ _ _ _ _ _ hrow]; exact g0
      have hc1 : wr.cell? ⟨gy, i * 4 + 1, none⟩ = some (.slice q2 ys.length d2) := by rw [cell_of_row _ _ _ _ _ _ hrow]; exact g1
      have hc2 : wr.cell? ⟨gy, i * 4 + 2, none⟩ = some (.int .i64 wi) := by rw [cell_of_row _ _ _ _ _ _ hrow]; exact g2
      have hc3 : wr.cell? ⟨gy, i * 4 + 3, none⟩ = some (.string bi) := by rw [cell_of_row _ _ _ _ _ _ hrow]; exact g3
      have HTx := Lib.hid htx
      clear g0 g1 g2 g3 hdi hrow HEnt HY5 htx
      go_upto_region 9 with fail
      refine wp_gen (F := fun y => Gr wr y ∧ y.heap[wr.heap.size]? = some (.cells #[.slice q1 xs.length d1, .slice q2 ys.length d2, .int .i64 wi, .string bi] 25 (0, 0))) ⟨Gr.alloc _ _, heap_alloc_new _ _⟩ ?_
      rintro wA ⟨hgA, hrA⟩
      have HGA := Lib.hid (HG.out.trans hgA)
      have HRA := Lib.hid hrA
      have HDA := Lib.hid (HDi.out.gr hgA)
      generalize wr.heap.size = gz at hrA HRA ⊢
      obtain ⟨z0, z1, z2, z3⟩ := row4 hrA
      clear hgA hrA HG HDi hc0 hc1 hc2 hc3
      cases hvi : validB xs ys wi bi with
      | true =>
        have HVi := Lib.hid hvi
        clear hvi
        go_wp2_with fail
        refine (leaves_ok _ _ xs ys wi bi sc wA HDA.out HVi.out (by omega) (HT.out.gr (HG5.out.trans HGA.out))).mono ?_
        rintro e wB ⟨uB, rfl, hoB, hgB⟩
        obtain ⟨pB, cB, rfl⟩ := hoB.slice
        have HOB : Hid (Rws 5 lfC (.slice pB xs.length cB) (leavesD sc xs) wB) := Lib.hid (by
          have h := own_rws (l := leavesD sc xs) lfC_len (v := .slice pB xs.length cB) (by rw [leavesD_len]; exact hoB)
          exact h)
        have HGB := Lib.hid (HGA.out.trans hgB)
        have HDB := Lib.hid (HDA.out.gr hgB)
        obtain ⟨y0, y1, y2, y3⟩ := row4 (hgB.block HRA.out)
        clear hgB hoB z0 z1 z2 z3 HRA HDA HGA
        go_wp2_with fail
        refine (leavesR_any _ _ xs ys wi bi sc wB HDB.out (by omega) (by omega) hwi hbi HTx.out (by omega)).mono ?_
        rintro e wC ⟨hok, -⟩
        obtain ⟨uC, rfl, hoC, hgC⟩ := hok HVi.out
        obtain ⟨pC, cC, rfl⟩ := hoC.slice
        have HOC : Hid (Rws 5 lfC (.slice pC xs.length cC) (leavesD sc xs) wC) := Lib.hid (by
          have h := own_rws (l := leavesD sc xs) lfC_len (v := .slice pC xs.length cC) (by rw [leavesD_len]; exact hoC)
          exact h)
        have HOB2 := Lib.hid (HOB.out.gr hgC)
        have HGC := Lib.hid (HGB.out.trans hgC)
        have HLn : Hid ((leavesD sc xs).length ≤ 1000) := Lib.hid (by rw [leavesD_len]; omega)
        clear hgC hoC hok y0 y1 y2 y3 HOB HGB HDB
        generalize leavesD sc xs = lx at HOB2 HOC HLn
        go_wp2_with fail
        refine (same_lf _ _ lx wC HOB2.out HOC.out HLn.out).mono ?_
        rintro e wD ⟨rfl, hgD⟩
        have HGD := Lib.hid (HGC.out.trans hgD)
        clear hgD HOB2 HOC HLn HGC
        go_wp2_with fail
        go_roundw
        case rel => exact ⟨i + 1, by omega, by go_num, HGD⟩
        case measure => simp [intOf]; omega
      | false =>
        have HVi := Lib.hid hvi
        clear hvi
        go_wp2_with fail
        refine (leaves_bad _ _ xs ys wi bi sc wA HDA.out (by omega) (by omega) hwi hbi HVi.out).mono ?_
        rintro e wB ⟨rfl, hgB⟩
        have HGB := Lib.hid (HGA.out.trans hgB)
        have HDB := Lib.hid (HDA.out.gr hgB)
        obtain ⟨y0, y1, y2, y3⟩ := row4 (hgB.block HRA.out)
        clear hgB z0 z1 z2 z3 HRA HDA HGA
        go_wp2_with fail
        refine (leavesR_any _ _ xs ys wi bi sc wB HDB.out (by omega) (by omega) hwi hbi HTx.out (by omega)).mono ?_
        rintro e wC ⟨-, hok⟩
        obtain ⟨rfl, hgC⟩ := hok HVi.out
        have HGC := Lib.hid (HGB.out.trans hgC)
        clear hgC hok y0 y1 y2 y3 HGB HDB
        go_wp2_with fail
        refine (same_lf _ _ [] wC (.inl ⟨rfl, none, 0, rfl⟩) (.inl ⟨rfl, none, 0, rfl⟩) (by simp)).mono ?_
        rintro e wD ⟨rfl, hgD⟩
        have HGD := Lib.hid (HGC.out.trans hgD)
        clear hgD HGC
        go_wp2_with fail
        go_roundw
        case rel => exact ⟨i + 1, by omega, by go_num, HGD⟩
        case measure => simp [intOf]; omega
    · have ht : decide (i < 2) = false := decide_eq_false hlt
      have ht' : decide ((i : Int) < 2) = false := decide_eq_false (by omega)
      have HG6 := Lib.hid (HG5.out.trans HG.out)
      have HD6 := Lib.hid (HD5.out.gr HG.out)
      have HRB6 := Lib.hid (HG.out.block HRB5.out)
      have HH6 := Lib.hid (HH5.out.gr HG.out)
      have HA6 := Lib.hid (HA5.out.gr HG.out)
      obtain ⟨j0, j1, j2, j3⟩ := row4 (HG.out.block HR5.out)
      clear HEnt HY5 HG5 HD5 HRB5 HR5 HH5 HA5 HG hlt
      go_wp2_with fail
      refine (leavesR_any _ _ ls cs wd bits sc wr HD6.out.1 (by omega) (by omega) (by omega) (by omega) (fun x hx => Nat.le_trans (lnB_iff.1 (List.all_eq_true.1 (validB_lines HD6.out.2.1).2 x hx)).1 (by omega)) (by omega)).mono ?_
      rintro e w7 ⟨hok, -⟩
      obtain ⟨u7, rfl, ho7, hg7⟩ := hok HD6.out.2.1
      obtain ⟨p7, c7, rfl⟩ := ho7.slice
      have HO7 : Hid (Rws 5 lfC (.slice p7 ls.length c7) (leavesD sc ls) w7) := Lib.hid (by
        have h := own_rws (l := leavesD sc ls) lfC_len (v := .slice p7 ls.length c7) (by rw [leavesD_len]; exact ho7)
        exact h)
      have HLN : Hid ((leavesD sc ls).length = ls.length) := Lib.hid (leavesD_len sc ls)
      have hvl := validB_lines HD6.out.2.1
      have HLL := Lib.hid (leaves_list (secret := sc) hvl.1 hvl.2)
      have HG7 := Lib.hid (HG6.out.trans hg7)
      have HRB7 := Lib.hid (hg7.block HRB6.out)
      have HH7 := Lib.hid (HH6.out.gr hg7)
      have HA7 := Lib.hid (HA6.out.gr hg7)
      have HOE := Lib.hid (own_empty w7 35 w7.heap.size 5 (Nat.le_refl _))
      clear hok ho7 hg7 hvl j0 j1 j2 j3 HD6 HG6 HRB6 HH6 HA6
      generalize leavesD sc ls = l at HO7 HLN HLL
      go_wp2_with ((with_reducible show wpList _ _ _ (⟨some 95, _, _, _, _, _⟩ :: _) _ _); refine wpList_append_Rws (enc := lfC) rfl (.tmp 93) (.tmp 94) 31 rfl 35 i5 (.agg #[.bool false, .string ⟨#[]⟩, .int .i64 0, .string ⟨#[]⟩, .string ⟨#[]⟩]) 5 64 Tryz.underlying31 hi5 hz5 hsz5 hb5 rfl (by decide) rfl HOE.out lfC_len lfC_one l _ rfl (HO7.out.gr (Gr.alloc _ _)) ?b1C ?b2C ?hBC ?_)
      case b1C => have := HLN.out; unfold maxLen; omega
      case b2C => have := HLN.out; omega
      case hBC => simp
      intro v95 w95 hown95 hchg95
      have hg95 : Gr w7 w95 := gr_step (Gr.refl w7) (Gr.alloc _ _) hchg95 (fun g hg => HOE.out.ge hg)
      have hob : Own w7.heap.size 5 v95 ls.length (l.flatMap lfC) w95 := by
        have h := hown95
        rw [HLN.out] at h
        simpa using h
      obtain ⟨p95, c95, rfl⟩ := hob.slice
      have HOb := Lib.hid hob
      have HG8 := Lib.hid (HG7.out.trans hg95)
      have HG78 := Lib.hid hg95
      have HRB8 := Lib.hid (hg95.block HRB7.out)
      have HZ7 : Hid (w.heap.size ≤ w7.heap.size) := Lib.hid HG7.out.size
      clear hown95 hchg95 hg95 hob HOE HG7 HRB7
      have HFo := Lib.hid (fun v y (hv : Rws 5 lfC v [(⟨osh, ot, om, osl, odg⟩ : Lf)] y) => few_any v [⟨osh, ot, om, osl, odg⟩] y hv (by simp) (fun x hx => by obtain rfl := List.mem_singleton.1 hx; exact HOth.out))
      have HFe : Hid (fewD [(⟨osh, ot, om, osl, odg⟩ : Lf)] = [fewX ⟨osh, ot, om, osl, odg⟩]) := Lib.hid rfl
      rw [HFe.out] at HFo
      have HOt := Lib.hid (fewX_text ⟨osh, ot, om, osl, odg⟩)
      generalize hof : fewX ⟨osh, ot, om, osl, odg⟩ = o at HFo HOt
      obtain ⟨kk, hkk⟩ : ∃ kk, kk = pickD which ls.length := ⟨_, rfl⟩
      have HKK := Lib.hid hkk
      clear hof hkk HFe HOth
      go_upto_if 98 with fail
      go_cut [] from 98 to 109 (fun wx => Hid (CutR w w7 (.slice p95 ls.length c95) l kk o wx))
      case first =>
        rename_i JJ KK hJ hK
        by_cases h0 : ls.length = 0
        · have t0 : decide (0 < ls.length) = false := decide_eq_false (by omega)
          have hln : l = [] := List.eq_nil_of_length_eq_zero (by rw [HLN.out]; exact h0)
          have HC : Hid (CutR w w7 (.slice p95 ls.length c95) l kk o w95) := Lib.hid ⟨.inl ⟨by rw [hln]; rfl, p95, c95, by rw [h0]⟩, HG8.out, w95, w7.heap.size, HG78.out, Nat.le_refl _, ⟨rfl, rfl, rfl, Nat.le_refl _, fun _ _ _ => rfl⟩⟩
          clear h0 hln
          rw [t0]
          go_wp2_with fail
          refine Met.intro (hJ _ _ ?_)
          repeat apply Exists.intro
          exact ⟨HC, rfl⟩
        · have t0 : decide (0 < ls.length) = true := decide_eq_true (by omega)
          have hM0 : 0 < ls.length := by omega
          have hkM := pickD_lt which ls.length hM0
          rw [← HKK.out] at hkM
          have HPk : Hid (∀ y, Calls Tryz.prog 13 #[.int .i64 which, .int .i64 (ls.length : Int)] y fun e y' => e = .returned (.int .i64 (kk : Int)) ∧ y = y') := Lib.hid (fun y => by rw [HKK.out]; exact pick_any which ls.length y HWh.out hM0 (by omega))
          have hob := HOb.out
          obtain ⟨gb, ob, cb, he, hgb, hlb2, hmb⟩ := hob.shape hM0
          injection he with he1 _ he2
          subst he1 he2
          obtain ⟨e0, e1, e2, e3, e4⟩ := row5 HRB8.out
          have s0 : ∀ n : GrS w95.drew, n.w.cell? ⟨gc + 1 + 1, 0, none⟩ = some (.bool osh) := fun n => n.h.cell (w := w95.drew) e0
          have s1 : ∀ n : GrS w95.drew, n.w.cell? ⟨gc + 1 + 1, 1, none⟩ = some (.string ot) := fun n => n.h.cell (w := w95.drew) e1
          have s2 : ∀ n : GrS w95.drew, n.w.cell? ⟨gc + 1 + 1, 2, none⟩ = some (.int .i64 om) := fun n => n.h.cell (w := w95.drew) e2
          have s3 : ∀ n : GrS w95.drew, n.w.cell? ⟨gc + 1 + 1, 3, none⟩ = some (.string osl) := fun n => n.h.cell (w := w95.drew) e3
          have s4 : ∀ n : GrS w95.drew, n.w.cell? ⟨gc + 1 + 1, 4, none⟩ = some (.string odg) := fun n => n.h.cell (w := w95.drew) e4
          have hcbk : kk < c95 := by omega
          have HTh : Hid (∀ y, Gr w95 y → y.there gb (ob + kk * 5) 5) := Lib.hid (fun y hg => (HOb.out.gr hg).there kk hkM)
          rw [t0]
          clear h0 hob e0 e1 e2 e3 e4
          go_upto_region 17 with fail
          refine region_grow 11 187 (by kernel_rfl) rfl (by kernel_rfl) rfl rfl ?_
          simp only [List.take_succ_cons, List.take_zero, List.drop_succ_cons, List.drop_zero]
          refine seg 4 rfl rfl rfl rfl ?_
          simp only [List.take_succ_cons, List.take_zero, List.drop_succ_cons, List.drop_zero]
          repeat (go_big_quiet_step (fail))
          refine wpQuiet_nil ?_
          intro _
          refine grow_det (v := .int .i64 (kk : Int)) rfl rfl rfl rfl rfl ?_ ?_
          · intro w1 hG
            go_simp
            refine (HPk.out w1).mono ?_
            rintro e w' ⟨rfl, rfl⟩
            exact ⟨rfl, Gr.refl _⟩
          simp only [Act.put, List.setIfInBounds_toArray, List.set_cons_zero, List.set_cons_succ]
          refine seg 1 rfl rfl rfl rfl ?_
          simp only [List.take_succ_cons, List.take_zero, List.drop_succ_cons, List.drop_zero]
          repeat (go_big_quiet_step (fail))
          refine wpQuiet_nil ?_
          intro _
          refine grow_open (NewEl (lfC ⟨osh, ot, om, osl, odg⟩) 35) rfl rfl rfl rfl (stb_el _ _) (fun w1 hG => ?_) ?_
          · go_simp
            exact newEl_alloc _ (lfC ⟨osh, ot, om, osl, odg⟩) _
          refine grow_open1 105 (One1 o) rfl rfl (by decide) rfl rfl rfl (by decide) rfl rfl (One1.stb o) (fun w1 u hG hu => ?_) ?_
          · obtain ⟨b, rfl, hb⟩ := hu
            simp only [Act.put, List.setIfInBounds_toArray, List.set_cons_zero, List.set_cons_succ]
            go_simp
            refine (HFo.out _ w1 (row_rws hb)).mono ?_
            rintro e w' ⟨u, rfl, ho, hg⟩
            exact ⟨u, rfl, hg, one1_own ho⟩
          refine grow_open1 106 (Ptr1 o) rfl rfl (by decide) rfl rfl rfl (by decide) rfl rfl (Ptr1.stb o) (fun w1 u hG hu => ?_) ?_
          · obtain ⟨g, off, cap, rfl, hcap, hc⟩ := hu
            simp only [Act.put, List.setIfInBounds_toArray, List.set_cons_zero, List.set_cons_succ]
            go_simp
            exact ⟨g, off, rfl, hc⟩
          refine grow_det1 107 (v := .agg (lfC o).toArray) rfl (by decide) rfl rfl rfl (by decide) rfl rfl rfl (fun w1 u hG hu => ?_) ?_
          · obtain ⟨g, off, rfl, hc⟩ := hu
            have c0 := hc 0 _ rfl
            have c1 := hc 1 _ rfl
            have c2 := hc 2 _ rfl
            have c3 := hc 3 _ rfl
            have c4 := hc 4 _ rfl
            rw [Nat.add_zero] at c0
            simp only [Act.put, List.setIfInBounds_toArray, List.set_cons_zero, List.set_cons_succ]
            clear hc
            go_simp
            rfl
          simp only [Act.put, List.setIfInBounds_toArray, List.set_cons_zero, List.set_cons_succ]
          refine seg 1 rfl rfl rfl rfl ?_
          simp only [List.take_succ_cons, List.take_zero, List.drop_succ_cons, List.drop_zero]
          repeat (go_big_quiet_step (fail))
          refine wpQuiet_nil ?_
          intro _
          refine grow_end3 rfl rfl (by decide) (by decide) (by decide) rfl rfl rfl ?_
          intro w8 u1 u2 u3 hG hu1 hu2 hu3
          simp only [Act.put, List.setIfInBounds_toArray, List.set_cons_zero, List.set_cons_succ]
          clear hu1 hu2 hu3 s0 s1 s2 s3 s4
          have hg8 : Gr w95 w8 := Gr.trans (Gr.drew w95) hG
          have HTh8 := Lib.hid (HTh.out w8 hg8)
          have hNl : kk < l.length := by rw [HLN.out]; exact hkM
          have hO8 : Own w7.heap.size 5 (.slice (some ⟨gb, ob, none⟩) ls.length c95) ls.length ((l.set kk o).flatMap lfC) (w8.setCells gb (ob + kk * 5) (lfC o)) := by
            have h := (HOb.out.gr hg8).store kk hkM (lfC o) rfl
            rw [← flat_set lfC_len l kk o hNl] at h
            exact h
          have hln : (l.set kk o).length = ls.length := by rw [List.length_set, HLN.out]
          have hR8 : Rws 5 lfC (.slice (some ⟨gb, ob, none⟩) ls.length c95) (l.set kk o) (w8.setCells gb (ob + kk * 5) (lfC o)) := by
            have h := own_rws (l := l.set kk o) lfC_len (v := .slice (some ⟨gb, ob, none⟩) ls.length c95) (by rw [hln]; exact hO8)
            exact h
          have HC : Hid (CutR w w7 (.slice (some ⟨gb, ob, none⟩) ls.length c95) l kk o (w8.setCells gb (ob + kk * 5) (lfC o))) := Lib.hid ⟨hR8, gr_step (HG8.out.trans hg8) (Gr.refl _) (setCells_chg gb (lfC o) (ob + kk * 5) w8) (fun g e => by cases e; have := HZ7.out; omega), w8, gb, HG78.out.trans hg8, hgb, setCells_chg gb (lfC o) (ob + kk * 5) w8⟩
          clear hO8 hR8 hln hNl hg8 hG
          go_wp2_with ((with_reducible show wpList _ _ _ (⟨none, .store 35 _ _, _, _, _, _⟩ :: _) _ _); refine wpList_store_mid rfl 35 (.tmp 109) (.tmp 108) rfl gb (ob + kk * 5) (lfC o).toArray rfl rfl HTh8.out (infoLf_size Tryz.prog rfl) (all_oneCell_toArray (lfC_one o)) ?_)
          refine Met.intro (hJ _ _ ?_)
          repeat apply Exists.intro
          exact ⟨HC, rfl⟩
      obtain ⟨hc1, hc3, y', b', hy', hb', hch'⟩ := hcut.out
      have HGc2 := Lib.hid hc3
      have HLc : Hid (Rws 5 lfC (.slice p7 ls.length c7) l wc) := Lib.hid (HO7.out.chg_new (s := 5) (enc := lfC) lfC_len (by decide) hy' hch' hb')
      have HAc : Hid (Rws 5 lfC (.slice pa la0.length ca) la0 wc) := Lib.hid (HA7.out.chg_new (s := 5) (enc := lfC) lfC_len (by decide) hy' hch' hb')
      have HHc : Hid (Rws 1 inC (.slice ph hd.length ch) hd wc) := Lib.hid (HH7.out.chg_new (s := 1) (enc := inC) (fun _ => rfl) (by decide) hy' hch' hb')
      have hlC : (l.set kk o).length = ls.length := by rw [List.length_set, HLN.out]
      have HCo := Lib.hid hc1
      have HLC := Lib.hid hlC
      have HCt : Hid (∀ x ∈ l.set kk o, x.text.size ≤ 9223372036854775807) := Lib.hid (fun x hx => by
        rcases List.mem_or_eq_of_mem_set hx with h | h
        · exact leaf_text HLL.out x h
        · rw [h]; exact HOt.out)
      have HLt := Lib.hid (leaf_text HLL.out)
      have HHt : Hid (∀ x ∈ hideD hd l, x.text.size ≤ 9223372036854775807) := Lib.hid (leaf_text (hideD_list HLL.out))
      have HHl : Hid ((hideD hd l).length = ls.length) := Lib.hid (by rw [hideD_len HLL.out, HLN.out])
      clear hc1 hc3 hy' hb' hch' hcut hlC HO7 HA7 HH7 HOb HG8 HG78 HRB8 HZ7 HFo HKK HOt
      generalize l.set kk o = lC at HCo HLC HCt
      go_wp2_with fail
      refine (HFa.out wc HAc.out).mono ?_
      rintro e w11 ⟨u11, rfl, ho11, hg11⟩
      obtain ⟨q11, d11, rfl⟩ := ho11.slice
      have HF11 : Hid (Rws 5 lfC (.slice q11 (fewD la0).length d11) (fewD la0) w11) := Lib.hid (own_rws lfC_len ho11)
      have HG11 := Lib.hid (HGc2.out.trans hg11)
      have HL11 := Lib.hid (HLc.out.gr hg11)
      have HC11 := Lib.hid (HCo.out.gr hg11)
      have HH11 := Lib.hid (HHc.out.gr hg11)
      have hfl := fewD_len la0
      have HFt := Lib.hid (fewD_text la0)
      clear hg11 ho11 HFa HAc HLc HCo HHc HGc2
      generalize fewD la0 = lf at HF11 HFt hfl ⊢
      go_wp2_with fail
      refine (hideR_any _ _ l hd w11 HL11.out (by rw [HLN.out]; omega) HLt.out HH11.out HRH.out (by omega)).mono ?_
      rintro e w12 ⟨u12, rfl, ho12, hg12⟩
      obtain ⟨q12, d12, rfl⟩ := ho12.slice
      have HI12 : Hid (Rws 5 lfC (.slice q12 (hideD hd l).length d12) (hideD hd l) w12) := Lib.hid (own_rws lfC_len ho12)
      have HG12 := Lib.hid (HG11.out.trans hg12)
      have HL12 := Lib.hid (HL11.out.gr hg12)
      have HC12 := Lib.hid (HC11.out.gr hg12)
      have HH12 := Lib.hid (HH11.out.gr hg12)
      have HF12 := Lib.hid (HF11.out.gr hg12)
      clear hg12 ho12 HG11 HL11 HC11 HH11 HF11
      generalize hideD hd l = lh at HI12 HHt HHl ⊢
      go_wp2_with fail
      refine wp_gen (F := fun y => Gr w12 y ∧ y.heap[w12.heap.size]? = some (.cells #[.slice q11 lf.length d11, .slice p7 ls.length c7, .slice p95 ls.length c95, .slice q12 lh.length d12] 31 (0, 0))) ⟨Gr.alloc _ _, heap_alloc_new _ _⟩ ?_
      rintro w13 ⟨hg13, hr13⟩
      have HG13 := Lib.hid (HG12.out.trans hg13)
      have HH13 := Lib.hid (HH12.out.gr hg13)
      have HY13 := Lib.hid hr13
      have HEnt : Hid (∀ i, i < 4 → LEnt #[.slice q11 lf.length d11, .slice p7 ls.length c7, .slice p95 ls.length c95, .slice q12 lh.length d12] w13 i) := Lib.hid (by
        have e1 := HLN.out
        have e2 := HLC.out
        have tl : Rws 5 lfC (.slice p7 l.length c7) l w13 := by rw [e1]; exact HL12.out.gr hg13
        have tc : Rws 5 lfC (.slice p95 lC.length c95) lC w13 := by rw [e2]; exact HC12.out.gr hg13
        intro i hi
        match i, hi with
        | 0, _ => exact ⟨_, _, lf, rfl, HF12.out.gr hg13, by omega, HFt.out⟩
        | 1, _ => exact ⟨p7, c7, l, by rw [e1]; rfl, tl, by omega, HLt.out⟩
        | 2, _ => exact ⟨p95, c95, lC, by rw [e2]; rfl, tc, by omega, HCt.out⟩
        | 3, _ => exact ⟨_, _, lh, rfl, HI12.out.gr hg13, by have := HHl.out; omega, HHt.out⟩)
      generalize w12.heap.size = gv at hr13 HY13 ⊢
      generalize (#[.slice q11 lf.length d11, .slice p7 ls.length c7, .slice p95 ls.length c95, .slice q12 lh.length d12] : Array Value) = rowV at HY13 HEnt
      clear hg13 hr13 HG12 HL12 HC12 HH12 HF12 HI12 HCt HLt HHt HFt HHl HLC HLN HLL hfl
      go_loopw [119] (fun v119 W => ∃ i : Nat, i ≤ 4 ∧ v119 = .int .i64 (i : Int) ∧ Hid (Gr w13 W)) (fun v119 _ => 4 - (intOf v119).toNat)
      case atStart => exact ⟨0, Nat.zero_le _, rfl, Lib.hid (Gr.refl _)⟩
      case round =>
        obtain ⟨n, hn4, rfl, HG⟩ := hrel
        by_cases hlt : n < 4
        · have htn : decide (n < 4) = true := decide_eq_true hlt
          have htn' : decide ((n : Int) < 4) = true := decide_eq_true (by omega)
          obtain ⟨q1, d1, L, g0, hRL, hn1, hLt⟩ := HEnt.out n hlt
          have HRL := Lib.hid (hRL.gr HG.out)
          have HLt := Lib.hid hLt
          have hrow := HG.out.block HY13.out
          have hc0 : wr.cell? ⟨gv, n, none⟩ = some (.slice q1 L.length d1) := by rw [cell_of_row _ _ _ _ _ _ hrow]; exact g0
          clear g0 hRL hLt hrow HEnt HY13
          obtain ⟨R, hR⟩ : ∃ R, R = rtD L := ⟨_, rfl⟩
          have HTw : Hid (∀ y, Gr w13 y → Tab y) := Lib.hid (fun y hg => HT.out.gr (HG13.out.trans hg))
          have K1 := Lib.hid (fun y (hg : Gr wr y) => rootR23_any (.slice q1 L.length d1) L y (HRL.out.gr hg) (by omega) HLt.out)
          have K2 := Lib.hid (fun y (hg : Gr wr y) => rRoot_any (.slice q1 L.length d1) L y (HRL.out.gr hg) (by omega) (HTw.out y (HG.out.trans hg)))
          have K3 := Lib.hid (fun rt y (hg : Gr wr y) => check_any rt (.slice q1 L.length d1) L y (HRL.out.gr hg) (by omega) (HTw.out y (HG.out.trans hg)))
          have K4 := Lib.hid (fun rt y (hg : Gr wr y) => checkR_any rt (.slice q1 L.length d1) L y (HRL.out.gr hg) (by omega) HLt.out)
          have K5 := Lib.hid (fun y (hg : Gr wr y) => hide_any (.slice q1 L.length d1) (.slice ph hd.length ch) L hd y (HRL.out.gr hg) (by omega) (HH13.out.gr (HG.out.trans hg)) HRH.out (by omega) (HTw.out y (HG.out.trans hg)))
          have K6 := Lib.hid (fun y (hg : Gr wr y) => hideR_any (.slice q1 L.length d1) (.slice ph hd.length ch) L hd y (HRL.out.gr hg) (by omega) HLt.out (HH13.out.gr (HG.out.trans hg)) HRH.out (by omega))
          have K7 := Lib.hid (fun y (hg : Gr wr y) => rLines_any (.slice q1 L.length d1) L y (HRL.out.gr hg) (by omega))
          have K8 := Lib.hid (fun y (hg : Gr wr y) => linesR_any (.slice q1 L.length d1) L y (HRL.out.gr hg) (by omega) HLt.out)
          have HLh : Hid ((hideD hd L).length ≤ 1000) := Lib.hid (by
            unfold hideD
            split
            · rw [List.length_mapIdx]; omega
            · simp)
          have HLl : Hid ((linesD L).length ≤ 1000) := Lib.hid (by
            unfold linesD
            split
            · rw [List.length_map]
              have := List.length_filter_le Lf.shown L
              omega
            · simp)
          rw [← hR] at K1 K2
          have hbq : (R.toList == R.toList) = true := by simp
          clear hR HRL HLt
          generalize hideD hd L = LH at K5 K6 HLh
          generalize linesD L = LL at K7 K8 HLl
          go_wp2_with fail
          refine (K1.out _ (Gr.refl _)).mono ?_
          rintro e x1 ⟨rfl, hg⟩
          have HG1 := Lib.hid hg
          clear hg K1 hc0
          go_wp2_with fail
          refine (K2.out _ HG1.out).mono ?_
          rintro e x2 ⟨rfl, hg⟩
          have HG2 := Lib.hid (HG1.out.trans hg)
          clear hg K2 HG1
          go_wp2_with fail
          refine (K3.out root _ HG2.out).mono ?_
          rintro e x3 ⟨rfl, hg⟩
          have HG3 := Lib.hid (HG2.out.trans hg)
          clear hg HG2
          go_wp2_with fail
          refine (K4.out root _ HG3.out).mono ?_
          rintro e x4 ⟨rfl, hg⟩
          have HG4 := Lib.hid (HG3.out.trans hg)
          clear hg HG3
          generalize chkD root L = b1
          cases b1
          all_goals
            go_wp2_with fail
            refine (K3.out R _ HG4.out).mono ?_
            rintro e x5 ⟨rfl, hg⟩
            have HG5 := Lib.hid (HG4.out.trans hg)
            clear hg
            go_wp2_with fail
            refine (K4.out R _ HG5.out).mono ?_
            rintro e x6 ⟨rfl, hg⟩
            have HG6 := Lib.hid (HG5.out.trans hg)
            clear hg HG5
            generalize chkD R L = b2
            cases b2
            all_goals
              go_wp2_with fail
              refine (K5.out _ HG6.out).mono ?_
              rintro e x7 ⟨z7, rfl, ho7, hg⟩
              have HG7 := Lib.hid (HG6.out.trans hg)
              obtain ⟨p7b, c7b, rfl⟩ := ho7.slice
              have HP7 : Hid (Rws 5 lfC (.slice p7b LH.length c7b) LH x7) := Lib.hid (own_rws lfC_len ho7)
              clear hg ho7
              go_wp2_with fail
              refine (K6.out _ HG7.out).mono ?_
              rintro e x8 ⟨z8, rfl, ho8, hg⟩
              have HG8 := Lib.hid (HG7.out.trans hg)
              obtain ⟨p8b, c8b, rfl⟩ := ho8.slice
              have HP8 : Hid (Rws 5 lfC (.slice p8b LH.length c8b) LH x8) := Lib.hid (own_rws lfC_len ho8)
              have HQ8 := Lib.hid (HP7.out.gr hg)
              clear hg ho8 HG7 HP7
              go_wp2_with fail
              refine (same_lf _ _ LH x8 HQ8.out HP8.out HLh.out).mono ?_
              rintro e x9 ⟨rfl, hg⟩
              have HG9 := Lib.hid (HG8.out.trans hg)
              clear hg HG8 HQ8 HP8
              go_wp2_with fail
              refine (K7.out _ HG9.out).mono ?_
              rintro e x10 ⟨z10, rfl, ho10, hg⟩
              have HG10 := Lib.hid (HG9.out.trans hg)
              have hq10 : Rws 2 lnC z10 LL x10 := own_rws (s := 2) (enc := lnC) (fun _ => rfl) (Own.of_row ho10)
              obtain ⟨p10b, c10b, rfl⟩ := hq10.shape
              have HQ10 := Lib.hid hq10
              clear hg ho10 hq10 HG9
              go_wp2_with fail
              refine (K8.out _ HG10.out).mono ?_
              rintro e x11 ⟨z11, rfl, ho11, hg⟩
              have HG11 := Lib.hid (HG10.out.trans hg)
              have hq11 : Rws 2 lnC z11 LL x11 := own_rws (s := 2) (enc := lnC) (fun _ => rfl) ho11
              obtain ⟨p11b, c11b, rfl⟩ := hq11.shape
              have HQ11 := Lib.hid hq11
              have HR11 := Lib.hid (HQ10.out.gr hg)
              clear hg ho11 hq11 HG10 HQ10
              go_wp2_with fail
              refine (same_ln _ _ LL x11 HR11.out HQ11.out HLl.out).mono ?_
              rintro e x12 ⟨rfl, hg⟩
              have HGn := Lib.hid (HG.out.trans (HG11.out.trans hg))
              clear hg HG11 HR11 HQ11
              go_wp2_with fail
              go_roundw
              case rel => exact ⟨n + 1, by omega, by go_num, HGn⟩
              case measure => simp [intOf]; omega
        · have htn : decide (n < 4) = false := decide_eq_false hlt
          have htn' : decide ((n : Int) < 4) = false := decide_eq_false (by omega)
          have HGe := Lib.hid (HG13.out.trans HG.out)
          clear HEnt HY13 HG hlt
          have HSa := Lib.hid (fun (ln : Int) y (hg : Gr w y) => salt_any sc ln y (by omega) (HT.out.gr hg))
          have HSr := Lib.hid (fun (ln : Int) y => saltR_any sc ln y (by omega))
          have HPk := Lib.hid (fun y => pick_any which 64 y HWh.out (by decide) (by decide))
          have hbq : ((saltD sc which).toList == (saltD sc which).toList) = true := by simp
          have hbq2 : ((saltD sc (pickD which 64 : Int)).toList == (saltD sc (pickD which 64 : Int)).toList) = true := by simp
          go_wp2_with fail
          refine (HSa.out which _ HGe.out).mono ?_
          rintro e x1 ⟨rfl, hg⟩
          have HG1 := Lib.hid (HGe.out.trans hg)
          clear hg
          go_wp2_with fail
          refine (HSr.out which _).mono ?_
          rintro e x2 ⟨rfl, hg⟩
          have HG2 := Lib.hid (HG1.out.trans hg)
          clear hg HG1
          generalize saltD sc which = S1 at hbq ⊢
          go_wp2_with fail
          refine (HPk.out _).mono ?_
          rintro e y ⟨rfl, rfl⟩
          generalize (pickD which 64) = pk at hbq2 HPk ⊢
          go_wp2_with fail
          refine (HSa.out (pk : Int) _ HG2.out).mono ?_
          rintro e x3 ⟨rfl, hg⟩
          have HG3 := Lib.hid (HG2.out.trans hg)
          clear hg HG2
          go_wp2_with fail
          refine (HPk.out _).mono ?_
          rintro e y ⟨rfl, rfl⟩
          go_wp2_with fail
          refine (HSr.out (pk : Int) _).mono ?_
          rintro e x4 ⟨rfl, hg⟩
          have HG4 := Lib.hid (HG3.out.trans hg)
          clear hg HG3
          generalize saltD sc (pk : Int) = S2 at hbq2 ⊢
          go_wp2_with fail
          go_ret
          exact ⟨rfl, HG4.out⟩
end Go.Proofs.YtakhomofckcckaaGreatDoor
