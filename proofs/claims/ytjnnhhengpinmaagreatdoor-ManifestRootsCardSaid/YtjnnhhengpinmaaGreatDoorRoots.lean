/- ManifestRoots: the walk. -/
import Derived.Test.YtjnnhhengpinmaaGreatDoorNE
import Derived.Test.YtjnnhhengpinmaaGreatDoorNO
namespace Go.Proofs.YtjnnhhengpinmaaGreatDoor
open Go Go.RowKit Go.Shelf
attribute [local go_sem] gAt gUpon
attribute [local simp] Gr.refl Gr.alloc

/-- a pair of packages as a value -/
def PrU (i1 j1 i2 j2 : Int) (m1 m2 : Nat) (F1 F2 : List En) (v : Value) (w : World) : Prop := ∃ p1 c1 p2 c2, v = .agg #[.int .i64 i1, .int .i64 j1, .slice p1 m1 c1, .int .i64 i2, .int .i64 j2, .slice p2 m2 c2] ∧ Rws 4 enC (.slice p1 m1 c1) F1 w ∧ Rws 4 enC (.slice p2 m2 c2) F2 w
theorem PrU.stb (i1 j1 i2 j2 : Int) (m1 m2 : Nat) (F1 F2 : List En) : Stb (PrU i1 j1 i2 j2 m1 m2 F1 F2) := fun _ _ _ hg ⟨p1, c1, p2, c2, h1, h2, h3⟩ => ⟨p1, c1, p2, c2, h1, h2.gr hg, h3.gr hg⟩
/-- three pairs of packages in a new slice -/
structure Tri3 (b : Nat) (a0 a1 b0 b1 I J : Int) (ma mb n : Nat) (A B E Q : List En) (pa pb p pq p3 : Option Addr) (ca cb c cq c3 : Nat) (w : World) : Prop where
  r : w.heap[b]? = some (.cells #[.int .i64 a0, .int .i64 a1, .slice pa ma ca, .int .i64 b0, .int .i64 b1, .slice pb mb cb, .int .i64 I, .int .i64 J, .slice p n c, .int .i64 I, .int .i64 J, .slice pq n cq, .int .i64 I, .int .i64 J, .slice p n c, .int .i64 a0, .int .i64 a1, .slice p3 ma c3] 64 (0, 0))
  a : Rws 4 enC (.slice pa ma ca) A w
  b : Rws 4 enC (.slice pb mb cb) B w
  e : Rws 4 enC (.slice p n c) E w
  q : Rws 4 enC (.slice pq n cq) Q w
  a3 : Rws 4 enC (.slice p3 ma c3) A w
theorem Tri3.gr {b : Nat} {a0 a1 b0 b1 I J : Int} {ma mb n : Nat} {A B E Q : List En} {pa pb p pq p3 : Option Addr} {ca cb c cq c3 : Nat} {w x : World} (h : Tri3 b a0 a1 b0 b1 I J ma mb n A B E Q pa pb p pq p3 ca cb c cq c3 w) (hg : Gr w x) : Tri3 b a0 a1 b0 b1 I J ma mb n A B E Q pa pb p pq p3 ca cb c cq c3 x :=
  ⟨hg.block h.r, h.a.gr hg, h.b.gr hg, h.e.gr hg, h.q.gr hg, h.a3.gr hg⟩
def TriV (a0 a1 b0 b1 I J : Int) (ma mb n : Nat) (A B E Q : List En) (p pq : Option Addr) (c cq : Nat) (v : Value) (w : World) : Prop := ∃ b pa pb p3 ca cb c3, v = .slice (some ⟨b, 0, none⟩) 3 3 ∧ Tri3 b a0 a1 b0 b1 I J ma mb n A B E Q pa pb p pq p3 ca cb c cq c3 w
theorem TriV.stb (a0 a1 b0 b1 I J : Int) (ma mb n : Nat) (A B E Q : List En) (p pq : Option Addr) (c cq : Nat) : Stb (TriV a0 a1 b0 b1 I J ma mb n A B E Q p pq c cq) := fun _ _ _ hg ⟨b, pa, pb, p3, ca, cb, c3, h1, h2⟩ => ⟨b, pa, pb, p3, ca, cb, c3, h1, h2.gr hg⟩
/-- three blocks -/
def Box3 (b1 b2 b3 : Nat) (c1 c2 c3 : Array Value) (w : World) : Prop := w.heap[b1]? = some (.cells c1 24 (0, 0)) ∧ w.heap[b2]? = some (.cells c2 24 (0, 0)) ∧ w.heap[b3]? = some (.cells c3 28 (0, 0))
theorem Box3.gr {b1 b2 b3 : Nat} {c1 c2 c3 : Array Value} {w x : World} (h : Box3 b1 b2 b3 c1 c2 c3 w) (hg : Gr w x) : Box3 b1 b2 b3 c1 c2 c3 x := ⟨hg.block h.1, hg.block h.2.1, hg.block h.2.2⟩
/-- the made package and one that came in -/
def MixV (I J : Int) (n : Nat) (p : Option Addr) (c : Nat) (a0 a1 : Int) (ma : Nat) (A : List En) (v : Value) (w : World) : Prop := ∃ p3 c3, v = .agg #[.int .i64 I, .int .i64 J, .slice p n c, .int .i64 a0, .int .i64 a1, .slice p3 ma c3] ∧ Rws 4 enC (.slice p3 ma c3) A w
theorem MixV.stb (I J : Int) (n : Nat) (p : Option Addr) (c : Nat) (a0 a1 : Int) (ma : Nat) (A : List En) : Stb (MixV I J n p c a0 a1 ma A) := fun _ _ _ hg ⟨p3, c3, h1, h2⟩ => ⟨p3, c3, h1, h2.gr hg⟩
/-- what a round has of one pair -/
def Pair6 (b k : Nat) (xi xj yi yj : Int) (px py : Option Addr) (mx my cx cy : Nat) (w : World) : Prop :=
  w.cell? ⟨b, k * 6, none⟩ = some (.int .i64 xi) ∧ w.cell? ⟨b, k * 6 + 1, none⟩ = some (.int .i64 xj) ∧ w.cell? ⟨b, k * 6 + 2, none⟩ = some (.slice px mx cx) ∧ w.cell? ⟨b, k * 6 + 3, none⟩ = some (.int .i64 yi) ∧ w.cell? ⟨b, k * 6 + 4, none⟩ = some (.int .i64 yj) ∧ w.cell? ⟨b, k * 6 + 5, none⟩ = some (.slice py my cy)
set_option maxRecDepth 100000 in
set_option maxHeartbeats 4000000 in
theorem roots_any (a0 a1 : Int) (va : Value) (la : List En) (b0 b1 : Int) (vb : Value) (lb : List En) (v : Value) (l : List ByteArray) (id which : Int) (oth : En) (w : World) (ha : PkIn va la w) (hb : PkIn vb lb w) (hv : StrsIn v l w) (hl : l.length ≤ 9223372036854775806) (hs : ∀ x ∈ l, x.size ≤ 140737488355000) (hi : I64 id) (hwh : I64 which) (ho : EnIn oth) (hT : Tab w) :
    Calls Tryz.prog 9 #[.agg #[.int .i64 a0, .int .i64 a1, va], .agg #[.int .i64 b0, .int .i64 b1, vb], v, .int .i64 id, .int .i64 which, .agg #[.string oth.path, .int .i64 oth.fmt, .int .i64 oth.len, .string oth.dig]] w fun e w' => e = .returned (.bool true) ∧ Gr w w' := by
  obtain ⟨pA, cA, rfl⟩ := ha.1.shape
  obtain ⟨pB, cB, rfl⟩ := hb.1.shape
  have HT := Lib.hid hT
  have HMd := Lib.hid (fun (y : World) (hg : Gr w y) => made2_any v l id 1 y (hv.gr hg) hl hs hi ⟨by decide, by decide⟩ (hT.gr hg))
  obtain ⟨ma, FA, -, hFA, hma, hFAs, hfa⟩ := few2_any a0 a1 _ la w ha
  obtain ⟨mb, FB, -, hFB, hmb, hFBs, hfb⟩ := few2_any b0 b1 _ lb w hb
  have HFa := Lib.hid hfa
  have HFb := Lib.hid hfb
  have HsA := Lib.hid (And.intro hFA (And.intro hma hFAs))
  have HsB := Lib.hid (And.intro hFB (And.intro hmb hFBs))
  have HOth := Lib.hid (fun (y : World) => entry_any oth y ho.1 ho.2.2.2)
  obtain ⟨oP, oF, oN, oD⟩ := oth
  simp only at HOth ⊢
  obtain ⟨o, hoo⟩ : ∃ o, cutEn ⟨oP, oF, oN, oD⟩ = o := ⟨_, rfl⟩
  have hos : o.path.size ≤ 70 := by rw [← hoo]; show (cutD oP 70).size ≤ 70; rw [cutD_size]; omega
  rw [hoo] at HOth
  have Hos := Lib.hid hos
  have HWh := Lib.hid hwh
  clear hv hs hT hi ha hb hfa hfb hFA hFB hma hmb hFAs hFBs ho hoo hos hwh
  go_enter Tryz.func9, Tryz.ntmps9
  go_upto_region 1 with fail
  have hX : ∃ W, ((w.alloc (.cells #[.int .i64 a0, .int .i64 a1, .slice pA la.length cA] 24)).alloc (.cells #[.int .i64 b0, .int .i64 b1, .slice pB lb.length cB] 24)).alloc (.cells #[.string oP, .int .i64 oF, .int .i64 oN, .string oD] 28) = W ∧ Gr w W ∧
      Box3 (w.heap.size) (w.heap.size + 1) (w.heap.size + 1 + 1) #[.int .i64 a0, .int .i64 a1, .slice pA la.length cA] #[.int .i64 b0, .int .i64 b1, .slice pB lb.length cB] #[.string oP, .int .i64 oF, .int .i64 oN, .string oD] W := by
    refine ⟨_, rfl, ((Gr.alloc _ _).trans (Gr.alloc _ _)).trans (Gr.alloc _ _), (Gr.alloc _ _).block ((Gr.alloc _ _).block (heap_alloc_new _ _)), (Gr.alloc _ _).block ?_, ?_⟩
    · have := heap_alloc_new (w.alloc (.cells #[.int .i64 a0, .int .i64 a1, .slice pA la.length cA] 24)) (.cells #[.int .i64 b0, .int .i64 b1, .slice pB lb.length cB] 24)
      rw [World.size_alloc] at this; exact this
    · have := heap_alloc_new ((w.alloc (.cells #[.int .i64 a0, .int .i64 a1, .slice pA la.length cA] 24)).alloc (.cells #[.int .i64 b0, .int .i64 b1, .slice pB lb.length cB] 24)) (.cells #[.string oP, .int .i64 oF, .int .i64 oN, .string oD] 28)
      rw [World.size_alloc, World.size_alloc] at this; exact this
  obtain ⟨W0, hW0, hG0, hBx⟩ := hX
  rw [hW0]
  obtain ⟨x1, hx1⟩ : ∃ b, w.heap.size = b := ⟨_, rfl⟩
  rw [hx1] at hBx
  simp only [hx1]
  obtain ⟨x2, hx2⟩ : ∃ b, x1 + 1 = b := ⟨_, rfl⟩
  rw [hx2] at hBx
  simp only [hx2]
  obtain ⟨x3, hx3⟩ : ∃ b, x2 + 1 = b := ⟨_, rfl⟩
  rw [hx3] at hBx
  simp only [hx3]
  have HG0 := Lib.hid hG0
  have HBx := Lib.hid hBx
  clear hW0 hG0 hBx hx1 hx2 hx3
  go_wp2_with fail
  refine (sane_any W0 (HT.out.gr HG0.out)).mono ?_
  rintro e w1 ⟨rfl, hg1⟩
  have HG1 := Lib.hid (HG0.out.trans hg1)
  replace HBx := Lib.hid (HBx.out.gr hg1)
  clear hg1 HG0
  go_wp2_with fail
  refine (HMd.out w1 HG1.out).mono ?_
  rintro e w2 ⟨I, J, n, E, P, S, p, pp, ps, c, cp, cs, rfl, hF, hR, hP, hS, -, hg2⟩
  have HF := Lib.hid hF
  have HM0 := Lib.hid (MadAt.start (I := I) (J := J) (n := n) (E := E) (p := p) (c := c) (HG1.out.trans hg2) hR hP.strs hS.strs)
  replace HBx := Lib.hid ((HBx.out.gr hg2).gr (Gr.alloc w2 (.cells #[.int .i64 I, .int .i64 J, .slice p n c] 24)))
  clear hF hR hP hS hg2 HG1 HMd
  go_upto_region 3 with fail
  obtain ⟨b, hb⟩ : ∃ b, w2.heap.size = b := ⟨_, rfl⟩
  simp only [hb] at HM0 ⊢
  have HM := HM0
  clear HM0 hb
  generalize w2.alloc (.cells #[.int .i64 I, .int .i64 J, .slice p n c] 24) = w3 at HM HBx ⊢
  have hn := HF.out.bounds
  have n0 : ((n : Int) == 0) = false := by rw [beq_eq_false_iff_ne]; omega
  obtain ⟨mq, FQ, hfq1, hFQ, hmq, hFQs, hfq⟩ := few2_any I J _ E w3 ⟨HM.out.e, fun x hx => by have := HF.out.eSmall x hx; omega⟩
  obtain rfl : n = mq := by rw [← hFQ, ← hfq1]; unfold fewL; rw [List.length_map, List.length_take, HF.out.eLen]; omega
  obtain ⟨k0, k1, k2⟩ := row3 HM.out.r
  go_wp2_with fail
  clear k0 k1 k2 n0
  refine (hfq w3 (Gr.refl _)).mono ?_
  rintro e w4 ⟨u4, rfl, hg4, q, d, rfl, hO4, hR4⟩
  obtain ⟨gq, oq, d', he, hgq, hnd, hdm⟩ := hO4.shape hn.1
  injection he with he1 he2 he3
  subst he1 he3
  go_upto_region 6 with fail
  obtain ⟨bq, hbq⟩ : ∃ b, w4.heap.size = b := ⟨_, rfl⟩
  have hrow := heap_alloc_new w4 (.cells #[.int .i64 I, .int .i64 J, .slice (some ⟨gq, oq, none⟩) n d] 24)
  have hlt4 : gq < bq := by
    obtain ⟨y, hy⟩ : ∃ y, FQ[0]? = some y := ⟨_, List.getElem?_eq_getElem (by omega)⟩
    obtain ⟨g', o', he', hc'⟩ := hR4.at2 hFQ hy
    injection he' with he'; injection he' with h1 h2
    have := World.block_lt_of_cell? w4 _ (hc' 0 _ rfl)
    simp at this
    omega
  rw [hbq] at hrow
  simp only [hbq]
  have hg35 := hg4.trans (Gr.alloc w4 (.cells #[.int .i64 I, .int .i64 J, .slice (some ⟨gq, oq, none⟩) n d] 24))
  have hO5 := hO4.gr (Gr.alloc w4 (.cells #[.int .i64 I, .int .i64 J, .slice (some ⟨gq, oq, none⟩) n d] 24))
  generalize w4.alloc (.cells #[.int .i64 I, .int .i64 J, .slice (some ⟨gq, oq, none⟩) n d] 24) = w5 at hrow hg35 hO5 ⊢
  have HO5 := Lib.hid hO5
  have HG5 := Lib.hid hg35
  have HR5 := Lib.hid hrow
  have Hq := Lib.hid (And.intro hlt4 hgq)
  have HQs := Lib.hid (And.intro hFQ (And.intro hFQs hnd))
  obtain ⟨kk, hkk⟩ : ∃ kk, pickD which n = kk := ⟨_, rfl⟩
  have hkn : kk < n := by rw [← hkk]; exact pickD_lt which n hn.1
  have HPk := Lib.hid (fun (y : World) => pick_any which n y HWh.out hn.1 (by omega))
  rw [hkk] at HPk
  clear hrow hg35 hO5 hg4 hO4 hR4 hbq hlt4 hgq hkk hfq hfq1 hFQ hmq hFQs hnd hdm
  have S2 : ∀ q : GrS w5.drew, q.w.cell? ⟨bq, 2, none⟩ = some (.slice (some ⟨gq, oq, none⟩) n d) := fun q => q.h.cell (w := w5.drew) (row3 HR5.out).2.2
  have X0 : ∀ q : GrS w5.drew, q.w.cell? ⟨x3, 0, none⟩ = some (.string oP) := fun q => q.h.cell (w := w5.drew) (HG5.out.cell (row4 HBx.out.2.2).1)
  have X1 : ∀ q : GrS w5.drew, q.w.cell? ⟨x3, 1, none⟩ = some (.int .i64 oF) := fun q => q.h.cell (w := w5.drew) (HG5.out.cell (row4 HBx.out.2.2).2.1)
  have X2 : ∀ q : GrS w5.drew, q.w.cell? ⟨x3, 2, none⟩ = some (.int .i64 oN) := fun q => q.h.cell (w := w5.drew) (HG5.out.cell (row4 HBx.out.2.2).2.2.1)
  have X3 : ∀ q : GrS w5.drew, q.w.cell? ⟨x3, 3, none⟩ = some (.string oD) := fun q => q.h.cell (w := w5.drew) (HG5.out.cell (row4 HBx.out.2.2).2.2.2)
  have i0 : (0 : Int) ≤ (kk : Int) := by omega
  have i1 : (kk : Int) < (n : Int) := by omega
  refine region_grow 10 98 (by kernel_rfl) rfl (by kernel_rfl) rfl rfl ?_
  simp only [List.take_succ_cons, List.take_zero, List.drop_succ_cons, List.drop_zero]
  refine seg 6 rfl rfl rfl rfl ?_
  simp only [List.take_succ_cons, List.take_zero, List.drop_succ_cons, List.drop_zero]
  repeat (go_big_quiet_step (fail))
  refine wpQuiet_nil ?_
  intro _
  refine grow_det (v := .int .i64 (kk : Int)) rfl rfl rfl rfl rfl ?_ ?_
  · intro w1 hG
    go_simp
    refine (HPk.out w1).mono ?_
    rintro e w' ⟨rfl, rfl⟩
    exact ⟨rfl, Gr.refl _⟩
  simp only [Act.put, List.setIfInBounds_toArray, List.set_cons_zero, List.set_cons_succ]
  refine seg 1 rfl rfl rfl rfl ?_
  simp only [List.take_succ_cons, List.take_zero, List.drop_succ_cons, List.drop_zero]
  repeat (go_big_quiet_step (fail))
  refine wpQuiet_nil ?_
  intro _
  refine grow_det (v := .agg (enC o).toArray) rfl rfl rfl rfl rfl ?_ ?_
  · intro w1 hG
    go_simp
    refine (HOth.out w1).mono ?_
    rintro e w' ⟨rfl, hb⟩
    exact ⟨rfl, hb⟩
  simp only [Act.put, List.setIfInBounds_toArray, List.set_cons_zero, List.set_cons_succ]
  refine seg 1 rfl rfl rfl rfl ?_
  simp only [List.take_succ_cons, List.take_zero, List.drop_succ_cons, List.drop_zero]
  repeat (go_big_quiet_step (fail))
  refine wpQuiet_nil ?_
  intro _
  refine grow_end0 rfl rfl ?_
  intro w6 hG
  have hg56 := (Gr.drew w5).trans hG
  have HG6 := Lib.hid (HG5.out.trans hg56)
  have HO6 := Lib.hid (HO5.out.gr hg56)
  have HR6 := Lib.hid (hg56.block HR5.out)
  have HTh := Lib.hid (HO6.out.there kk hkn)
  clear S2 X0 X1 X2 X3 hG hg56 HG5 HO5 HR5
  go_upto_region 7 with ((with_reducible show wpList _ _ _ (⟨none, .store 28 _ _, _, _, _, _⟩ :: _) _ _); refine wpList_store_mid rfl 28 (.tmp 43) (.tmp 42) rfl gq (oq + kk * 4) (enC o).toArray rfl rfl HTh.out (infoEn_size Tryz.prog rfl) (all_oneCell_toArray (enC_one o)) ?_)
  simp only [Act.put]
  obtain ⟨hP1, hP2, hP3⟩ := own_put HO6.out HQs.out.1 kk hkn o
  have hgs : Gr w3 (w6.setCells gq (oq + kk * 4) (enC o)) := gr_step HG6.out (Gr.refl _) hP3 (fun g e => by cases e; exact Hq.out.2)
  have hrw := hP3.block HR6.out (by have := Hq.out.1; simp; omega)
  obtain ⟨Q, hQ⟩ : ∃ Q, FQ.set kk o = Q := ⟨_, rfl⟩
  have HQf : Hid (Q.length = n ∧ ∀ x ∈ Q, x.path.size ≤ 70) := Lib.hid (by
    rw [← hQ]
    refine ⟨by rw [List.length_set]; exact HQs.out.1, fun x hx => ?_⟩
    rcases List.mem_or_eq_of_mem_set hx with h | rfl
    · exact (HQs.out.2.1 x h).1
    · exact Hos.out)
  rw [hQ] at hP2
  replace HM := Lib.hid (HM.out.gr hgs)
  replace HBx := Lib.hid (HBx.out.gr hgs)
  have HQ : Hid (QAt bq I J n (some ⟨gq, oq, none⟩) d Q _) := Lib.hid ⟨hrw, hP2⟩
  clear hP1 hP2 hP3 hgs hrw hQ HG6 HO6 HR6 HTh HQs Hq hkn i0 i1 HPk Hos HOth HWh
  generalize w6.setCells gq (oq + kk * 4) (enC o) = w7 at HM HBx HQ ⊢
  have S0 : ∀ q : GrS w7.drew, q.w.cell? ⟨b, 0, none⟩ = some (.int .i64 I) := fun q => q.h.cell (w := w7.drew) (row3 HM.out.r).1
  have S1 : ∀ q : GrS w7.drew, q.w.cell? ⟨b, 1, none⟩ = some (.int .i64 J) := fun q => q.h.cell (w := w7.drew) (row3 HM.out.r).2.1
  have S2 : ∀ q : GrS w7.drew, q.w.cell? ⟨b, 2, none⟩ = some (.slice p n c) := fun q => q.h.cell (w := w7.drew) (row3 HM.out.r).2.2
  have Q0 : ∀ q : GrS w7.drew, q.w.cell? ⟨bq, 0, none⟩ = some (.int .i64 I) := fun q => q.h.cell (w := w7.drew) (row3 HQ.out.1).1
  have Q1 : ∀ q : GrS w7.drew, q.w.cell? ⟨bq, 1, none⟩ = some (.int .i64 J) := fun q => q.h.cell (w := w7.drew) (row3 HQ.out.1).2.1
  have Q2 : ∀ q : GrS w7.drew, q.w.cell? ⟨bq, 2, none⟩ = some (.slice (some ⟨gq, oq, none⟩) n d) := fun q => q.h.cell (w := w7.drew) (row3 HQ.out.1).2.2
  have A0 : ∀ q : GrS w7.drew, q.w.cell? ⟨x1, 0, none⟩ = some (.int .i64 a0) := fun q => q.h.cell (w := w7.drew) (row3 HBx.out.1).1
  have A1 : ∀ q : GrS w7.drew, q.w.cell? ⟨x1, 1, none⟩ = some (.int .i64 a1) := fun q => q.h.cell (w := w7.drew) (row3 HBx.out.1).2.1
  have A2 : ∀ q : GrS w7.drew, q.w.cell? ⟨x1, 2, none⟩ = some (.slice pA la.length cA) := fun q => q.h.cell (w := w7.drew) (row3 HBx.out.1).2.2
  have B0 : ∀ q : GrS w7.drew, q.w.cell? ⟨x2, 0, none⟩ = some (.int .i64 b0) := fun q => q.h.cell (w := w7.drew) (row3 HBx.out.2.1).1
  have B1 : ∀ q : GrS w7.drew, q.w.cell? ⟨x2, 1, none⟩ = some (.int .i64 b1) := fun q => q.h.cell (w := w7.drew) (row3 HBx.out.2.1).2.1
  have B2 : ∀ q : GrS w7.drew, q.w.cell? ⟨x2, 2, none⟩ = some (.slice pB lb.length cB) := fun q => q.h.cell (w := w7.drew) (row3 HBx.out.2.1).2.2
  refine region_grow 15 98 (by kernel_rfl) rfl (by kernel_rfl) rfl rfl ?_
  simp only [List.take_succ_cons, List.take_zero, List.drop_succ_cons, List.drop_zero]
  refine seg 1 rfl rfl rfl rfl ?_
  simp only [List.take_succ_cons, List.take_zero, List.drop_succ_cons, List.drop_zero]
  repeat (go_big_quiet_step (fail))
  refine wpQuiet_nil ?_
  intro _
  refine grow_open (PkR a0 a1 ma FA) rfl rfl rfl rfl (PkR.stb _ _ _ _) (fun w1 hG => ?_) ?_
  · go_simp
    refine (HFa.out w1 (HM.out.g.trans ((Gr.drew w7).trans hG))).mono ?_
    rintro e w' ⟨u, rfl, hg, h⟩
    exact ⟨u, rfl, hg, h.rws⟩
  refine seg 1 rfl rfl rfl rfl ?_
  simp only [List.take_succ_cons, List.take_zero, List.drop_succ_cons, List.drop_zero]
  repeat (go_big_quiet_step (fail))
  refine wpQuiet_nil ?_
  intro _
  refine grow_open (PkR b0 b1 mb FB) rfl rfl rfl rfl (PkR.stb _ _ _ _) (fun w1 hG => ?_) ?_
  · go_simp
    refine (HFb.out w1 (HM.out.g.trans ((Gr.drew w7).trans hG))).mono ?_
    rintro e w' ⟨u, rfl, hg, h⟩
    exact ⟨u, rfl, hg, h.rws⟩
  refine grow_open2 45 47 (PrU a0 a1 b0 b1 ma mb FA FB) rfl rfl (by decide) (by decide) rfl rfl rfl rfl (by decide) (by decide) rfl rfl rfl (PrU.stb _ _ _ _ _ _ _ _) (fun w1 u u2 hG hu hu2 => ?_) ?_
  · obtain ⟨q1, d1, rfl, h1⟩ := hu
    obtain ⟨q2, d2, rfl, h2⟩ := hu2
    simp only [Act.put, List.setIfInBounds_toArray, List.set_cons_zero, List.set_cons_succ]
    go_simp
    exact ⟨q1, d1, q2, d2, rfl, h1, h2⟩
  refine seg 2 rfl rfl rfl rfl ?_
  simp only [List.take_succ_cons, List.take_zero, List.drop_succ_cons, List.drop_zero]
  repeat (go_big_quiet_step (fail))
  refine wpQuiet_nil ?_
  intro _
  refine grow_det (v := .agg #[.int .i64 I, .int .i64 J, .slice p n c, .int .i64 I, .int .i64 J, .slice (some ⟨gq, oq, none⟩) n d]) rfl rfl rfl rfl rfl ?_ ?_
  · intro w1 hG
    go_simp
  simp only [Act.put, List.setIfInBounds_toArray, List.set_cons_zero, List.set_cons_succ]
  refine seg 2 rfl rfl rfl rfl ?_
  simp only [List.take_succ_cons, List.take_zero, List.drop_succ_cons, List.drop_zero]
  repeat (go_big_quiet_step (fail))
  refine wpQuiet_nil ?_
  intro _
  refine grow_open (PkR a0 a1 ma FA) rfl rfl rfl rfl (PkR.stb _ _ _ _) (fun w1 hG => ?_) ?_
  · go_simp
    refine (HFa.out w1 (HM.out.g.trans ((Gr.drew w7).trans hG))).mono ?_
    rintro e w' ⟨u, rfl, hg, h⟩
    exact ⟨u, rfl, hg, h.rws⟩
  refine grow_open1 54 (MixV I J n p c a0 a1 ma FA) rfl rfl (by decide) rfl rfl rfl (by decide) rfl rfl (MixV.stb _ _ _ _ _ _ _ _ _) (fun w1 u hG hu => ?_) ?_
  · obtain ⟨q1, d1, rfl, h1⟩ := hu
    simp only [Act.put, List.setIfInBounds_toArray, List.set_cons_zero, List.set_cons_succ]
    go_simp
    exact ⟨q1, d1, rfl, h1⟩
  refine grow_open2 48 55 (TriV a0 a1 b0 b1 I J ma mb n FA FB E Q p (some ⟨gq, oq, none⟩) c d) rfl rfl (by decide) (by decide) rfl rfl rfl rfl (by decide) (by decide) rfl rfl rfl (TriV.stb _ _ _ _ _ _ _ _ _ _ _ _ _ _ _ _ _) (fun w1 u u2 hG hu hu2 => ?_) ?_
  · obtain ⟨q1, d1, q2, d2, rfl, h1, h2⟩ := hu
    obtain ⟨q3, d3, rfl, h3⟩ := hu2
    simp only [Act.put, List.setIfInBounds_toArray, List.set_cons_zero, List.set_cons_succ]
    have hE := HM.out.e.gr ((Gr.drew w7).trans hG)
    have hQ := HQ.out.2.gr ((Gr.drew w7).trans hG)
    go_simp
    exact ⟨_, q1, q2, q3, d1, d2, d3, rfl, heap_alloc_new _ _, h1.gr (Gr.alloc _ _), h2.gr (Gr.alloc _ _), hE.gr (Gr.alloc _ _), hQ.gr (Gr.alloc _ _), h3.gr (Gr.alloc _ _)⟩
  refine grow_det1 56 (v := .int .i64 3) rfl (by decide) rfl rfl rfl (by decide) rfl rfl rfl (fun w1 u hG hu => ?_) ?_
  · obtain ⟨b', q1, q2, q3, d1, d2, d3, rfl, -⟩ := hu
    simp only [Act.put, List.setIfInBounds_toArray, List.set_cons_zero, List.set_cons_succ]
    go_simp
  simp only [Act.put, List.setIfInBounds_toArray, List.set_cons_zero, List.set_cons_succ]
  refine seg 1 rfl rfl rfl rfl ?_
  simp only [List.take_succ_cons, List.take_zero, List.drop_succ_cons, List.drop_zero]
  repeat (go_big_quiet_step (fail))
  refine wpQuiet_nil ?_
  intro _
  refine grow_pop rfl (by decide) rfl (fun u56 => ?_)
  refine grow_pop rfl (by decide) rfl (fun u55 => ?_)
  refine grow_pop rfl (by decide) rfl (fun u54 => ?_)
  refine grow_pop rfl (by decide) rfl (fun u48 => ?_)
  refine grow_pop rfl (by decide) rfl (fun u47 => ?_)
  refine grow_pop rfl (by decide) rfl (fun u45 => ?_)
  refine grow_end0 rfl rfl (fun w8 hG g45 g47 g48 g54 g55 g56 => ?_)
  clear g45 g47 g48 g54 g55
  obtain ⟨b9, pa, pb, p3, ca, cb, c3, rfl, h9⟩ := g56
  simp only [Act.put, List.setIfInBounds_toArray, List.set_cons_zero, List.set_cons_succ]
  have H9 := Lib.hid h9
  have HG9 := Lib.hid (HM.out.g.trans ((Gr.drew w7).trans hG))
  clear h9 hG S0 S1 S2 Q0 Q1 Q2 A0 A1 A2 B0 B1 B2 HFa HFb HM HBx HQ
  go_wp2_with fail
  go_loopw [19, 58] (fun v19 v58 W => ∃ (k : Nat), k ≤ 3 ∧ v58 = .int .i64 (k : Int) ∧ Hid (Tri3 b9 a0 a1 b0 b1 I J ma mb n FA FB E Q pa pb p (some ⟨gq, oq, none⟩) p3 ca cb c d c3 W) ∧ Hid (Gr w W)) (fun _ v58 _ => 3 - (intOf v58).toNat)
  case atStart => exact ⟨0, by omega, rfl, H9, HG9⟩
  clear H9 HG9
  case round =>
    obtain ⟨k, hk, rfl, H9, HG9⟩ := hrel
    by_cases hlt : k < 3
    · have ht : decide (k < 3) = true := decide_eq_true hlt
      have ht' : decide ((k : Int) < 3) = true := decide_eq_true (by omega)
      obtain ⟨xi, xj, yi, yj, px, py, mx, my, cx, cy, X, Y, hpr, hRX, hRY, hXf, hYf⟩ : ∃ xi xj yi yj px py mx my cx cy X Y, Pair6 b9 k xi xj yi yj px py mx my cx cy wr ∧ Rws 4 enC (.slice px mx cx) X wr ∧ Rws 4 enC (.slice py my cy) Y wr ∧ (X.length = mx ∧ mx ≤ 66 ∧ ∀ x ∈ X, x.path.size ≤ 70) ∧ (Y.length = my ∧ my ≤ 66 ∧ ∀ x ∈ Y, x.path.size ≤ 70) := by
        have hc := row_at H9.out.r
        have hA : FA.length = ma ∧ ma ≤ 66 ∧ ∀ x ∈ FA, x.path.size ≤ 70 := ⟨HsA.out.1, HsA.out.2.1, fun x hx => (HsA.out.2.2 x hx).1⟩
        have hB : FB.length = mb ∧ mb ≤ 66 ∧ ∀ x ∈ FB, x.path.size ≤ 70 := ⟨HsB.out.1, HsB.out.2.1, fun x hx => (HsB.out.2.2 x hx).1⟩
        have hE : E.length = n ∧ n ≤ 66 ∧ ∀ x ∈ E, x.path.size ≤ 70 := ⟨HF.out.eLen, by omega, fun x hx => by rw [(HF.out.eSmall x hx).1]; decide⟩
        have hQ : Q.length = n ∧ n ≤ 66 ∧ ∀ x ∈ Q, x.path.size ≤ 70 := ⟨HQf.out.1, by omega, HQf.out.2⟩
        match k, hlt with
        | 0, _ => exact ⟨_, _, _, _, _, _, _, _, _, _, FA, FB, ⟨hc 0 _ rfl, hc 1 _ rfl, hc 2 _ rfl, hc 3 _ rfl, hc 4 _ rfl, hc 5 _ rfl⟩, H9.out.a, H9.out.b, hA, hB⟩
        | 1, _ => exact ⟨_, _, _, _, _, _, _, _, _, _, E, Q, ⟨hc 6 _ rfl, hc 7 _ rfl, hc 8 _ rfl, hc 9 _ rfl, hc 10 _ rfl, hc 11 _ rfl⟩, H9.out.e, H9.out.q, hE, hQ⟩
        | 2, _ => exact ⟨_, _, _, _, _, _, _, _, _, _, E, FA, ⟨hc 12 _ rfl, hc 13 _ rfl, hc 14 _ rfl, hc 15 _ rfl, hc 16 _ rfl, hc 17 _ rfl⟩, H9.out.e, H9.out.a3, hE, hA⟩
      obtain ⟨e0, e1, e2, e3, e4, e5⟩ := hpr
      have HRX := Lib.hid hRX
      have HRY := Lib.hid hRY
      have HXf := Lib.hid hXf
      have HYf := Lib.hid hYf
      clear hRX hRY hXf hYf
      have i0 : (0 : Int) ≤ (k : Int) := by omega
      have i1 : (k : Int) < 3 := by omega
      go_upto_region 10 with fail
      have hrow := heap_alloc_new wr (.cells #[.int .i64 xi, .int .i64 xj, .slice px mx cx, .int .i64 yi, .int .i64 yj, .slice py my cy] 64)
      obtain ⟨bp, hbp⟩ : ∃ b, wr.heap.size = b := ⟨_, rfl⟩
      rw [hbp] at hrow
      simp only [hbp]
      have hga := Gr.alloc wr (.cells #[.int .i64 xi, .int .i64 xj, .slice px mx cx, .int .i64 yi, .int .i64 yj, .slice py my cy] 64)
      replace H9 := Lib.hid (H9.out.gr hga)
      replace HG9 := Lib.hid (HG9.out.trans hga)
      replace HRX := Lib.hid (HRX.out.gr hga)
      replace HRY := Lib.hid (HRY.out.gr hga)
      have HP := Lib.hid hrow
      clear hrow hga hbp e0 e1 e2 e3 e4 e5
      generalize wr.alloc (.cells #[.int .i64 xi, .int .i64 xj, .slice px mx cx, .int .i64 yi, .int .i64 yj, .slice py my cy] 64) = wa at H9 HG9 HRX HRY HP ⊢
      have hXl : X.length ≤ 9223372036854775806 := by rw [HXf.out.1]; have := HXf.out.2.1; omega
      have hXp : ∀ x ∈ X, x.path.size ≤ 9223372036854775807 := fun x hx => Nat.le_trans (HXf.out.2.2 x hx) (by decide)
      have hYl : Y.length ≤ 9223372036854775806 := by rw [HYf.out.1]; have := HYf.out.2.1; omega
      have hYp : ∀ x ∈ Y, x.path.size ≤ 9223372036854775807 := fun x hx => Nat.le_trans (HYf.out.2.2 x hx) (by decide)
      have HVX := Lib.hid (valid_any xi xj _ X wa HRX.out hXl hXp)
      have HVY := Lib.hid (fun (y : World) (hg : Gr wa y) => valid_any yi yj _ Y y (HRY.out.gr hg) hYl hYp)
      have HSm := Lib.hid (fun (y : World) (hg : Gr wa y) => same_any xi xj yi yj _ _ X Y y (HRX.out.gr hg) (HRY.out.gr hg) hXl)
      have HRtX := Lib.hid (fun (y : World) (hg : Gr wa y) => rootM_any xi xj _ X y (HRX.out.gr hg) hXl hXp (HT.out.gr (HG9.out.trans hg)))
      have HRtY := Lib.hid (fun (y : World) (hg : Gr wa y) => rootM_any yi yj _ Y y (HRY.out.gr hg) hYl hYp (HT.out.gr (HG9.out.trans hg)))
      clear hXl hXp hYl hYp
      obtain ⟨k0, k1, k2, k3, k4, k5⟩ := rowSix HP.out
      cases hVX : validD xi xj X with
      | false =>
        rw [hVX] at HVX
        clear hVX HVY HSm HRtX HRtY
        go_wp2_with fail
        clear k0 k1 k2 k3 k4 k5
        refine HVX.out.mono ?_
        rintro e wb ⟨rfl, hgb⟩
        replace H9 := Lib.hid (H9.out.gr hgb)
        replace HG9 := Lib.hid (HG9.out.trans hgb)
        clear hgb HP HRX HRY
        go_wp2_with fail
        go_roundw
        case rel => exact ⟨k + 1, by omega, by go_num, H9, HG9⟩
        case measure => simp [intOf]; omega
      | true =>
        rw [hVX] at HVX
        go_wp2_with fail
        clear k0 k1 k2 k3 k4 k5
        refine HVX.out.mono ?_
        rintro e wb ⟨rfl, hgb⟩
        have HGb := Lib.hid hgb
        have HPb := Lib.hid (hgb.block HP.out)
        clear hgb HVX
        obtain ⟨k0, k1, k2, k3, k4, k5⟩ := rowSix HPb.out
        cases hVY : validD yi yj Y with
        | false =>
          rw [hVY] at HVY
          clear hVX hVY HSm HRtX HRtY
          go_wp2_with fail
          clear k0 k1 k2 k3 k4 k5
          refine (HVY.out wb HGb.out).mono ?_
          rintro e wc ⟨rfl, hgc⟩
          have hgb := HGb.out.trans hgc
          replace H9 := Lib.hid (H9.out.gr hgb)
          replace HG9 := Lib.hid (HG9.out.trans hgb)
          clear hgb HP HRX HRY
          go_wp2_with fail
          go_roundw
          case rel => exact ⟨k + 1, by omega, by go_num, H9, HG9⟩
          case measure => simp [intOf]; omega
        | true =>
          rw [hVY] at HVY
          go_wp2_with fail
          clear k0 k1 k2 k3 k4 k5
          refine (HVY.out wb HGb.out).mono ?_
          rintro e wc ⟨rfl, hgc⟩
          have HGc := Lib.hid (HGb.out.trans hgc)
          have HPc := Lib.hid (hgc.block HPb.out)
          clear hgc HVY HGb HPb
          obtain ⟨k0, k1, k2, k3, k4, k5⟩ := rowSix HPc.out
          cases hsm : sameD xi xj X yi yj Y with
          | true =>
            rw [hsm] at HSm
            clear hVX hVY hsm HRtX HRtY
            go_wp2_with fail
            clear k0 k1 k2 k3 k4 k5
            refine (HSm.out wc HGc.out).mono ?_
            rintro e wd ⟨rfl, hgd⟩
            have hgb := HGc.out.trans hgd
            replace H9 := Lib.hid (H9.out.gr hgb)
            replace HG9 := Lib.hid (HG9.out.trans hgb)
            clear hgb HP HRX HRY
            go_wp2_with fail
            go_roundw
            case rel => exact ⟨k + 1, by omega, by go_num, H9, HG9⟩
            case measure => simp [intOf]; omega
          | false =>
            rw [hsm] at HSm
            have HLw : Hid (rootP xi xj X = rootP yi yj Y → hitD (hash14 xi xj X) (hash14 yi yj Y) = true) := Lib.hid (fun he => by
              cases hh : hitD (hash14 xi xj X) (hash14 yi yj Y) with
              | true => rfl
              | false =>
                obtain ⟨e1, e2, e3⟩ := roots_law hVX hVY he (noHit_of hh)
                rw [e1, e2, e3] at hsm
                unfold sameD at hsm
                simp at hsm)
            have HHX := Lib.hid (fun (y : World) (hg : Gr wa y) => hashed14_any xi xj _ X y (HRX.out.gr hg) hVX)
            have HHY := Lib.hid (fun (y : World) (hg : Gr wa y) => hashed14_any yi yj _ Y y (HRY.out.gr hg) hVY)
            have HZX := Lib.hid (hash14_sizes hVX)
            have HZY := Lib.hid (hash14_sizes hVY)
            obtain ⟨LX, hLX⟩ : ∃ z, hash14 xi xj X = z := ⟨_, rfl⟩
            obtain ⟨LY, hLY⟩ : ∃ z, hash14 yi yj Y = z := ⟨_, rfl⟩
            obtain ⟨RX, hRX⟩ : ∃ z, rootP xi xj X = z := ⟨_, rfl⟩
            obtain ⟨RY, hRY⟩ : ∃ z, rootP yi yj Y = z := ⟨_, rfl⟩
            rw [hLX] at HHX HZX HLw
            rw [hLY] at HHY HZY HLw
            rw [hRX] at HRtX HLw
            rw [hRY] at HRtY HLw
            have HCo := Lib.hid (fun (v u : Value) (y : World) (hv : StrsAt v LX y) (hu : StrsAt u LY y) => collided_any v u LX LY y hv hu HZX.out.1 HZY.out.1 HZX.out.2 HZY.out.2)
            clear hVX hVY hsm hLX hLY hRX hRY HZX HZY
            go_wp2_with fail
            clear k0 k1 k2 k3 k4 k5
            refine (HSm.out wc HGc.out).mono ?_
            rintro e wd ⟨rfl, hgd⟩
            have HGd := Lib.hid (HGc.out.trans hgd)
            have HPd := Lib.hid (hgd.block HPc.out)
            clear hgd HSm HGc HPc
            have Z0 : ∀ q : GrS wd.drew, q.w.cell? ⟨bp, 0, none⟩ = some (.int .i64 xi) := fun q => q.h.cell (w := wd.drew) (rowSix HPd.out).1
            have Z1 : ∀ q : GrS wd.drew, q.w.cell? ⟨bp, 1, none⟩ = some (.int .i64 xj) := fun q => q.h.cell (w := wd.drew) (rowSix HPd.out).2.1
            have Z2 : ∀ q : GrS wd.drew, q.w.cell? ⟨bp, 2, none⟩ = some (.slice px mx cx) := fun q => q.h.cell (w := wd.drew) (rowSix HPd.out).2.2.1
            have Z3 : ∀ q : GrS wd.drew, q.w.cell? ⟨bp, 3, none⟩ = some (.int .i64 yi) := fun q => q.h.cell (w := wd.drew) (rowSix HPd.out).2.2.2.1
            have Z4 : ∀ q : GrS wd.drew, q.w.cell? ⟨bp, 4, none⟩ = some (.int .i64 yj) := fun q => q.h.cell (w := wd.drew) (rowSix HPd.out).2.2.2.2.1
            have Z5 : ∀ q : GrS wd.drew, q.w.cell? ⟨bp, 5, none⟩ = some (.slice py my cy) := fun q => q.h.cell (w := wd.drew) (rowSix HPd.out).2.2.2.2.2
            obtain ⟨C, hC⟩ : ∃ C, decide (RX = RY) = C := ⟨_, rfl⟩
            have tC : (RX.toList == RY.toList) = C := by rw [beq_str, hC]
            cases C with
            | false =>
              clear hC HLw HHX HHY HCo
              go_upto_region 11 with fail
              refine region_grow 17 98 (by kernel_rfl) rfl (by kernel_rfl) rfl rfl ?_
              simp only [List.take_succ_cons, List.take_zero, List.drop_succ_cons, List.drop_zero]
              refine seg 2 rfl rfl rfl rfl ?_
              simp only [List.take_succ_cons, List.take_zero, List.drop_succ_cons, List.drop_zero]
              repeat (go_big_quiet_step (fail))
              refine wpQuiet_nil ?_
              intro _
              refine grow_det (v := .string RX) rfl rfl rfl rfl rfl ?_ ?_
              · intro w1 hG
                go_simp
                refine (HRtX.out w1 (HGd.out.trans ((Gr.drew wd).trans hG))).mono ?_
                rintro e w' ⟨rfl, hb⟩
                exact ⟨rfl, hb⟩
              simp only [Act.put, List.setIfInBounds_toArray, List.set_cons_zero, List.set_cons_succ]
              refine seg 2 rfl rfl rfl rfl ?_
              simp only [List.take_succ_cons, List.take_zero, List.drop_succ_cons, List.drop_zero]
              repeat (go_big_quiet_step (fail))
              refine wpQuiet_nil ?_
              intro _
              refine grow_det (v := .string RY) rfl rfl rfl rfl rfl ?_ ?_
              · intro w1 hG
                go_simp
                refine (HRtY.out w1 (HGd.out.trans ((Gr.drew wd).trans hG))).mono ?_
                rintro e w' ⟨rfl, hb⟩
                exact ⟨rfl, hb⟩
              simp only [Act.put, List.setIfInBounds_toArray, List.set_cons_zero, List.set_cons_succ]
              refine seg 4 rfl rfl rfl rfl ?_
              simp only [List.take_succ_cons, List.take_zero, List.drop_succ_cons, List.drop_zero]
              repeat (go_big_quiet_step (fail))
              refine wpQuiet_nil ?_
              intro _
              refine grow_skip rfl rfl rfl rfl ?_
              simp only [Act.put, List.setIfInBounds_toArray, List.set_cons_zero, List.set_cons_succ]
              refine seg 2 rfl rfl rfl rfl ?_
              simp only [List.take_succ_cons, List.take_zero, List.drop_succ_cons, List.drop_zero]
              repeat (go_big_quiet_step (fail))
              refine wpQuiet_nil ?_
              intro _
              refine grow_skip rfl rfl rfl rfl ?_
              simp only [Act.put, List.setIfInBounds_toArray, List.set_cons_zero, List.set_cons_succ]
              refine grow_skip rfl rfl rfl rfl ?_
              simp only [Act.put, List.setIfInBounds_toArray, List.set_cons_zero, List.set_cons_succ]
              refine seg 2 rfl rfl rfl rfl ?_
              simp only [List.take_succ_cons, List.take_zero, List.drop_succ_cons, List.drop_zero]
              repeat (go_big_quiet_step (fail))
              refine wpQuiet_nil ?_
              intro _
              refine grow_end0 rfl rfl ?_
              intro we hG
              have hgb := HGd.out.trans ((Gr.drew wd).trans hG)
              clear hG Z0 Z1 Z2 Z3 Z4 Z5 tC HRtX HRtY HGd HPd
              replace H9 := Lib.hid (H9.out.gr hgb)
              replace HG9 := Lib.hid (HG9.out.trans hgb)
              clear hgb HP HRX HRY
              go_wp2_with fail
              go_roundw
              case rel => exact ⟨k + 1, by omega, by go_num, H9, HG9⟩
              case measure => simp [intOf]; omega
            | true =>
              have HHit := Lib.hid (HLw.out (of_decide_eq_true hC))
              clear hC HLw
              go_upto_region 11 with fail
              refine region_grow 17 98 (by kernel_rfl) rfl (by kernel_rfl) rfl rfl ?_
              simp only [List.take_succ_cons, List.take_zero, List.drop_succ_cons, List.drop_zero]
              refine seg 2 rfl rfl rfl rfl ?_
              simp only [List.take_succ_cons, List.take_zero, List.drop_succ_cons, List.drop_zero]
              repeat (go_big_quiet_step (fail))
              refine wpQuiet_nil ?_
              intro _
              refine grow_det (v := .string RX) rfl rfl rfl rfl rfl ?_ ?_
              · intro w1 hG
                go_simp
                refine (HRtX.out w1 (HGd.out.trans ((Gr.drew wd).trans hG))).mono ?_
                rintro e w' ⟨rfl, hb⟩
                exact ⟨rfl, hb⟩
              simp only [Act.put, List.setIfInBounds_toArray, List.set_cons_zero, List.set_cons_succ]
              refine seg 2 rfl rfl rfl rfl ?_
              simp only [List.take_succ_cons, List.take_zero, List.drop_succ_cons, List.drop_zero]
              repeat (go_big_quiet_step (fail))
              refine wpQuiet_nil ?_
              intro _
              refine grow_det (v := .string RY) rfl rfl rfl rfl rfl ?_ ?_
              · intro w1 hG
                go_simp
                refine (HRtY.out w1 (HGd.out.trans ((Gr.drew wd).trans hG))).mono ?_
                rintro e w' ⟨rfl, hb⟩
                exact ⟨rfl, hb⟩
              simp only [Act.put, List.setIfInBounds_toArray, List.set_cons_zero, List.set_cons_succ]
              refine seg 4 rfl rfl rfl rfl ?_
              simp only [List.take_succ_cons, List.take_zero, List.drop_succ_cons, List.drop_zero]
              repeat (go_big_quiet_step (fail))
              refine wpQuiet_nil ?_
              intro _
              refine grow_open (fun v y => StrsAt v LX y) rfl rfl rfl rfl (StrsAt.stb LX) (fun w1 hG => ?_) ?_
              · go_simp
                refine (HHX.out w1 (HGd.out.trans ((Gr.drew wd).trans hG))).mono ?_
                rintro e w' ⟨u, rfl, ho, hg⟩
                exact ⟨u, rfl, hg, ho.strs⟩
              refine seg 2 rfl rfl rfl rfl ?_
              simp only [List.take_succ_cons, List.take_zero, List.drop_succ_cons, List.drop_zero]
              repeat (go_big_quiet_step (fail))
              refine wpQuiet_nil ?_
              intro _
              refine grow_open (fun v y => StrsAt v LY y) rfl rfl rfl rfl (StrsAt.stb LY) (fun w1 hG => ?_) ?_
              · go_simp
                refine (HHY.out w1 (HGd.out.trans ((Gr.drew wd).trans hG))).mono ?_
                rintro e w' ⟨u, rfl, ho, hg⟩
                exact ⟨u, rfl, hg, ho.strs⟩
              refine grow_det2 89 92 (v := .bool true) rfl (by decide) (by decide) rfl rfl rfl rfl (by decide) (by decide) rfl rfl rfl rfl (fun w1 u u2 hG hu hu2 => ?_) ?_
              · simp only [Act.put, List.setIfInBounds_toArray, List.set_cons_zero, List.set_cons_succ]
                go_simp
                refine (HCo.out _ _ w1 hu hu2).mono ?_
                rintro e w' ⟨rfl, hg⟩
                exact ⟨by rw [HHit.out], hg⟩
              simp only [Act.put, List.setIfInBounds_toArray, List.set_cons_zero, List.set_cons_succ]
              refine seg 2 rfl rfl rfl rfl ?_
              simp only [List.take_succ_cons, List.take_zero, List.drop_succ_cons, List.drop_zero]
              repeat (go_big_quiet_step (fail))
              refine wpQuiet_nil ?_
              intro _
              refine grow_pop rfl (by decide) rfl (fun u92 => ?_)
              refine grow_pop rfl (by decide) rfl (fun u89 => ?_)
              refine grow_end0 rfl rfl (fun we hG g89 g92 => ?_)
              simp only [Act.put, List.setIfInBounds_toArray, List.set_cons_zero, List.set_cons_succ]
              have hgb := HGd.out.trans ((Gr.drew wd).trans hG)
              clear hG g89 g92 Z0 Z1 Z2 Z3 Z4 Z5 tC HRtX HRtY HGd HPd HHX HHY HCo
              replace H9 := Lib.hid (H9.out.gr hgb)
              replace HG9 := Lib.hid (HG9.out.trans hgb)
              clear hgb HP HRX HRY
              go_wp2_with fail
              go_roundw
              case rel => exact ⟨k + 1, by omega, by go_num, H9, HG9⟩
              case measure => simp [intOf]; omega
    · have ht : decide (k < 3) = false := decide_eq_false hlt
      have ht' : decide ((k : Int) < 3) = false := decide_eq_false (by omega)
      go_wp2_with fail
      go_ret
      exact ⟨rfl, HG9.out⟩
end Go.Proofs.YtjnnhhengpinmaaGreatDoor
