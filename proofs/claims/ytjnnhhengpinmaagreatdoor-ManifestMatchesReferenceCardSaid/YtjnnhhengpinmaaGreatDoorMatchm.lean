/- ManifestMatchesReference: the walk. -/
import Derived.Test.YtjnnhhengpinmaaGreatDoorNE
import Derived.Test.YtjnnhhengpinmaaGreatDoorNO
import Derived.Test.YtjnnhhengpinmaaGreatDoorMkB
import Derived.Test.YtjnnhhengpinmaaGreatDoorNB
import Derived.Test.YtjnnhhengpinmaaGreatDoorEnA
namespace Go.Proofs.YtjnnhhengpinmaaGreatDoor
open Go Go.RowKit Go.Shelf
attribute [local go_sem] gAt gUpon
attribute [local simp] Gr.refl Gr.alloc

/-- two blocks -/
def Box2 (b1 b2 : Nat) (c1 c2 : Array Value) (w : World) : Prop := w.heap[b1]? = some (.cells c1 24 (0, 0)) ∧ w.heap[b2]? = some (.cells c2 28 (0, 0))
theorem Box2.gr {b1 b2 : Nat} {c1 c2 : Array Value} {w x : World} (h : Box2 b1 b2 c1 c2 w) (hg : Gr w x) : Box2 b1 b2 c1 c2 x := ⟨hg.block h.1, hg.block h.2⟩
theorem cutsD_sizes (l : List ByteArray) (n m : Nat) : (cutsD l n m).length ≤ n ∧ ∀ x ∈ cutsD l n m, x.size ≤ m := by
  refine ⟨by rw [cutsD_len]; omega, fun x hx => ?_⟩
  unfold cutsD at hx
  obtain ⟨y, -, rfl⟩ := List.mem_map.1 hx
  rw [cutD_size]; omega
theorem Rws.front {α : Type} {s : Nat} {enc : α → List Value} {p : Option Addr} {n c : Nat} {l : List α} {w : World} (h : Rws s enc (.slice p n c) l w) (k : Nat) (hk : k ≤ n) : Rws s enc (.slice p k c) (l.take k) w ∧ n ≤ c + n * (if l = [] then 1 else 0) := by
  rcases h with ⟨rfl, p', c', he⟩ | ⟨g, off, c', he, h1, h2⟩
  · injection he with e1 e2 e3
    subst e2
    obtain rfl : k = 0 := by omega
    exact ⟨.inl ⟨rfl, _, _, rfl⟩, by simp⟩
  · injection he with e1 e2 e3
    subst e1 e2 e3
    refine ⟨?_, by omega⟩
    exact Rws.take (.inr ⟨g, off, _, rfl, h1, h2⟩) k hk
/-- three packages in a new slice -/
structure Tri1 (b : Nat) (a0 a1 I J : Int) (ma n : Nat) (A E Q : List En) (pa p pq : Option Addr) (ca c cq : Nat) (w : World) : Prop where
  r : w.heap[b]? = some (.cells #[.int .i64 a0, .int .i64 a1, .slice pa ma ca, .int .i64 I, .int .i64 J, .slice p n c, .int .i64 I, .int .i64 J, .slice pq n cq] 24 (0, 0))
  a : Rws 4 enC (.slice pa ma ca) A w
  e : Rws 4 enC (.slice p n c) E w
  q : Rws 4 enC (.slice pq n cq) Q w
theorem Tri1.gr {b : Nat} {a0 a1 I J : Int} {ma n : Nat} {A E Q : List En} {pa p pq : Option Addr} {ca c cq : Nat} {w x : World} (h : Tri1 b a0 a1 I J ma n A E Q pa p pq ca c cq w) (hg : Gr w x) : Tri1 b a0 a1 I J ma n A E Q pa p pq ca c cq x :=
  ⟨hg.block h.r, h.a.gr hg, h.e.gr hg, h.q.gr hg⟩
def Tr1V (a0 a1 I J : Int) (ma n : Nat) (A E Q : List En) (p pq : Option Addr) (c cq : Nat) (v : Value) (w : World) : Prop := ∃ b pa ca, v = .slice (some ⟨b, 0, none⟩) 3 3 ∧ Tri1 b a0 a1 I J ma n A E Q pa p pq ca c cq w
theorem Tr1V.stb (a0 a1 I J : Int) (ma n : Nat) (A E Q : List En) (p pq : Option Addr) (c cq : Nat) : Stb (Tr1V a0 a1 I J ma n A E Q p pq c cq) := fun _ _ _ hg ⟨b, pa, ca, h1, h2⟩ => ⟨b, pa, ca, h1, h2.gr hg⟩
set_option maxRecDepth 100000 in
set_option maxHeartbeats 4000000 in
theorem matchm_any (a0 a1 : Int) (va : Value) (la : List En) (vp : Value) (lp0 : List ByteArray) (vf : Value) (lf : List Int) (v : Value) (l : List ByteArray) (id ver which : Int) (oth : En) (w : World) (ha : PkIn va la w) (hp : StrsIn vp lp0 w) (hpl : lp0.length ≤ 9223372036854775806) (hps : ∀ x ∈ lp0, x.size ≤ 140737488355000) (hf : Rws 1 inC vf lf w) (_hfl : lf.length ≤ 9223372036854775807) (_hfr : ∀ x ∈ lf, I64 x) (hv : StrsIn v l w) (hl : l.length ≤ 9223372036854775806) (hs : ∀ x ∈ l, x.size ≤ 140737488355000) (hi : I64 id) (hj : I64 ver) (hwh : I64 which) (ho : EnIn oth) (hT : Tab w) :
    Calls Tryz.prog 3 #[.agg #[.int .i64 a0, .int .i64 a1, va], vp, vf, v, .int .i64 id, .int .i64 ver, .int .i64 which, .agg #[.string oth.path, .int .i64 oth.fmt, .int .i64 oth.len, .string oth.dig]] w fun e w' => e = .returned (.bool true) ∧ Gr w w' := by
  obtain ⟨pA, cA, rfl⟩ := ha.1.shape
  obtain ⟨pf, cf, rfl⟩ := hf.shape
  have HT := Lib.hid hT
  have HMd := Lib.hid (fun (y : World) (hg : Gr w y) => made2_any v l id ver y (hv.gr hg) hl hs hi hj (hT.gr hg))
  obtain ⟨ma, FA, -, hFA, hma, hFAs, hfa⟩ := few2_any a0 a1 _ la w ha
  have HFa := Lib.hid hfa
  have HsA := Lib.hid (And.intro hFA (And.intro hma hFAs))
  have HOth := Lib.hid (fun (y : World) => entry_any oth y ho.1 ho.2.2.2)
  obtain ⟨oP, oF, oN, oD⟩ := oth
  simp only at HOth ⊢
  obtain ⟨o, hoo⟩ : ∃ o, cutEn ⟨oP, oF, oN, oD⟩ = o := ⟨_, rfl⟩
  have hos : o.path.size ≤ 70 := by rw [← hoo]; show (cutD oP 70).size ≤ 70; rw [cutD_size]; omega
  rw [hoo] at HOth
  have Hos := Lib.hid hos
  have HWh := Lib.hid hwh
  have HC1 : Hid (∀ y, Gr w y → Calls Tryz.prog 14 #[vp, .int .i64 66, .int .i64 70] y fun e w' => ∃ u, e = .returned u ∧ OwnL y.heap.size (cutsD lp0 66 70) u w' ∧ Gr y w') := Lib.hid (fun y hg => cut_any vp lp0 66 70 y (hp.gr hg).rws hpl (by decide) (by decide) (fun x hx => Nat.le_trans (hps x hx) (by decide)))
  have HC2 : Hid (∀ y, Gr w y → Calls Tryz.prog 14 #[v, .int .i64 66, .int .i64 70] y fun e w' => ∃ u, e = .returned u ∧ OwnL y.heap.size (cutsD l 66 70) u w' ∧ Gr y w') := Lib.hid (fun y hg => cut_any v l 66 70 y (hv.gr hg).rws hl (by decide) (by decide) (fun x hx => Nat.le_trans (hs x hx) (by decide)))
  have hz1 := cutsD_sizes lp0 66 70
  have hz2 := cutsD_sizes l 66 70
  obtain ⟨LP, hLP⟩ : ∃ z, cutsD lp0 66 70 = z := ⟨_, rfl⟩
  obtain ⟨LS, hLS⟩ : ∃ z, cutsD l 66 70 = z := ⟨_, rfl⟩
  rw [hLP] at HC1 hz1
  rw [hLS] at HC2 hz2
  have HZ1 := Lib.hid hz1
  have HZ2 := Lib.hid hz2
  have HFm := Lib.hid (fun y (hg : Gr w y) => ((hf.gr hg).front (min lf.length 66) (Nat.min_le_left _ _)).1)
  have hmn : min (lf.length : Int) 66 = ((min lf.length 66 : Nat) : Int) := by omega
  have hmc : ((min lf.length 66 : Nat) : Int) ≤ (cf : Int) := by
    have h1 : lf.length ≤ cf ∨ lf = [] := by
      rcases hf with ⟨h, -⟩ | ⟨g, off, c', he, h1, -⟩
      · exact .inr h
      · injection he with e1 e2 e3; subst e3; exact .inl h1
    rcases h1 with h1 | h1
    · omega
    · rw [h1]; simp
  obtain ⟨nf, hnf⟩ : ∃ z, lf.length = z := ⟨_, rfl⟩
  rw [hnf] at hmn hmc HFm ⊢
  obtain ⟨LF, hLF⟩ : ∃ z, lf.take (min nf 66) = z := ⟨_, rfl⟩
  rw [hLF] at HFm
  clear hv hs hT hi hj ha hfa hFA hma hFAs ho hoo hos hwh hp hps hLP hLS hz1 hz2 hf hLF
  go_enter Tryz.func3, Tryz.ntmps3
  go_upto_region 1 with fail
  have hX : ∃ W, (w.alloc (.cells #[.int .i64 a0, .int .i64 a1, .slice pA la.length cA] 24)).alloc (.cells #[.string oP, .int .i64 oF, .int .i64 oN, .string oD] 28) = W ∧ Gr w W ∧
      Box2 (w.heap.size) (w.heap.size + 1) #[.int .i64 a0, .int .i64 a1, .slice pA la.length cA] #[.string oP, .int .i64 oF, .int .i64 oN, .string oD] W := by
    refine ⟨_, rfl, (Gr.alloc _ _).trans (Gr.alloc _ _), (Gr.alloc _ _).block (heap_alloc_new _ _), ?_⟩
    have := heap_alloc_new (w.alloc (.cells #[.int .i64 a0, .int .i64 a1, .slice pA la.length cA] 24)) (.cells #[.string oP, .int .i64 oF, .int .i64 oN, .string oD] 28)
    rw [World.size_alloc] at this; exact this
  obtain ⟨W0, hW0, hG0, hBx⟩ := hX
  rw [hW0]
  obtain ⟨x1, hx1⟩ : ∃ b, w.heap.size = b := ⟨_, rfl⟩
  rw [hx1] at hBx
  simp only [hx1]
  obtain ⟨x3, hx3⟩ : ∃ b, x1 + 1 = b := ⟨_, rfl⟩
  rw [hx3] at hBx
  simp only [hx3]
  have HG0 := Lib.hid hG0
  have HBx := Lib.hid hBx
  clear hW0 hG0 hBx hx1 hx3
  go_wp2_with fail
  refine (sane_any W0 (HT.out.gr HG0.out)).mono ?_
  rintro e w1 ⟨rfl, hg1⟩
  have HG1 := Lib.hid (HG0.out.trans hg1)
  replace HBx := Lib.hid (HBx.out.gr hg1)
  clear hg1 HG0
  go_wp2_with fail
  refine (HC1.out w1 HG1.out).mono ?_
  rintro e w2 ⟨u1, rfl, ho1, hg2⟩
  obtain ⟨p1, c1, rfl⟩ := ho1.strs.shape
  have HG2 := Lib.hid (HG1.out.trans hg2)
  have HP := Lib.hid ho1.strs
  replace HBx := Lib.hid (HBx.out.gr hg2)
  clear hg2 ho1 HG1 HC1
  go_upto_region 4 with fail
  clear hmn hmc
  go_wp2_with fail
  refine (HC2.out w2 HG2.out).mono ?_
  rintro e w3 ⟨u2, rfl, ho2, hg3⟩
  obtain ⟨p2, c2, rfl⟩ := ho2.strs.shape
  have HG3 := Lib.hid (HG2.out.trans hg3)
  replace HP := Lib.hid (HP.out.gr hg3)
  have HS := Lib.hid ho2.strs
  replace HBx := Lib.hid (HBx.out.gr hg3)
  clear hg3 ho2 HG2 HC2
  have HMk := Lib.hid (make_any id ver _ _ _ LP LF LS w3 HP.out (HFm.out w3 HG3.out) HS.out (by have := HZ1.out.1; omega) (by have := HZ2.out.1; omega) (fun x hx => Nat.le_trans (HZ1.out.2 x hx) (by decide)) (fun x hx => Nat.le_trans (HZ2.out.2 x hx) (by decide)) (HT.out.gr HG3.out))
  have HMr := Lib.hid (fun (y : World) (hg : Gr w3 y) => makeR_any id ver _ _ _ LP LF LS y (HP.out.gr hg) (HFm.out y (HG3.out.trans hg)) (HS.out.gr hg) (by have := HZ1.out.1; omega) (by have := HZ2.out.1; omega) (fun x hx => Nat.le_trans (HZ1.out.2 x hx) (by decide)) (fun x hx => Nat.le_trans (HZ2.out.2 x hx) (by decide)))
  obtain ⟨B, hB⟩ : ∃ z, mkOk id ver LP LF LS = z := ⟨_, rfl⟩
  have hEn : (entsD LP LF LS LS.length).length ≤ 66 := by rw [entsD_len]; exact HZ2.out.1
  obtain ⟨EN, hEN⟩ : ∃ z, entsD LP LF LS LS.length = z := ⟨_, rfl⟩
  rw [hB, hEN] at HMk HMr
  rw [hEN] at hEn
  clear hB hEN
  go_wp2_with fail
  refine HMk.out.mono ?_
  rintro e w4 ⟨u4, rfl, ho4, hg4⟩
  have hR4 := own_rws (l := mkL B EN) enC_len ho4
  obtain ⟨p4, c4, rfl⟩ := ho4.slice
  have HG4 := Lib.hid hg4
  have HR4 := Lib.hid hR4
  replace HBx := Lib.hid (HBx.out.gr hg4)
  obtain ⟨n4, hn4⟩ : ∃ z, (mkL B EN).length = z := ⟨_, rfl⟩
  rw [hn4] at HR4 ⊢
  have HN4 := Lib.hid (show (mkL B EN).length = n4 ∧ n4 ≤ 66 from ⟨hn4, by rw [← hn4]; unfold mkL; split; exact hEn; simp⟩)
  obtain ⟨i4, hi4⟩ : ∃ z, mkI B id = z := ⟨_, rfl⟩
  obtain ⟨j4, hj4⟩ : ∃ z, mkI B ver = z := ⟨_, rfl⟩
  obtain ⟨z4, hz4⟩ : ∃ z, mkE B = z := ⟨_, rfl⟩
  have HMq : Hid (∀ y, Gr w3 y → Calls Tryz.prog 16 #[.int .i64 id, .int .i64 ver, .slice p1 LP.length c1, .slice pf (min nf 66) cf, .slice p2 LS.length c2] y fun e w' => ∃ v, e = .returned (.tuple #[.agg #[.int .i64 i4, .int .i64 j4, v], .int .i64 z4]) ∧ Own y.heap.size 4 v n4 ((mkL B EN).flatMap enC) w' ∧ Gr y w') := Lib.hid (fun y hg => by
    have := HMr.out y hg
    unfold MkRes at this
    rw [hn4, hi4, hj4, hz4] at this
    exact this)
  rw [hi4, hj4, hz4]
  obtain ⟨L4, hL4⟩ : ∃ z, mkL B EN = z := ⟨_, rfl⟩
  rw [hL4] at HR4 HN4 HMq
  clear ho4 hR4 hg4 hn4 hi4 hj4 hz4 hL4 hEn HMk HMr
  go_upto_region 6 with fail
  obtain ⟨xa, hxa⟩ : ∃ b, w4.heap.size = b := ⟨_, rfl⟩
  have hrow := heap_alloc_new w4 (.cells #[.int .i64 i4, .int .i64 j4, .slice p4 n4 c4] 24)
  rw [hxa] at hrow
  simp only [hxa]
  have hg5 := Gr.alloc w4 (.cells #[.int .i64 i4, .int .i64 j4, .slice p4 n4 c4] 24)
  have HA5 : Hid (QAt xa i4 j4 n4 p4 c4 L4 _) := Lib.hid ⟨hrow, HR4.out.gr hg5⟩
  have HG5 := Lib.hid (HG4.out.trans hg5)
  replace HBx := Lib.hid (HBx.out.gr hg5)
  clear hxa hrow hg5 HG4 HR4
  generalize w4.alloc (.cells #[.int .i64 i4, .int .i64 j4, .slice p4 n4 c4] 24) = w5 at HA5 HG5 HBx ⊢
  go_wp2_with fail
  refine (HMq.out w5 HG5.out).mono ?_
  rintro e w6 ⟨u6, rfl, ho6, hg6⟩
  have hR6 : Rws 4 enC u6 L4 w6 := own_rws (l := L4) enC_len (by rw [HN4.out.1]; exact ho6)
  obtain ⟨p6, c6, rfl⟩ := ho6.slice
  replace HA5 := Lib.hid (HA5.out.gr hg6)
  have HG6 := Lib.hid (HG5.out.trans hg6)
  replace HBx := Lib.hid (HBx.out.gr hg6)
  have HR6 := Lib.hid hR6
  clear ho6 hR6 hg6 HG5 HMq
  go_upto_region 7 with fail
  obtain ⟨xb, hxb⟩ : ∃ b, w6.heap.size = b := ⟨_, rfl⟩
  have hrow := heap_alloc_new w6 (.cells #[.int .i64 i4, .int .i64 j4, .slice p6 n4 c6] 24)
  rw [hxb] at hrow
  simp only [hxb]
  have hg7 := Gr.alloc w6 (.cells #[.int .i64 i4, .int .i64 j4, .slice p6 n4 c6] 24)
  have HB7 : Hid (QAt xb i4 j4 n4 p6 c6 L4 _) := Lib.hid ⟨hrow, HR6.out.gr hg7⟩
  have HG7 := Lib.hid (HG3.out.trans (HG6.out.trans hg7))
  replace HA5 := Lib.hid (HA5.out.gr hg7)
  replace HBx := Lib.hid (HBx.out.gr hg7)
  clear hxb hrow hg7 HG6 HR6 HP HS HG3 HFm
  generalize w6.alloc (.cells #[.int .i64 i4, .int .i64 j4, .slice p6 n4 c6] 24) = w7 at HA5 HB7 HG7 HBx ⊢
  go_wp2_with fail
  refine (HMd.out w7 HG7.out).mono ?_
  rintro e w2 ⟨I, J, n, E, P, S, p, pp, ps, c, cp, cs, rfl, hF, hR, hP, hS, -, hg2⟩
  have HF := Lib.hid hF
  have HM0 := Lib.hid (MadAt.start (I := I) (J := J) (n := n) (E := E) (p := p) (c := c) (HG7.out.trans hg2) hR hP.strs hS.strs)
  replace HBx := Lib.hid ((HBx.out.gr hg2).gr (Gr.alloc w2 (.cells #[.int .i64 I, .int .i64 J, .slice p n c] 24)))
  replace HA5 := Lib.hid ((HA5.out.gr hg2).gr (Gr.alloc w2 (.cells #[.int .i64 I, .int .i64 J, .slice p n c] 24)))
  replace HB7 := Lib.hid ((HB7.out.gr hg2).gr (Gr.alloc w2 (.cells #[.int .i64 I, .int .i64 J, .slice p n c] 24)))
  clear hF hR hP hS hg2 HG7 HMd
  go_upto_region 8 with fail
  obtain ⟨b, hb⟩ : ∃ b, w2.heap.size = b := ⟨_, rfl⟩
  simp only [hb] at HM0 ⊢
  have HM := HM0
  clear HM0 hb
  generalize w2.alloc (.cells #[.int .i64 I, .int .i64 J, .slice p n c] 24) = w8 at HM HBx HA5 HB7 ⊢
  have HSm := Lib.hid (sameR_any i4 j4 i4 j4 _ _ L4 L4 w8 HA5.out.2 HB7.out.2 (by rw [HN4.out.1]; have := HN4.out.2; omega))
  rw [show sameD i4 j4 L4 i4 j4 L4 = true by unfold sameD; simp] at HSm
  have n0 : ((n : Int) == 0) = false := by rw [beq_eq_false_iff_ne]; have := HF.out.bounds; omega
  obtain ⟨k0, k1, k2⟩ := row3 HA5.out.1
  obtain ⟨l0, l1, l2⟩ := row3 HB7.out.1
  go_wp2_with fail
  clear k0 k1 k2 l0 l1 l2
  refine HSm.out.mono ?_
  rintro e w3 ⟨rfl, hg9⟩
  replace HM := Lib.hid (HM.out.gr hg9)
  replace HBx := Lib.hid (HBx.out.gr hg9)
  clear hg9 HSm HA5 HB7 HN4
  obtain ⟨k0, k1, k2⟩ := row3 HM.out.r
  go_upto_region 10 with fail
  clear k0 k1 k2 n0
  have hn := HF.out.bounds
  obtain ⟨mq, FQ, hfq1, hFQ, hmq, hFQs, hfq⟩ := few2_any I J _ E w3 ⟨HM.out.e, fun x hx => by have := HF.out.eSmall x hx; omega⟩
  obtain rfl : n = mq := by rw [← hFQ, ← hfq1]; unfold fewL; rw [List.length_map, List.length_take, HF.out.eLen]; omega
  obtain ⟨k0, k1, k2⟩ := row3 HM.out.r
  go_wp2_with fail
  clear k0 k1 k2
  refine (hfq w3 (Gr.refl _)).mono ?_
  rintro e w4 ⟨u4, rfl, hg4, q, d, rfl, hO4, hR4⟩
  obtain ⟨gq, oq, d', he, hgq, hnd, hdm⟩ := hO4.shape hn.1
  injection he with he1 he2 he3
  subst he1 he3
  go_upto_region 11 with fail
  obtain ⟨bq, hbq⟩ : ∃ b, w4.heap.size = b := ⟨_, rfl⟩
  have hrow := heap_alloc_new w4 (.cells #[.int .i64 I, .int .i64 J, .slice (some ⟨gq, oq, none⟩) n d] 24)
  have hlt4 : gq < bq := by
    obtain ⟨y, hy⟩ : ∃ y, FQ[0]? = some y := ⟨_, List.getElem?_eq_getElem (by omega)⟩
    obtain ⟨g', o', he', hc'⟩ := hR4.at2 hFQ hy
    injection he' with he'; injection he' with h1 h2
    have := World.block_lt_of_cell? w4 _ (hc' 0 _ rfl)
    simp at this
    omega
  rw [hbq] at hrow
  simp only [hbq]
  have hg35 := hg4.trans (Gr.alloc w4 (.cells #[.int .i64 I, .int .i64 J, .slice (some ⟨gq, oq, none⟩) n d] 24))
  have hO5 := hO4.gr (Gr.alloc w4 (.cells #[.int .i64 I, .int .i64 J, .slice (some ⟨gq, oq, none⟩) n d] 24))
  generalize w4.alloc (.cells #[.int .i64 I, .int .i64 J, .slice (some ⟨gq, oq, none⟩) n d] 24) = w5 at hrow hg35 hO5 ⊢
  have HO5 := Lib.hid hO5
  have HG5 := Lib.hid hg35
  have HR5 := Lib.hid hrow
  have Hq := Lib.hid (And.intro hlt4 hgq)
  have HQs := Lib.hid (And.intro hFQ (And.intro hFQs hnd))
  obtain ⟨kk, hkk⟩ : ∃ kk, pickD which n = kk := ⟨_, rfl⟩
  have hkn : kk < n := by rw [← hkk]; exact pickD_lt which n hn.1
  have HPk := Lib.hid (fun (y : World) => pick_any which n y HWh.out hn.1 (by omega))
  rw [hkk] at HPk
  clear hrow hg35 hO5 hg4 hO4 hR4 hbq hlt4 hgq hkk hfq hfq1 hFQ hmq hFQs hnd hdm
  have S2 : ∀ q : GrS w5.drew, q.w.cell? ⟨bq, 2, none⟩ = some (.slice (some ⟨gq, oq, none⟩) n d) := fun q => q.h.cell (w := w5.drew) (row3 HR5.out).2.2
  have X0 : ∀ q : GrS w5.drew, q.w.cell? ⟨x3, 0, none⟩ = some (.string oP) := fun q => q.h.cell (w := w5.drew) (HG5.out.cell (row4 HBx.out.2).1)
  have X1 : ∀ q : GrS w5.drew, q.w.cell? ⟨x3, 1, none⟩ = some (.int .i64 oF) := fun q => q.h.cell (w := w5.drew) (HG5.out.cell (row4 HBx.out.2).2.1)
  have X2 : ∀ q : GrS w5.drew, q.w.cell? ⟨x3, 2, none⟩ = some (.int .i64 oN) := fun q => q.h.cell (w := w5.drew) (HG5.out.cell (row4 HBx.out.2).2.2.1)
  have X3 : ∀ q : GrS w5.drew, q.w.cell? ⟨x3, 3, none⟩ = some (.string oD) := fun q => q.h.cell (w := w5.drew) (HG5.out.cell (row4 HBx.out.2).2.2.2)
  have i0 : (0 : Int) ≤ (kk : Int) := by omega
  have i1 : (kk : Int) < (n : Int) := by omega
  refine region_grow 10 155 (by kernel_rfl) rfl (by kernel_rfl) rfl rfl ?_
  simp only [List.take_succ_cons, List.take_zero, List.drop_succ_cons, List.drop_zero]
  refine seg 6 rfl rfl rfl rfl ?_
  simp only [List.take_succ_cons, List.take_zero, List.drop_succ_cons, List.drop_zero]
  repeat (go_big_quiet_step (fail))
  refine wpQuiet_nil ?_
  intro _
  refine grow_det (v := .int .i64 (kk : Int)) rfl rfl rfl rfl rfl ?_ ?_
  · intro w1 hG
    go_simp
    refine (HPk.out w1).mono ?_
    rintro e w' ⟨rfl, rfl⟩
    exact ⟨rfl, Gr.refl _⟩
  simp only [Act.put, List.setIfInBounds_toArray, List.set_cons_zero, List.set_cons_succ]
  refine seg 1 rfl rfl rfl rfl ?_
  simp only [List.take_succ_cons, List.take_zero, List.drop_succ_cons, List.drop_zero]
  repeat (go_big_quiet_step (fail))
  refine wpQuiet_nil ?_
  intro _
  refine grow_det (v := .agg (enC o).toArray) rfl rfl rfl rfl rfl ?_ ?_
  · intro w1 hG
    go_simp
    refine (HOth.out w1).mono ?_
    rintro e w' ⟨rfl, hb⟩
    exact ⟨rfl, hb⟩
  simp only [Act.put, List.setIfInBounds_toArray, List.set_cons_zero, List.set_cons_succ]
  refine seg 1 rfl rfl rfl rfl ?_
  simp only [List.take_succ_cons, List.take_zero, List.drop_succ_cons, List.drop_zero]
  repeat (go_big_quiet_step (fail))
  refine wpQuiet_nil ?_
  intro _
  refine grow_end0 rfl rfl ?_
  intro w6 hG
  have hg56 := (Gr.drew w5).trans hG
  have HG6 := Lib.hid (HG5.out.trans hg56)
  have HO6 := Lib.hid (HO5.out.gr hg56)
  have HR6 := Lib.hid (hg56.block HR5.out)
  have HTh := Lib.hid (HO6.out.there kk hkn)
  clear S2 X0 X1 X2 X3 hG hg56 HG5 HO5 HR5
  go_upto_region 12 with ((with_reducible show wpList _ _ _ (⟨none, .store 28 _ _, _, _, _, _⟩ :: _) _ _); refine wpList_store_mid rfl 28 (.tmp 95) (.tmp 94) rfl gq (oq + kk * 4) (enC o).toArray rfl rfl HTh.out (infoEn_size Tryz.prog rfl) (all_oneCell_toArray (enC_one o)) ?_)
  simp only [Act.put]
  obtain ⟨hP1, hP2, hP3⟩ := own_put HO6.out HQs.out.1 kk hkn o
  have hgs : Gr w3 (w6.setCells gq (oq + kk * 4) (enC o)) := gr_step HG6.out (Gr.refl _) hP3 (fun g e => by cases e; exact Hq.out.2)
  have hrw := hP3.block HR6.out (by have := Hq.out.1; simp; omega)
  obtain ⟨Q, hQ⟩ : ∃ Q, FQ.set kk o = Q := ⟨_, rfl⟩
  have HQf : Hid (Q.length = n ∧ ∀ x ∈ Q, x.path.size ≤ 70) := Lib.hid (by
    rw [← hQ]
    refine ⟨by rw [List.length_set]; exact HQs.out.1, fun x hx => ?_⟩
    rcases List.mem_or_eq_of_mem_set hx with h | rfl
    · exact (HQs.out.2.1 x h).1
    · exact Hos.out)
  rw [hQ] at hP2
  replace HM := Lib.hid (HM.out.gr hgs)
  replace HBx := Lib.hid (HBx.out.gr hgs)
  have HQ : Hid (QAt bq I J n (some ⟨gq, oq, none⟩) d Q _) := Lib.hid ⟨hrw, hP2⟩
  clear hP1 hP2 hP3 hgs hrw hQ HG6 HO6 HR6 HTh HQs Hq hkn i0 i1 HPk Hos HOth HWh
  generalize w6.setCells gq (oq + kk * 4) (enC o) = w7 at HM HBx HQ ⊢
  have S0 : ∀ q : GrS w7.drew, q.w.cell? ⟨b, 0, none⟩ = some (.int .i64 I) := fun q => q.h.cell (w := w7.drew) (row3 HM.out.r).1
  have S1 : ∀ q : GrS w7.drew, q.w.cell? ⟨b, 1, none⟩ = some (.int .i64 J) := fun q => q.h.cell (w := w7.drew) (row3 HM.out.r).2.1
  have S2 : ∀ q : GrS w7.drew, q.w.cell? ⟨b, 2, none⟩ = some (.slice p n c) := fun q => q.h.cell (w := w7.drew) (row3 HM.out.r).2.2
  have Q0 : ∀ q : GrS w7.drew, q.w.cell? ⟨bq, 0, none⟩ = some (.int .i64 I) := fun q => q.h.cell (w := w7.drew) (row3 HQ.out.1).1
  have Q1 : ∀ q : GrS w7.drew, q.w.cell? ⟨bq, 1, none⟩ = some (.int .i64 J) := fun q => q.h.cell (w := w7.drew) (row3 HQ.out.1).2.1
  have Q2 : ∀ q : GrS w7.drew, q.w.cell? ⟨bq, 2, none⟩ = some (.slice (some ⟨gq, oq, none⟩) n d) := fun q => q.h.cell (w := w7.drew) (row3 HQ.out.1).2.2
  have A0 : ∀ q : GrS w7.drew, q.w.cell? ⟨x1, 0, none⟩ = some (.int .i64 a0) := fun q => q.h.cell (w := w7.drew) (row3 HBx.out.1).1
  have A1 : ∀ q : GrS w7.drew, q.w.cell? ⟨x1, 1, none⟩ = some (.int .i64 a1) := fun q => q.h.cell (w := w7.drew) (row3 HBx.out.1).2.1
  have A2 : ∀ q : GrS w7.drew, q.w.cell? ⟨x1, 2, none⟩ = some (.slice pA la.length cA) := fun q => q.h.cell (w := w7.drew) (row3 HBx.out.1).2.2
  refine region_grow 7 155 (by kernel_rfl) rfl (by kernel_rfl) rfl rfl ?_
  simp only [List.take_succ_cons, List.take_zero, List.drop_succ_cons, List.drop_zero]
  refine seg 1 rfl rfl rfl rfl ?_
  simp only [List.take_succ_cons, List.take_zero, List.drop_succ_cons, List.drop_zero]
  repeat (go_big_quiet_step (fail))
  refine wpQuiet_nil ?_
  intro _
  refine grow_open (PkR a0 a1 ma FA) rfl rfl rfl rfl (PkR.stb _ _ _ _) (fun w1 hG => ?_) ?_
  · go_simp
    refine (HFa.out w1 (HM.out.g.trans ((Gr.drew w7).trans hG))).mono ?_
    rintro e w' ⟨u, rfl, hg, h⟩
    exact ⟨u, rfl, hg, h.rws⟩
  refine seg 2 rfl rfl rfl rfl ?_
  simp only [List.take_succ_cons, List.take_zero, List.drop_succ_cons, List.drop_zero]
  repeat (go_big_quiet_step (fail))
  refine wpQuiet_nil ?_
  intro _
  refine grow_open1 97 (Tr1V a0 a1 I J ma n FA E Q p (some ⟨gq, oq, none⟩) c d) rfl rfl (by decide) rfl rfl rfl (by decide) rfl rfl (Tr1V.stb _ _ _ _ _ _ _ _ _ _ _ _ _) (fun w1 u hG hu => ?_) ?_
  · obtain ⟨q1, d1, rfl, h1⟩ := hu
    simp only [Act.put, List.setIfInBounds_toArray, List.set_cons_zero, List.set_cons_succ]
    have hE := HM.out.e.gr ((Gr.drew w7).trans hG)
    have hQ := HQ.out.2.gr ((Gr.drew w7).trans hG)
    go_simp
    exact ⟨_, q1, d1, rfl, heap_alloc_new _ _, h1.gr (Gr.alloc _ _), hE.gr (Gr.alloc _ _), hQ.gr (Gr.alloc _ _)⟩
  refine grow_det1 100 (v := .int .i64 3) rfl (by decide) rfl rfl rfl (by decide) rfl rfl rfl (fun w1 u hG hu => ?_) ?_
  · obtain ⟨b', q1, d1, rfl, -⟩ := hu
    simp only [Act.put, List.setIfInBounds_toArray, List.set_cons_zero, List.set_cons_succ]
    go_simp
  simp only [Act.put, List.setIfInBounds_toArray, List.set_cons_zero, List.set_cons_succ]
  refine seg 1 rfl rfl rfl rfl ?_
  simp only [List.take_succ_cons, List.take_zero, List.drop_succ_cons, List.drop_zero]
  repeat (go_big_quiet_step (fail))
  refine wpQuiet_nil ?_
  intro _
  refine grow_pop rfl (by decide) rfl (fun u100 => ?_)
  refine grow_pop rfl (by decide) rfl (fun u97 => ?_)
  refine grow_end0 rfl rfl (fun w8 hG g97 g100 => ?_)
  clear g97
  obtain ⟨b9, pa, ca, rfl, h9⟩ := g100
  simp only [Act.put, List.setIfInBounds_toArray, List.set_cons_zero, List.set_cons_succ]
  have H9 := Lib.hid h9
  replace HM := Lib.hid (HM.out.gr ((Gr.drew w7).trans hG))
  clear h9 hG S0 S1 S2 Q0 Q1 Q2 A0 A1 A2 HFa HBx HQ
  go_wp2_with fail
  go_loopw [28, 29, 30, 31, 32, 102] (fun v28 v29 v30 v31 v32 v102 W => ∃ (k : Nat), k ≤ 3 ∧ v102 = .int .i64 (k : Int) ∧ Hid (Tri1 b9 a0 a1 I J ma n FA E Q pa p (some ⟨gq, oq, none⟩) ca c d W) ∧ Hid (MadAt w b I J n E P S p pp ps c cp cs W)) (fun _ _ _ _ _ v102 _ => 3 - (intOf v102).toNat)
  case atStart => exact ⟨0, by omega, rfl, H9, HM⟩
  clear H9 HM
  case round =>
    obtain ⟨k, hk, rfl, H9, HM⟩ := hrel
    by_cases hlt : k < 3
    · have ht : decide (k < 3) = true := decide_eq_true hlt
      have ht' : decide ((k : Int) < 3) = true := decide_eq_true (by omega)
      obtain ⟨xi, xj, px, mx, cx, X, e0, e1, e2, hRX, hXf⟩ : ∃ xi xj px mx cx X, wr.cell? ⟨b9, k * 3, none⟩ = some (.int .i64 xi) ∧ wr.cell? ⟨b9, k * 3 + 1, none⟩ = some (.int .i64 xj) ∧ wr.cell? ⟨b9, k * 3 + 2, none⟩ = some (.slice px mx cx) ∧ Rws 4 enC (.slice px mx cx) X wr ∧ (X.length = mx ∧ mx ≤ 66 ∧ ∀ x ∈ X, x.path.size ≤ 70) := by
        have hc := row_at H9.out.r
        have hA : FA.length = ma ∧ ma ≤ 66 ∧ ∀ x ∈ FA, x.path.size ≤ 70 := ⟨HsA.out.1, HsA.out.2.1, fun x hx => (HsA.out.2.2 x hx).1⟩
        have hE : E.length = n ∧ n ≤ 66 ∧ ∀ x ∈ E, x.path.size ≤ 70 := ⟨HF.out.eLen, by omega, fun x hx => by rw [(HF.out.eSmall x hx).1]; decide⟩
        have hQ : Q.length = n ∧ n ≤ 66 ∧ ∀ x ∈ Q, x.path.size ≤ 70 := ⟨HQf.out.1, by omega, HQf.out.2⟩
        match k, hlt with
        | 0, _ => exact ⟨_, _, _, _, _, FA, hc 0 _ rfl, hc 1 _ rfl, hc 2 _ rfl, H9.out.a, hA⟩
        | 1, _ => exact ⟨_, _, _, _, _, E, hc 3 _ rfl, hc 4 _ rfl, hc 5 _ rfl, H9.out.e, hE⟩
        | 2, _ => exact ⟨_, _, _, _, _, Q, hc 6 _ rfl, hc 7 _ rfl, hc 8 _ rfl, H9.out.q, hQ⟩
      have HRX := Lib.hid hRX
      have HXf := Lib.hid hXf
      clear hRX hXf
      have i0 : (0 : Int) ≤ (k : Int) := by omega
      have i1 : (k : Int) < 3 := by omega
      go_upto_region 15 with fail
      have hrow := heap_alloc_new wr (.cells #[.int .i64 xi, .int .i64 xj, .slice px mx cx] 24)
      obtain ⟨bp, hbp⟩ : ∃ b, wr.heap.size = b := ⟨_, rfl⟩
      rw [hbp] at hrow
      simp only [hbp]
      have hga := Gr.alloc wr (.cells #[.int .i64 xi, .int .i64 xj, .slice px mx cx] 24)
      replace H9 := Lib.hid (H9.out.gr hga)
      replace HM := Lib.hid (HM.out.gr hga)
      replace HRX := Lib.hid (HRX.out.gr hga)
      have HP := Lib.hid hrow
      clear hrow hga hbp e0 e1 e2
      generalize wr.alloc (.cells #[.int .i64 xi, .int .i64 xj, .slice px mx cx] 24) = wa at H9 HM HRX HP ⊢
      have hXl : X.length ≤ 9223372036854775806 := by rw [HXf.out.1]; have := HXf.out.2.1; omega
      have hXp : ∀ x ∈ X, x.path.size ≤ 9223372036854775807 := fun x hx => Nat.le_trans (HXf.out.2.2 x hx) (by decide)
      have HEn := Lib.hid (encode_any xi xj _ X wa HRX.out hXl hXp)
      have HEr := Lib.hid (fun (y : World) (hg : Gr wa y) => encodeR_any xi xj _ X y (HRX.out.gr hg) hXl hXp)
      have HVa := Lib.hid (fun (y : World) (hg : Gr wa y) => valid_any xi xj _ X y (HRX.out.gr hg) hXl hXp)
      have HVr := Lib.hid (fun (y : World) (hg : Gr wa y) => validR_any xi xj _ X y (HRX.out.gr hg) hXl hXp)
      have HRm := Lib.hid (fun (y : World) (hg : Gr wa y) => rootM_any xi xj _ X y (HRX.out.gr hg) hXl hXp (HT.out.gr (HM.out.g.trans hg)))
      have HRr := Lib.hid (fun (y : World) (hg : Gr wa y) => rootX_any xi xj _ X y (HRX.out.gr hg) hXl hXp (HT.out.gr (HM.out.g.trans hg)))
      have HSm := Lib.hid (fun (y : World) (hg : Gr wa y) => same_any xi xj I J _ _ X E y (HRX.out.gr hg) (HM.out.e.gr hg) hXl)
      have HSr := Lib.hid (fun (y : World) (hg : Gr wa y) => sameR_any xi xj I J _ _ X E y (HRX.out.gr hg) (HM.out.e.gr hg) hXl)
      have HSx := Lib.hid (fun (y : World) (hg : Gr wa y) => same_any xi xj xi xj _ _ X X y (HRX.out.gr hg) (HRX.out.gr hg) hXl)
      rw [show sameD xi xj X xi xj X = true by unfold sameD; simp] at HSx
      obtain ⟨EB, hEB⟩ : ∃ z, encB xi xj X = z := ⟨_, rfl⟩
      obtain ⟨EE, hEE⟩ : ∃ z, encE xi xj X = z := ⟨_, rfl⟩
      obtain ⟨VB, hVB⟩ : ∃ z, validD xi xj X = z := ⟨_, rfl⟩
      obtain ⟨RB, hRB⟩ : ∃ z, rootP xi xj X = z := ⟨_, rfl⟩
      obtain ⟨SB, hSB⟩ : ∃ z, sameD xi xj X I J E = z := ⟨_, rfl⟩
      rw [hEB, hEE] at HEn HEr
      rw [hVB] at HVa HVr
      rw [hRB] at HRm HRr
      rw [hSB] at HSm HSr
      clear hXl hXp hEB hEE hVB hRB hSB
      obtain ⟨k0, k1, k2⟩ := row3 HP.out
      go_wp2_with fail
      clear k0 k1 k2
      refine HEn.out.mono ?_
      rintro e wb ⟨rfl, hgb⟩
      have HGb := Lib.hid hgb
      have HPb := Lib.hid (hgb.block HP.out)
      clear hgb HEn
      obtain ⟨k0, k1, k2⟩ := row3 HPb.out
      go_wp2_with fail
      clear k0 k1 k2
      refine (HEr.out wb HGb.out).mono ?_
      rintro e wc ⟨rfl, hgc⟩
      have HGc := Lib.hid (HGb.out.trans hgc)
      have HPc := Lib.hid (hgc.block HPb.out)
      clear hgc HEr HGb HPb
      have Z0 : ∀ q : GrS wc.drew, q.w.cell? ⟨bp, 0, none⟩ = some (.int .i64 xi) := fun q => q.h.cell (w := wc.drew) (row3 HPc.out).1
      have Z1 : ∀ q : GrS wc.drew, q.w.cell? ⟨bp, 1, none⟩ = some (.int .i64 xj) := fun q => q.h.cell (w := wc.drew) (row3 HPc.out).2.1
      have Z2 : ∀ q : GrS wc.drew, q.w.cell? ⟨bp, 2, none⟩ = some (.slice px mx cx) := fun q => q.h.cell (w := wc.drew) (row3 HPc.out).2.2
      have Z3 : ∀ q : GrS wc.drew, q.w.cell? ⟨b, 0, none⟩ = some (.int .i64 I) := fun q => q.h.cell (w := wc.drew) (HGc.out.cell (row3 HM.out.r).1)
      have Z4 : ∀ q : GrS wc.drew, q.w.cell? ⟨b, 1, none⟩ = some (.int .i64 J) := fun q => q.h.cell (w := wc.drew) (HGc.out.cell (row3 HM.out.r).2.1)
      have Z5 : ∀ q : GrS wc.drew, q.w.cell? ⟨b, 2, none⟩ = some (.slice p n c) := fun q => q.h.cell (w := wc.drew) (HGc.out.cell (row3 HM.out.r).2.2)
      go_upto_region 17 with fail
      refine region_grow 37 155 (by kernel_rfl) rfl (by kernel_rfl) rfl rfl ?_
      simp only [List.take_succ_cons, List.take_zero, List.drop_succ_cons, List.drop_zero]
      refine seg 10 rfl rfl rfl rfl ?_
      simp only [List.take_succ_cons, List.take_zero, List.drop_succ_cons, List.drop_zero]
      repeat (go_big_quiet_step (fail))
      refine wpQuiet_nil ?_
      intro _
      refine grow_det (v := .bool VB) rfl rfl rfl rfl rfl ?_ ?_
      · intro w1 hG
        go_simp
        refine (HVa.out w1 (HGc.out.trans ((Gr.drew wc).trans hG))).mono ?_
        rintro e w' ⟨rfl, hb⟩
        exact ⟨rfl, hb⟩
      simp only [Act.put, List.setIfInBounds_toArray, List.set_cons_zero, List.set_cons_succ]
      refine seg 1 rfl rfl rfl rfl ?_
      simp only [List.take_succ_cons, List.take_zero, List.drop_succ_cons, List.drop_zero]
      repeat (go_big_quiet_step (fail))
      refine wpQuiet_nil ?_
      intro _
      refine grow_det (v := .bool VB) rfl rfl rfl rfl rfl ?_ ?_
      · intro w1 hG
        go_simp
        refine (HVr.out w1 (HGc.out.trans ((Gr.drew wc).trans hG))).mono ?_
        rintro e w' ⟨rfl, hb⟩
        exact ⟨rfl, hb⟩
      simp only [Act.put, List.setIfInBounds_toArray, List.set_cons_zero, List.set_cons_succ]
      refine seg 4 rfl rfl rfl rfl ?_
      simp only [List.take_succ_cons, List.take_zero, List.drop_succ_cons, List.drop_zero]
      repeat (go_big_quiet_step (fail))
      refine wpQuiet_nil ?_
      intro _
      refine grow_det (v := .string RB) rfl rfl rfl rfl rfl ?_ ?_
      · intro w1 hG
        go_simp
        refine (HRm.out w1 (HGc.out.trans ((Gr.drew wc).trans hG))).mono ?_
        rintro e w' ⟨rfl, hb⟩
        exact ⟨rfl, hb⟩
      simp only [Act.put, List.setIfInBounds_toArray, List.set_cons_zero, List.set_cons_succ]
      refine seg 1 rfl rfl rfl rfl ?_
      simp only [List.take_succ_cons, List.take_zero, List.drop_succ_cons, List.drop_zero]
      repeat (go_big_quiet_step (fail))
      refine wpQuiet_nil ?_
      intro _
      refine grow_det (v := .string RB) rfl rfl rfl rfl rfl ?_ ?_
      · intro w1 hG
        go_simp
        refine (HRr.out w1 (HGc.out.trans ((Gr.drew wc).trans hG))).mono ?_
        rintro e w' ⟨rfl, hb⟩
        exact ⟨rfl, hb⟩
      simp only [Act.put, List.setIfInBounds_toArray, List.set_cons_zero, List.set_cons_succ]
      refine seg 5 rfl rfl rfl rfl ?_
      simp only [List.take_succ_cons, List.take_zero, List.drop_succ_cons, List.drop_zero]
      repeat (go_big_quiet_step (fail))
      refine wpQuiet_nil ?_
      intro _
      refine grow_det (v := .bool SB) rfl rfl rfl rfl rfl ?_ ?_
      · intro w1 hG
        go_simp
        refine (HSm.out w1 (HGc.out.trans ((Gr.drew wc).trans hG))).mono ?_
        rintro e w' ⟨rfl, hb⟩
        exact ⟨rfl, hb⟩
      simp only [Act.put, List.setIfInBounds_toArray, List.set_cons_zero, List.set_cons_succ]
      refine seg 2 rfl rfl rfl rfl ?_
      simp only [List.take_succ_cons, List.take_zero, List.drop_succ_cons, List.drop_zero]
      repeat (go_big_quiet_step (fail))
      refine wpQuiet_nil ?_
      intro _
      refine grow_det (v := .bool SB) rfl rfl rfl rfl rfl ?_ ?_
      · intro w1 hG
        go_simp
        refine (HSr.out w1 (HGc.out.trans ((Gr.drew wc).trans hG))).mono ?_
        rintro e w' ⟨rfl, hb⟩
        exact ⟨rfl, hb⟩
      simp only [Act.put, List.setIfInBounds_toArray, List.set_cons_zero, List.set_cons_succ]
      refine seg 5 rfl rfl rfl rfl ?_
      simp only [List.take_succ_cons, List.take_zero, List.drop_succ_cons, List.drop_zero]
      repeat (go_big_quiet_step (fail))
      refine wpQuiet_nil ?_
      intro _
      refine grow_det (v := .bool true) rfl rfl rfl rfl rfl ?_ ?_
      · intro w1 hG
        go_simp
        refine (HSx.out w1 (HGc.out.trans ((Gr.drew wc).trans hG))).mono ?_
        rintro e w' ⟨rfl, hb⟩
        exact ⟨rfl, hb⟩
      simp only [Act.put, List.setIfInBounds_toArray, List.set_cons_zero, List.set_cons_succ]
      refine seg 2 rfl rfl rfl rfl ?_
      simp only [List.take_succ_cons, List.take_zero, List.drop_succ_cons, List.drop_zero]
      repeat (go_big_quiet_step (fail))
      refine wpQuiet_nil ?_
      intro _
      refine grow_end0 rfl rfl ?_
      intro wd hG
      have hgb := HGc.out.trans ((Gr.drew wc).trans hG)
      replace H9 := Lib.hid (H9.out.gr hgb)
      replace HM := Lib.hid (HM.out.gr hgb)
      clear hgb hG Z0 Z1 Z2 Z3 Z4 Z5 HP HRX HGc HPc HVa HVr HRm HRr HSm HSr HSx
      go_wp2_with fail
      go_roundw
      case rel => exact ⟨k + 1, by omega, by go_num, H9, HM⟩
      case measure => simp [intOf]; omega
    · have ht : decide (k < 3) = false := decide_eq_false hlt
      have ht' : decide ((k : Int) < 3) = false := decide_eq_false (by omega)
      go_wp2_with fail
      go_ret
      exact ⟨rfl, HM.out.g⟩
end Go.Proofs.YtjnnhhengpinmaaGreatDoor
