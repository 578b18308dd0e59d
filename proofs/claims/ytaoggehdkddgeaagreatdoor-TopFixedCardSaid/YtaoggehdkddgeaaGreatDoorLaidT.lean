/- What the row's condition gives at TopFixed: the table of words lies in memory; the arguments; the frame of the law's proof. -/
import Derived.Test.YtaoggehdkddgeaaGreatDoorRows
import Derived.Test.YtaoggehdkddgeaaGreatDoorGNT
import Derived.Test.YtaoggehdkddgeaaGreatDoorGME5
import Derived.ProofKit
import Derived.LaidMore
import Derived.LaidSub
import Derived.Lay
import Derived.OpenShut
import Derived.ShutString
import Derived.SliceStrings
import Derived.Carry
import Derived.Stop.Joined
import Derived.Lib.LaidTab
import Derived.Deep.Slices
import Derived.ChangeArms
import Derived.WideShapes
import Derived.SizedLaws
namespace Go.Proofs.YtaoggehdkddgeaaGreatDoor
open Go Go.ChangeShapes Go.WideShapes Go.ChangeAt Go.RowKit
open Go.ChangeMaps (open_string shut_string)

theorem ownKn : ownKnob Tryz.prog.godebug = none := by kernel_rfl
theorem laidOutP : laidOutB Tryz.prog = true := by kernel_rfl
theorem gRound : Tryz.prog.globalNamed "evergreen/digest.round" = some 0 := by kernel_rfl
theorem tRound : (Tryz.prog.globals[0]?).map (·.type) = some 220 := by kernel_rfl
theorem cRound : Tryz.prog.cellsOf 220 = 64 := by kernel_rfl
theorem cU32 : Tryz.prog.cellsOf 95 = 1 := by kernel_rfl
theorem cInt : Tryz.prog.cellsOf 3 = 1 := by kernel_rfl
theorem cString : Tryz.prog.cellsOf 9 = 1 := by kernel_rfl
def laidL : List (String × DataW Unit) := [("unicode/utf8.acceptRanges", Rows.laid_unicode_utf8_acceptRanges), ("evergreen/digest.round", Rows.laid_evergreen_digest_round), ("unicode.CaseRanges", Rows.laid_unicode_CaseRanges), ("unicode/utf8.first", Rows.laid_unicode_utf8_first)]
theorem laid_is : (Rows.laid_evergreen_digest_round : DataW Unit) = Lib.tabData .u32 (kRound.map fun x : Nat => (x : Int)) := by kernel_rfl
theorem laid_one : (laidL.filter fun x => x.1 == "evergreen/digest.round") = [("evergreen/digest.round", Rows.laid_evergreen_digest_round)] := by
  unfold laidL
  rw [List.filter_cons_of_neg (by decide), List.filter_cons_of_pos (by decide), List.filter_cons_of_neg (by decide), List.filter_cons_of_neg (by decide)]
  rfl
set_option maxRecDepth 100000 in
theorem tab_of_laid {W : World} (hh : laidMetH Tryz.prog laidL W) : Tab W := by
  have h := laidMetH.filter (fun x => x.1 == "evergreen/digest.round") hh
  rw [laid_one] at h
  rw [MakeChecks.laidMetH_plain _ _ _ (by kernel_rfl)] at h
  have h' : laidMet Tryz.prog [("evergreen/digest.round", Lib.tabData .u32 (kRound.map fun x : Nat => (x : Int)))] W := by
    rw [← laid_is]; exact h
  have hT := Lib.tabIs_of_head gRound tRound Tryz.underlying220 Tryz.underlying95 cU32 cRound h'
  obtain ⟨ps, ⟨g0, t0, cs0, f0, p0, q0, hg0, ht0, hv0, hd0, hq, rfl⟩, _, hfr⟩ := h'
  obtain rfl := Option.some.inj (gRound.symm.trans hg0)
  have hcs : cs0 = ((kRound.map fun x : Nat => (x : Int)).map fun z => Value.int .u32 z).toArray := Option.some.inj (hv0.symm.trans hT)
  have hsz : 0 < cs0.size := by rw [hcs]; simp [kRound]
  obtain ⟨⟨c, t, hc⟩, _⟩ := hfr 0 0 (by
    refine List.mem_append_left _ (List.mem_append_left _ ?_)
    exact List.mem_map.2 ⟨0, List.mem_range.2 hsz, rfl⟩)
  refine ⟨t, ?_⟩
  have hv := hv0
  simp only [World.var?, hg0, Option.bind_some] at hv
  rw [hc] at hv
  simp at hv
  rw [hc, hv, hcs]
  simp [roundCells]
set_option maxRecDepth 100000 in
theorem laid_plain (W : World) : laidMetH Tryz.prog laidL W = laidMet Tryz.prog laidL W := MakeChecks.laidMetH_plain _ _ _ (by kernel_rfl)
set_option maxRecDepth 100000 in
theorem laid_met (os : Os) (args : Array Value) : laidMetH Tryz.prog laidL ((World.laidAll Tryz.prog os laidL).forCall (fun _ _ => 0) ⟨#[], args, []⟩).memory := by
  rw [laid_plain]
  exact laidMet_laidAll _ (by kernel_rfl) (by kernel_rfl)
theorem i64_of_wf {n : Int} (h : (Lit.int .i64 n).wf = true) : I64 n := by
  simp [Lit.wf, IntKind.min, IntKind.max, IntKind.signed, IntKind.bits] at h
  exact h
theorem mem_strs {H : Type} {P : Program} {e : TypeId} : ∀ {ss : List ByteArray} {s : ByteArray}, s ∈ ss → s.size ∈ DataW.weightsAll P e (strs ss : List (DataW H))
  | x :: r, s, h => by
    simp only [strs, List.map_cons, DataW.weightsAll, DataW.weights, List.mem_append, List.mem_singleton]
    rcases List.mem_cons.1 h with rfl | h
    · exact .inl rfl
    · exact .inr (mem_strs h)
theorem bString : Tryz.prog.bytesOf 9 = 16 := by kernel_rfl
set_option maxRecDepth 100000 in
/-- a slice of strings among the arguments; the form's own reach holds each of them -/
theorem strs_open {H : Type} {enc : TypeId × Value → H} {P : Program} {t e : TypeId} {W : World} {a0 : Option Addr} {len cap fuel : Nat} {d : DataW H × List MemPlace} (hs : P.underlying t = some (.slice e)) (he : P.underlying e = some .string) (hc : P.cellsOf e = 1) (hb : P.bytesOf e = 16)
    (hf : DataW.trod enc P W 0 (fun _ => true) true fuel t [.slice a0 len cap] = some d) : ∃ l, StrsIn (.slice a0 len cap) l W ∧ ((∀ n ∈ d.1.weights P t, n ≤ reachBytes) → l.length * 16 ≤ reachBytes ∧ ∀ x ∈ l, x.size ≤ reachBytes) := by
  rcases open_strings hs he hc hf with ⟨hcs, _⟩ | ⟨a, len', cap', ss, hcs, _, hl, hm, hz, hd, hcell, hws⟩
  · simp at hcs
    obtain ⟨rfl, rfl, rfl⟩ := hcs
    exact ⟨[], .inl (.inl ⟨rfl, rfl⟩), fun _ => by simp⟩
  · simp at hcs
    obtain ⟨rfl, rfl, rfl⟩ := hcs
    simp only [if_true] at hz
    by_cases h0 : len = 0
    · subst h0
      exact ⟨[], .inr ⟨rfl, _, _, rfl⟩, fun _ => by simp⟩
    · obtain ⟨b, off, spot⟩ := a
      have hspot : spot = none := by simpa [Addr.add] using World.cell?_spot (hcell 0 (by omega))
      subst hspot
      have hll : (ss.take len).length = len := by rw [List.length_take]; omega
      refine ⟨ss.take len, .inl (.inr ⟨b, off, cap, by rw [hll], by rw [hll]; exact hl, hm, ?_⟩), fun hw => ?_⟩
      · intro j x hj
        rw [List.getElem?_take] at hj
        split at hj
        · have hjs := (List.getElem?_eq_some_iff.1 hj).1
          have := hcell j hjs
          rw [Addr.add_mid, List.getD_eq_getElem?_getD, hj] at this
          exact this
        · cases hj
      · rw [hd] at hw
        simp only [DataW.weights, hs, hb] at hw
        refine ⟨?_, fun x hx => hw _ (List.mem_cons_of_mem _ (List.mem_append_left _ (mem_strs hx)))⟩
        refine Nat.le_trans (Nat.mul_le_mul_right 16 ?_) (hw _ (List.mem_cons_self ..))
        simp only [strs, List.length_map]
        exact Nat.le_add_right _ _
set_option maxRecDepth 100000 in
theorem open_strs {H : Type} {enc : TypeId × Value → H} {W : World} {base : Nat} {v : Value} {d : DataW H} {p : List MemPlace} (hok : Value.okWide Tryz.prog W .any base 27 v)
    (h : DataW.Trod enc Tryz.prog W 0 (fun _ => true) true 27 v d p) : ∃ l, StrsIn v l W ∧ ((∀ n ∈ d.weights Tryz.prog 27, n ≤ reachBytes) → l.length * 16 ≤ reachBytes ∧ ∀ x ∈ l, x.size ≤ reachBytes) := by
  have hs := Tryz.underlying27
  have he := Tryz.underlying9
  have hc := cString
  have hb := bString
  generalize Tryz.prog = P at *
  obtain ⟨a0, len, cap, rfl⟩ := okWide_slice hs hok
  obtain ⟨fuel, hf⟩ := h
  exact strs_open (d := (d, p)) hs he hc hb (by simpa [Value.cells] using hf)
theorem reach_len {n : Nat} (h : n * 16 ≤ reachBytes) : n ≤ 9223372036854775806 := by
  unfold reachBytes at h; omega
theorem reach_sizes {l : List ByteArray} (h : ∀ x ∈ l, x.size ≤ reachBytes) : ∀ x ∈ l, x.size ≤ 140737488355000 := fun x hx => Nat.le_trans (h x hx) (by decide)
theorem reach_str {H : Type} {P : Program} {t : TypeId} {s : ByteArray} (h : ∀ n ∈ DataW.weights P t (.lit (.string s.data.toList) : DataW H), n ≤ reachBytes) : s.size ≤ 140737488355000 :=
  Nat.le_trans (h s.size (by simp only [DataW.weights, List.mem_singleton]; rfl)) (by decide)
theorem list_of {α : Type} {R : Nat → α → Prop} : ∀ n : Nat, (∀ i, i < n → ∃ x, R i x) → ∃ l : List α, l.length = n ∧ ∀ i x, l[i]? = some x → R i x
  | 0, _ => ⟨[], rfl, fun i x h => by simp at h⟩
  | n + 1, h => by
    obtain ⟨l, hl, hr⟩ := list_of n fun i hi => h i (by omega)
    obtain ⟨y, hy⟩ := h n (by omega)
    refine ⟨l ++ [y], by simp [hl], fun i x hx => ?_⟩
    by_cases hi : i < l.length
    · rw [List.getElem?_append_left hi] at hx; exact hr i x hx
    · rw [List.getElem?_append_right (by omega)] at hx
      have : i = n := by
        have := (List.getElem?_eq_some_iff.1 hx).1
        simp at this; omega
      subst this
      rw [show i - l.length = 0 by omega] at hx
      simp at hx; subst hx; exact hy
section
variable {H : Type} {enc : TypeId × Value → H} {P : Program} {w : World}
/-- the cells of a slice among the arguments: what is shown of each element's reading holds of its cells -/
theorem open_rws {α : Type} {EN : α → List Value} {Q : α → Prop} {t e : TypeId} {fuel : Nat} {cs : List Value} {x : DataW H × List MemPlace} (ht : P.underlying t = some (.slice e)) (hs0 : 0 < P.cellsOf e)
    (hf : DataW.trod enc P w 0 (fun _ => true) true fuel t cs = some x)
    (hR : ∀ (n : Nat) (cs : List Value) (D : DataW H × List MemPlace), cs.length = P.cellsOf e → DataW.trod enc P w 0 (fun _ => true) true n e cs = some D → ∃ x, cs = EN x ∧ Q x) :
    ∃ v l, cs = [v] ∧ Rws (P.cellsOf e) EN v l w ∧ l.length ≤ 9223372036854775807 ∧ ∀ x ∈ l, Q x := by
  rcases Go.Deep.open_slice ht hf with ⟨hcs, _⟩ | ⟨a, len, cap, m, n, D, Pl, hcs, _, hl, hm, hmm, _, hi⟩
  · exact ⟨.slice none 0 0, [], hcs, .inl ⟨rfl, none, 0, rfl⟩, by simp, fun x h => by cases h⟩
  · simp only [if_true] at hmm
    by_cases h0 : len = 0
    · subst h0
      exact ⟨.slice (some a) 0 cap, [], hcs, .inl ⟨rfl, _, _, rfl⟩, by simp, fun x h => by cases h⟩
    · have hel : ∀ i, i < len → ∃ x : α, Q x ∧ ∀ j u, (EN x)[j]? = some u → w.cell? (a.add (i * P.cellsOf e + j)) = some u := by
        intro i hlt
        obtain ⟨cs, hc, htr⟩ := hi i (by omega)
        obtain ⟨_, hcl, hat⟩ := World.cells?_some hc
        obtain ⟨x, rfl, hx⟩ := hR n cs _ hcl htr
        refine ⟨x, hx, fun j u hj => ?_⟩
        have hj' : j < P.cellsOf e := by have := (List.getElem?_eq_some_iff.1 hj).1; omega
        rw [← Go.Deep.add_add, hat j hj', hj]
      obtain ⟨l, hll, hlr⟩ := list_of len hel
      obtain ⟨b, off, spot⟩ := a
      have hspot : spot = none := by
        obtain ⟨cs, hc, _⟩ := hi 0 (by omega)
        obtain ⟨_, hcl, hat⟩ := World.cells?_some hc
        have h1 := hat 0 (by omega)
        rw [List.getElem?_eq_getElem (by omega)] at h1
        have := World.cell?_spot h1
        simpa [Addr.add] using this
      subst hspot
      refine ⟨.slice (some ⟨b, off, none⟩) len cap, l, hcs, .inr ⟨b, off, cap, by rw [hll], by omega, fun i x j u hx hu => ?_⟩, by unfold maxLen at hm; omega, fun x hx => ?_⟩
      · have := (hlr i x hx).2 j u hu
        rwa [Addr.add_mid] at this
      · obtain ⟨i, hix⟩ := List.getElem?_of_mem hx
        exact (hlr i x hix).1
theorem int_cells {e : TypeId} {n : Nat} {cs : List Value} {D : DataW H × List MemPlace} (he : P.underlying e = some (.int .i64)) (h : DataW.trod enc P w 0 (fun _ => true) true n e cs = some D) : ∃ x, cs = [.int .i64 x] ∧ I64 x := by
  obtain ⟨x, hx, _, hw⟩ := DataW.trod_int he h
  exact ⟨x, hx, i64_of_wf hw⟩
theorem arr2_cells {t e : TypeId} {n : Nat} {cs : List Value} {D : DataW H × List MemPlace} (ht : P.underlying t = some (.array 2 e)) (he : P.underlying e = some (.int .i64)) (hc : P.cellsOf e = 1) (hl : cs.length = 2) (h : DataW.trod enc P w 0 (fun _ => true) true n t cs = some D) : ∃ x : Int × Int, cs = p2C x ∧ (I64 x.1 ∧ I64 x.2) := by
  match cs, hl with
  | [u0, u1], _ =>
    obtain ⟨xs, m, _, _, _, hlen, hf⟩ := DataW.trod_array ht h
    match xs, hlen with
    | [y0, y1], _ =>
      have h0 := hf 0 (by decide)
      have h1 := hf 1 (by decide)
      rw [hc] at h0 h1
      obtain ⟨a, ha, ha2⟩ := int_cells he h0
      obtain ⟨b, hb, hb2⟩ := int_cells he h1
      simp at ha hb
      subst ha hb
      exact ⟨(a, b), rfl, ha2, hb2⟩
theorem arr3_cells {t e : TypeId} {n : Nat} {cs : List Value} {D : DataW H × List MemPlace} (ht : P.underlying t = some (.array 3 e)) (he : P.underlying e = some (.int .i64)) (hc : P.cellsOf e = 1) (hl : cs.length = 3) (h : DataW.trod enc P w 0 (fun _ => true) true n t cs = some D) : ∃ x : Int × Int × Int, cs = p3C x ∧ (I64 x.1 ∧ I64 x.2.1 ∧ I64 x.2.2) := by
  match cs, hl with
  | [u0, u1, u2], _ =>
    obtain ⟨xs, m, _, _, _, hlen, hf⟩ := DataW.trod_array ht h
    match xs, hlen with
    | [y0, y1, y2], _ =>
      have h0 := hf 0 (by decide)
      have h1 := hf 1 (by decide)
      have h2 := hf 2 (by decide)
      rw [hc] at h0 h1 h2
      obtain ⟨a, ha, ha2⟩ := int_cells he h0
      obtain ⟨b, hb, hb2⟩ := int_cells he h1
      obtain ⟨c, hc, hc2⟩ := int_cells he h2
      simp at ha hb hc
      subst ha hb hc
      exact ⟨(a, b, c), rfl, ha2, hb2, hc2⟩
end
theorem cCase : Tryz.prog.cellsOf 26 = 4 := by kernel_rfl
theorem cL2 : Tryz.prog.cellsOf 24 = 2 := by kernel_rfl
theorem cL3 : Tryz.prog.cellsOf 156 = 3 := by kernel_rfl
theorem cS2 : Tryz.prog.cellsOf 22 = 1 := by kernel_rfl
theorem cS3 : Tryz.prog.cellsOf 23 = 1 := by kernel_rfl
theorem case_parts {H : Type} {enc : TypeId × Value → H} {P : Program} {w : World} {t t0 t1 t2 e0 e1 ti : TypeId} {f0 f1 f2 : Field} {n : Nat} {cs : List Value} {D : DataW H × List MemPlace} (he : P.underlying t = some (.struct #[f0, f1, f2]))
    (o0 : f0.offset = 0) (o1 : f1.offset = 1) (o2 : f2.offset = 2) (k0 : f0.type = t0) (k1 : f1.type = t1) (k2 : f2.type = t2) (c0 : P.cellsOf t0 = 1) (c1 : P.cellsOf t1 = 1) (c2 : P.cellsOf t2 = 2)
    (u0 : P.underlying t0 = some (.slice e0)) (u1 : P.underlying t1 = some (.slice e1)) (u2 : P.underlying t2 = some (.array 2 ti)) (a0 : P.underlying e0 = some (.array 2 ti)) (a1 : P.underlying e1 = some (.array 3 ti)) (ai : P.underlying ti = some (.int .i64)) (ci : P.cellsOf ti = 1)
    (ce0 : P.cellsOf e0 = 2) (ce1 : P.cellsOf e1 = 3) (hC : cs.length = 4) (h : DataW.trod enc P w 0 (fun _ => true) true n t cs = some D) :
    ∃ v1 v2 r0 r1, cs = [v1, v2, .int .i64 r0, .int .i64 r1] ∧ CaseIn v1 v2 r0 r1 w := by
  match cs, hC with
  | [x0, x1, x2, x3], _ =>
    obtain ⟨xs, m, _, _, _, hlen, hf⟩ := DataW.trod_struct he h
    match xs, hlen with
    | [y0, y1, y2], _ =>
      have h0 := hf 0 f0 rfl
      have h1 := hf 1 f1 rfl
      have h2 := hf 2 f2 rfl
      rw [o0, k0, c0] at h0
      rw [o1, k1, c1] at h1
      rw [o2, k2, c2] at h2
      obtain ⟨v1, L1, hv1, hr1, hl1, hq1⟩ := open_rws (EN := p2C) (Q := fun x => I64 x.1 ∧ I64 x.2) u0 (by omega) h0 (fun n cs D hl ht => arr2_cells a0 ai ci (by omega) ht)
      obtain ⟨v2, L2, hv2, hr2, hl2, hq2⟩ := open_rws (EN := p3C) (Q := fun x => I64 x.1 ∧ I64 x.2.1 ∧ I64 x.2.2) u1 (by omega) h1 (fun n cs D hl ht => arr3_cells a1 ai ci (by omega) ht)
      obtain ⟨⟨ra, rb⟩, hra, hrb⟩ := arr2_cells u2 ai ci rfl h2
      simp [p2C] at hv1 hv2 hra
      obtain ⟨rfl, rfl⟩ := hra
      subst hv1 hv2
      rw [ce0] at hr1
      rw [ce1] at hr2
      exact ⟨_, _, _, _, rfl, ⟨⟨L1, L2, hr1, hr2, hl1, hl2, hq1, hq2⟩, hrb⟩⟩
set_option maxRecDepth 100000 in
/-- a case among the arguments -/
theorem open_case {H : Type} {enc : TypeId × Value → H} {w : World} {r : Reach} {b0 : Nat} {v : Value} {d : DataW H} {p : List MemPlace} (hok : Value.okWide Tryz.prog w r b0 26 v) (h : DataW.Trod enc Tryz.prog w 0 (fun _ => true) true 26 v d p) :
    ∃ v1 v2 r0 r1, v = .agg #[v1, v2, .int .i64 r0, .int .i64 r1] ∧ CaseIn v1 v2 r0 r1 w := by
  have hu := Tryz.underlying26
  have u0 := Tryz.underlying22
  have u1 := Tryz.underlying23
  have u2 := Tryz.underlying24
  have u4 := Tryz.underlying156
  have u5 := Tryz.underlying3
  have c0 := cCase
  have c1 := cL2
  have c2 := cL3
  have c3 := cS2
  have c4 := cS3
  have c6 := cInt
  generalize Tryz.prog = P at *
  obtain ⟨cs, rfl, hsz⟩ := okWide_struct hu hok
  obtain ⟨fuel, hf⟩ := h
  obtain ⟨v1, v2, r0, r1, hcs, hc⟩ := case_parts hu rfl rfl rfl rfl rfl rfl c3 c4 c1 u0 u1 u2 u2 u4 u5 c6 c1 c2 (by simpa [Value.cells] using hsz.trans c0) hf
  refine ⟨v1, v2, r0, r1, ?_, hc⟩
  congr 1
  have : cs.toList = [v1, v2, .int .i64 r0, .int .i64 r1] := hcs
  rw [← Array.toArray_toList (xs := cs), this]
theorem trodAll_below {H : Type} {enc : TypeId × Value → H} {W W' : World} (hb : Below W.heap.size W W') : ∀ {ts : List TypeId} {vs : List Value} {ds : List (DataW H)} {ps : List MemPlace},
    (∀ t ∈ ts, Tryz.prog.readableRec t = true ∧ t < Tryz.prog.types.size) → DataW.TrodAll enc Tryz.prog W 0 (fun _ => true) true ts vs ds ps → (∀ x ∈ ps, x.block < W.heap.size) → DataW.TrodAll enc Tryz.prog W' 0 (fun b => decide (b < W.heap.size)) true ts vs ds ps
  | [], [], [], _, _, h, _ => h
  | t :: ts, _ :: _, _ :: _, _, hT, ⟨p, q, h1, h2, e⟩, hs => ⟨p, q, Below.trod laidOutP (hT t (List.mem_cons_self ..)).1 (hT t (List.mem_cons_self ..)).2 h1 hb (fun x hx => hs x (by rw [e]; exact List.mem_append_left _ hx)),
      trodAll_below hb (fun t ht => hT t (List.mem_cons_of_mem _ ht)) h2 (fun x hx => hs x (by rw [e]; exact List.mem_append_right _ hx)), e⟩
end Go.Proofs.YtaoggehdkddgeaaGreatDoor
