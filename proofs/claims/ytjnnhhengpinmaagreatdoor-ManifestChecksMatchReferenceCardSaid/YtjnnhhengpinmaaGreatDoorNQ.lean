/- What the row's condition gives: the table of words lies in memory; the arguments; the frame of a law's proof. -/
import Derived.Test.YtjnnhhengpinmaaGreatDoorRows
import Derived.Test.YtjnnhhengpinmaaGreatDoorNF
import Derived.ProofKit
import Derived.LaidMore
import Derived.LaidSub
import Derived.Lay
import Derived.OpenShut
import Derived.ShutString
import Derived.SliceStrings
import Derived.Carry
import Derived.Stop.Joined
import Derived.Lib.LaidTab
import Derived.Deep.Slices
import Derived.ChangeArms
import Derived.WideShapes
import Derived.SizedLaws
import Derived.Test.YtjnnhhengpinmaaGreatDoorNO
namespace Go.Proofs.YtjnnhhengpinmaaGreatDoor
section
open Go Go.ChangeShapes Go.WideShapes Go.ChangeAt Go.RowKit
open Go.ChangeMaps (open_string shut_string)

theorem ownKn : ownKnob Tryz.prog.godebug = none := by kernel_rfl
theorem laidOutP : laidOutB Tryz.prog = true := by kernel_rfl
theorem gRound : Tryz.prog.globalNamed "evergreen/digest.round" = some 0 := by kernel_rfl
theorem tRound : (Tryz.prog.globals[0]?).map (·.type) = some 155 := by kernel_rfl
theorem cRound : Tryz.prog.cellsOf 155 = 64 := by kernel_rfl
theorem cU32 : Tryz.prog.cellsOf 110 = 1 := by kernel_rfl
theorem cInt : Tryz.prog.cellsOf 3 = 1 := by kernel_rfl
theorem cString : Tryz.prog.cellsOf 9 = 1 := by kernel_rfl
def laidL : List (String × DataW Unit) := [("evergreen/digest.round", Rows.laid_evergreen_digest_round)]
theorem laid_is : (Rows.laid_evergreen_digest_round : DataW Unit) = Lib.tabData .u32 (kRound.map fun x : Nat => (x : Int)) := by kernel_rfl

theorem tab_of_laid {W : World} (h : laidMetH Tryz.prog laidL W) : Tab W := by
  rw [MakeChecks.laidMetH_plain _ _ _ (by kernel_rfl)] at h
  have h' : laidMet Tryz.prog [("evergreen/digest.round", Lib.tabData .u32 (kRound.map fun x : Nat => (x : Int)))] W := by
    rw [← laid_is]; exact h
  have hT := Lib.tabIs_of_head gRound tRound Tryz.underlying155 Tryz.underlying110 cU32 cRound h'
  obtain ⟨ps, ⟨g0, t0, cs0, f0, p0, q0, hg0, ht0, hv0, hd0, hq, rfl⟩, _, hfr⟩ := h'
  obtain rfl := Option.some.inj (gRound.symm.trans hg0)
  have hcs : cs0 = ((kRound.map fun x : Nat => (x : Int)).map fun z => Value.int .u32 z).toArray := Option.some.inj (hv0.symm.trans hT)
  have hsz : 0 < cs0.size := by rw [hcs]; simp [kRound]
  obtain ⟨⟨c, t, hc⟩, _⟩ := hfr 0 0 (by
    refine List.mem_append_left _ (List.mem_append_left _ ?_)
    exact List.mem_map.2 ⟨0, List.mem_range.2 hsz, rfl⟩)
  refine ⟨t, ?_⟩
  have hv := hv0
  simp only [World.var?, hg0, Option.bind_some] at hv
  rw [hc] at hv
  simp at hv
  rw [hc, hv, hcs]
  simp [roundCells]

set_option maxRecDepth 100000 in
theorem laid_plain (W : World) : laidMetH Tryz.prog laidL W = laidMet Tryz.prog laidL W := MakeChecks.laidMetH_plain _ _ _ (by kernel_rfl)
set_option maxRecDepth 100000 in
theorem laid_met (os : Os) (args : Array Value) : laidMetH Tryz.prog laidL ((World.laidAll Tryz.prog os laidL).forCall (fun _ _ => 0) ⟨#[], args, []⟩).memory := by
  rw [laid_plain]
  exact laidMet_laidAll _ (by kernel_rfl) (by kernel_rfl)
theorem i64_of_wf {n : Int} (h : (Lit.int .i64 n).wf = true) : I64 n := by
  simp [Lit.wf, IntKind.min, IntKind.max, IntKind.signed, IntKind.bits] at h
  exact h
theorem mem_strs {H : Type} {P : Program} {e : TypeId} : ∀ {ss : List ByteArray} {s : ByteArray}, s ∈ ss → s.size ∈ DataW.weightsAll P e (strs ss : List (DataW H))
  | x :: r, s, h => by
    simp only [strs, List.map_cons, DataW.weightsAll, DataW.weights, List.mem_append, List.mem_singleton]
    rcases List.mem_cons.1 h with rfl | h
    · exact .inl rfl
    · exact .inr (mem_strs h)
theorem bString : Tryz.prog.bytesOf 9 = 16 := by kernel_rfl
set_option maxRecDepth 100000 in
/-- a slice of strings among the arguments; the form's own reach holds each of them -/
theorem strs_open {H : Type} {enc : TypeId × Value → H} {P : Program} {t e : TypeId} {W : World} {a0 : Option Addr} {len cap fuel : Nat} {d : DataW H × List MemPlace} (hs : P.underlying t = some (.slice e)) (he : P.underlying e = some .string) (hc : P.cellsOf e = 1) (hb : P.bytesOf e = 16)
    (hf : DataW.trod enc P W 0 (fun _ => true) true fuel t [.slice a0 len cap] = some d) : ∃ l, StrsIn (.slice a0 len cap) l W ∧ ((∀ n ∈ d.1.weights P t, n ≤ reachBytes) → l.length * 16 ≤ reachBytes ∧ ∀ x ∈ l, x.size ≤ reachBytes) := by
  rcases open_strings hs he hc hf with ⟨hcs, _⟩ | ⟨a, len', cap', ss, hcs, _, hl, hm, hz, hd, hcell, hws⟩
  · simp at hcs
    obtain ⟨rfl, rfl, rfl⟩ := hcs
    exact ⟨[], .inl (.inl ⟨rfl, rfl⟩), fun _ => by simp⟩
  · simp at hcs
    obtain ⟨rfl, rfl, rfl⟩ := hcs
    simp only [if_true] at hz
    by_cases h0 : len = 0
    · subst h0
      exact ⟨[], .inr ⟨rfl, _, _, rfl⟩, fun _ => by simp⟩
    · obtain ⟨b, off, spot⟩ := a
      have hspot : spot = none := by simpa [Addr.add] using World.cell?_spot (hcell 0 (by omega))
      subst hspot
      have hll : (ss.take len).length = len := by rw [List.length_take]; omega
      refine ⟨ss.take len, .inl (.inr ⟨b, off, cap, by rw [hll], by rw [hll]; exact hl, hm, ?_⟩), fun hw => ?_⟩
      · intro j x hj
        rw [List.getElem?_take] at hj
        split at hj
        · have hjs := (List.getElem?_eq_some_iff.1 hj).1
          have := hcell j hjs
          rw [Addr.add_mid, List.getD_eq_getElem?_getD, hj] at this
          exact this
        · cases hj
      · rw [hd] at hw
        simp only [DataW.weights, hs, hb] at hw
        refine ⟨?_, fun x hx => hw _ (List.mem_cons_of_mem _ (List.mem_append_left _ (mem_strs hx)))⟩
        refine Nat.le_trans (Nat.mul_le_mul_right 16 ?_) (hw _ (List.mem_cons_self ..))
        simp only [strs, List.length_map]
        exact Nat.le_add_right _ _
set_option maxRecDepth 100000 in
theorem open_strs {H : Type} {enc : TypeId × Value → H} {W : World} {base : Nat} {v : Value} {d : DataW H} {p : List MemPlace} (hok : Value.okWide Tryz.prog W .any base 25 v)
    (h : DataW.Trod enc Tryz.prog W 0 (fun _ => true) true 25 v d p) : ∃ l, StrsIn v l W ∧ ((∀ n ∈ d.weights Tryz.prog 25, n ≤ reachBytes) → l.length * 16 ≤ reachBytes ∧ ∀ x ∈ l, x.size ≤ reachBytes) := by
  have hs := Tryz.underlying25
  have he := Tryz.underlying9
  have hc := cString
  have hb := bString
  generalize Tryz.prog = P at *
  obtain ⟨a0, len, cap, rfl⟩ := okWide_slice hs hok
  obtain ⟨fuel, hf⟩ := h
  exact strs_open (d := (d, p)) hs he hc hb (by simpa [Value.cells] using hf)
theorem reach_len {n : Nat} (h : n * 16 ≤ reachBytes) : n ≤ 9223372036854775806 := by
  unfold reachBytes at h; omega
theorem reach_sizes {l : List ByteArray} (h : ∀ x ∈ l, x.size ≤ reachBytes) : ∀ x ∈ l, x.size ≤ 140737488355000 := fun x hx => Nat.le_trans (h x hx) (by decide)
theorem reach_str {H : Type} {P : Program} {t : TypeId} {s : ByteArray} (h : ∀ n ∈ DataW.weights P t (.lit (.string s.data.toList) : DataW H), n ≤ reachBytes) : s.size ≤ 140737488355000 :=
  Nat.le_trans (h s.size (by simp only [DataW.weights, List.mem_singleton]; rfl)) (by decide)
theorem trodAll_below {H : Type} {enc : TypeId × Value → H} {W W' : World} (hb : Below W.heap.size W W') : ∀ {ts : List TypeId} {vs : List Value} {ds : List (DataW H)} {ps : List MemPlace},
    (∀ t ∈ ts, Tryz.prog.readableRec t = true ∧ t < Tryz.prog.types.size) → DataW.TrodAll enc Tryz.prog W 0 (fun _ => true) true ts vs ds ps → (∀ x ∈ ps, x.block < W.heap.size) → DataW.TrodAll enc Tryz.prog W' 0 (fun b => decide (b < W.heap.size)) true ts vs ds ps
  | [], [], [], _, _, h, _ => h
  | t :: ts, _ :: _, _ :: _, _, hT, ⟨p, q, h1, h2, e⟩, hs => ⟨p, q, Below.trod laidOutP (hT t (List.mem_cons_self ..)).1 (hT t (List.mem_cons_self ..)).2 h1 hb (fun x hx => hs x (by rw [e]; exact List.mem_append_left _ hx)),
      trodAll_below hb (fun t ht => hT t (List.mem_cons_of_mem _ ht)) h2 (fun x hx => hs x (by rw [e]; exact List.mem_append_right _ hx)), e⟩
end
section
open Go Go.ChangeShapes Go.WideShapes Go.ChangeAt Go.RowKit
open Go.ChangeMaps (open_string shut_string)

theorem list_of {α : Type} {R : Nat → α → Prop} : ∀ n : Nat, (∀ i, i < n → ∃ x, R i x) → ∃ l : List α, l.length = n ∧ ∀ i x, l[i]? = some x → R i x
  | 0, _ => ⟨[], rfl, fun i x h => by simp at h⟩
  | n + 1, h => by
    obtain ⟨l, hl, hr⟩ := list_of n fun i hi => h i (by omega)
    obtain ⟨y, hy⟩ := h n (by omega)
    refine ⟨l ++ [y], by simp [hl], fun i x hx => ?_⟩
    by_cases hi : i < l.length
    · rw [List.getElem?_append_left hi] at hx; exact hr i x hx
    · rw [List.getElem?_append_right (by omega)] at hx
      have : i = n := by
        have := (List.getElem?_eq_some_iff.1 hx).1
        simp at this; omega
      subst this
      rw [show i - l.length = 0 by omega] at hx
      simp at hx; subst hx; exact hy
section
variable {H : Type} {enc : TypeId × Value → H} {P : Program} {w : World}
/-- the cells of a slice among the arguments: what is shown of each element's reading holds of its cells -/
theorem open_rws {α : Type} {EN : α → List Value} {Q : α → Prop} {t e : TypeId} {fuel : Nat} {cs : List Value} {x : DataW H × List MemPlace} (ht : P.underlying t = some (.slice e)) (hs0 : 0 < P.cellsOf e)
    (hf : DataW.trod enc P w 0 (fun _ => true) true fuel t cs = some x)
    (hR : ∀ (n : Nat) (cs : List Value) (D : DataW H × List MemPlace), cs.length = P.cellsOf e → DataW.trod enc P w 0 (fun _ => true) true n e cs = some D → ∃ x, cs = EN x ∧ Q x) :
    ∃ v l, cs = [v] ∧ Rws (P.cellsOf e) EN v l w ∧ l.length ≤ 9223372036854775807 ∧ ∀ x ∈ l, Q x := by
  rcases Go.Deep.open_slice ht hf with ⟨hcs, _⟩ | ⟨a, len, cap, m, n, D, Pl, hcs, _, hl, hm, hmm, _, hi⟩
  · exact ⟨.slice none 0 0, [], hcs, .inl ⟨rfl, none, 0, rfl⟩, by simp, fun x h => by cases h⟩
  · simp only [if_true] at hmm
    by_cases h0 : len = 0
    · subst h0
      exact ⟨.slice (some a) 0 cap, [], hcs, .inl ⟨rfl, _, _, rfl⟩, by simp, fun x h => by cases h⟩
    · have hel : ∀ i, i < len → ∃ x : α, Q x ∧ ∀ j u, (EN x)[j]? = some u → w.cell? (a.add (i * P.cellsOf e + j)) = some u := by
        intro i hlt
        obtain ⟨cs, hc, htr⟩ := hi i (by omega)
        obtain ⟨_, hcl, hat⟩ := World.cells?_some hc
        obtain ⟨x, rfl, hx⟩ := hR n cs _ hcl htr
        refine ⟨x, hx, fun j u hj => ?_⟩
        have hj' : j < P.cellsOf e := by have := (List.getElem?_eq_some_iff.1 hj).1; omega
        rw [← Go.Deep.add_add, hat j hj', hj]
      obtain ⟨l, hll, hlr⟩ := list_of len hel
      obtain ⟨b, off, spot⟩ := a
      have hspot : spot = none := by
        obtain ⟨cs, hc, _⟩ := hi 0 (by omega)
        obtain ⟨_, hcl, hat⟩ := World.cells?_some hc
        have h1 := hat 0 (by omega)
        rw [List.getElem?_eq_getElem (by omega)] at h1
        have := World.cell?_spot h1
        simpa [Addr.add] using this
      subst hspot
      refine ⟨.slice (some ⟨b, off, none⟩) len cap, l, hcs, .inr ⟨b, off, cap, by rw [hll], by omega, fun i x j u hx hu => ?_⟩, by unfold maxLen at hm; omega, fun x hx => ?_⟩
      · have := (hlr i x hx).2 j u hu
        rwa [Addr.add_mid] at this
      · obtain ⟨i, hix⟩ := List.getElem?_of_mem hx
        exact (hlr i x hix).1
theorem int_cells {e : TypeId} {n : Nat} {cs : List Value} {D : DataW H × List MemPlace} (he : P.underlying e = some (.int .i64)) (h : DataW.trod enc P w 0 (fun _ => true) true n e cs = some D) : ∃ x, cs = [.int .i64 x] ∧ I64 x := by
  obtain ⟨x, hx, _, hw⟩ := DataW.trod_int he h
  exact ⟨x, hx, i64_of_wf hw⟩
theorem entry_cells {t ts ti : TypeId} {f0 f1 f2 f3 : Field} {n : Nat} {cs : List Value} {D : DataW H × List MemPlace} (he : P.underlying t = some (.struct #[f0, f1, f2, f3])) (o0 : f0.offset = 0) (o1 : f1.offset = 1) (o2 : f2.offset = 2) (o3 : f3.offset = 3) (k0 : f0.type = ts) (k1 : f1.type = ti) (k2 : f2.type = ti) (k3 : f3.type = ts)
    (us : P.underlying ts = some .string) (ui : P.underlying ti = some (.int .i64)) (c0 : P.cellsOf ts = 1) (c1 : P.cellsOf ti = 1) (hC : cs.length = 4) (h : DataW.trod enc P w 0 (fun _ => true) true n t cs = some D) : ∃ x : En, cs = enC x ∧ EnIn x := by
  match cs, hC with
  | [x0, x1, x2, x3], _ =>
    obtain ⟨xs, m, _, _, _, hlen, hf⟩ := DataW.trod_struct he h
    match xs, hlen with
    | [y0, y1, y2, y3], _ =>
      have h0 := hf 0 f0 rfl
      have h1 := hf 1 f1 rfl
      have h2 := hf 2 f2 rfl
      have h3 := hf 3 f3 rfl
      rw [o0, k0, c0] at h0
      rw [o1, k1, c1] at h1
      rw [o2, k2, c1] at h2
      rw [o3, k3, c0] at h3
      obtain ⟨s, hs, _, hsz⟩ := DataW.trod_string us h0
      obtain ⟨a, ha, hb⟩ := int_cells ui h1
      obtain ⟨b, hb1, hb2⟩ := int_cells ui h2
      obtain ⟨dg, hd, _, hdz⟩ := DataW.trod_string us h3
      simp at hs ha hb1 hd
      subst hs ha hb1 hd
      exact ⟨⟨s, a, b, dg⟩, rfl, hsz, hb, hb2, hdz⟩
/-- a package that came in -/
def PkRaw (v : Value) (l : List En) (id ver : Int) (w : World) : Prop := Rws 4 enC v l w ∧ l.length ≤ 9223372036854775807 ∧ (∀ x ∈ l, EnIn x) ∧ I64 id ∧ I64 ver
theorem pkg_parts {t tl te ti ts : TypeId} {f0 f1 f2 g0 g1 g2 g3 : Field} {n : Nat} {cs : List Value} {D : DataW H × List MemPlace} (he : P.underlying t = some (.struct #[f0, f1, f2])) (o0 : f0.offset = 0) (o1 : f1.offset = 1) (o2 : f2.offset = 2) (k0 : f0.type = ti) (k1 : f1.type = ti) (k2 : f2.type = tl)
    (ul : P.underlying tl = some (.slice te)) (ue : P.underlying te = some (.struct #[g0, g1, g2, g3])) (l0 : g0.offset = 0) (l1 : g1.offset = 1) (l2 : g2.offset = 2) (l3 : g3.offset = 3) (j0 : g0.type = ts) (j1 : g1.type = ti) (j2 : g2.type = ti) (j3 : g3.type = ts)
    (us : P.underlying ts = some .string) (ui : P.underlying ti = some (.int .i64)) (cs1 : P.cellsOf ts = 1) (ci : P.cellsOf ti = 1) (cl : P.cellsOf tl = 1) (ce : P.cellsOf te = 4) (hC : cs.length = 3) (h : DataW.trod enc P w 0 (fun _ => true) true n t cs = some D) :
    ∃ id ver v l, cs = [.int .i64 id, .int .i64 ver, v] ∧ PkRaw v l id ver w := by
  match cs, hC with
  | [x0, x1, x2], _ =>
    obtain ⟨xs, m, _, _, _, hlen, hf⟩ := DataW.trod_struct he h
    match xs, hlen with
    | [y0, y1, y2], _ =>
      have h0 := hf 0 f0 rfl
      have h1 := hf 1 f1 rfl
      have h2 := hf 2 f2 rfl
      rw [o0, k0, ci] at h0
      rw [o1, k1, ci] at h1
      rw [o2, k2, cl] at h2
      obtain ⟨a, ha, ha2⟩ := int_cells ui h0
      obtain ⟨b, hb, hb2⟩ := int_cells ui h1
      obtain ⟨v, L, hv, hr, hl, hq⟩ := open_rws (EN := enC) (Q := EnIn) ul (by omega) h2 (fun n cs D hl ht => entry_cells ue l0 l1 l2 l3 j0 j1 j2 j3 us ui cs1 ci (by omega) ht)
      simp at ha hb hv
      subst ha hb hv
      rw [ce] at hr
      exact ⟨_, _, _, L, rfl, hr, hl, hq, ha2, hb2⟩
theorem pk_in {v : Value} {l : List En} {id ver : Int} {w : World} (h : PkRaw v l id ver w) : PkIn v l w := ⟨h.1, fun x hx => ⟨(h.2.2.1 x hx).1, (h.2.2.1 x hx).2.2.2⟩⟩
end
set_option maxRecDepth 100000 in
/-- numbers among the arguments -/
theorem open_ints {H : Type} {enc : TypeId × Value → H} {w : World} {r : Reach} {b0 : Nat} {v : Value} {d : DataW H} {p : List MemPlace} (hok : Value.okWide Tryz.prog w r b0 26 v) (h : DataW.Trod enc Tryz.prog w 0 (fun _ => true) true 26 v d p) :
    ∃ l, Rws 1 inC v l w ∧ l.length ≤ 9223372036854775807 ∧ ∀ x ∈ l, I64 x := by
  have hi := Tryz.underlying3
  have hs := Tryz.underlying26
  have ho := cInt
  generalize Tryz.prog = P at *
  obtain ⟨a0, len, cap, rfl⟩ := okWide_slice hs hok
  obtain ⟨fuel, hf⟩ := h
  obtain ⟨v, l, hv, hr, hl, hq⟩ := open_rws (EN := inC) (Q := I64) hs (by omega) hf (fun n cs D _ ht => by obtain ⟨x, hx, h2⟩ := int_cells hi ht; exact ⟨x, hx, h2⟩)
  simp [Value.cells] at hv
  subst hv
  rw [ho] at hr
  exact ⟨l, hr, hl, hq⟩
theorem cEntry : Tryz.prog.cellsOf 28 = 4 := by kernel_rfl
theorem cEntries : Tryz.prog.cellsOf 22 = 1 := by kernel_rfl
theorem cPackage : Tryz.prog.cellsOf 24 = 3 := by kernel_rfl
set_option maxRecDepth 100000 in
/-- an entry among the arguments -/
theorem open_entry {H : Type} {enc : TypeId × Value → H} {w : World} {r : Reach} {b0 : Nat} {v : Value} {d : DataW H} {p : List MemPlace} (hok : Value.okWide Tryz.prog w r b0 28 v) (h : DataW.Trod enc Tryz.prog w 0 (fun _ => true) true 28 v d p) :
    ∃ x : En, v = .agg #[.string x.path, .int .i64 x.fmt, .int .i64 x.len, .string x.dig] ∧ EnIn x := by
  have he := Tryz.underlying28
  have us := Tryz.underlying9
  have ui := Tryz.underlying3
  have c0 := cEntry
  have c3 := cString
  have c4 := cInt
  generalize Tryz.prog = P at *
  obtain ⟨cs, rfl, hsz⟩ := okWide_struct he hok
  obtain ⟨fuel, hf⟩ := h
  obtain ⟨x, hcs, hx⟩ := entry_cells he rfl rfl rfl rfl rfl rfl rfl rfl us ui c3 c4 (by simpa [Value.cells] using hsz.trans c0) hf
  refine ⟨x, ?_, hx⟩
  have h2 : cs.toList = enC x := hcs
  congr 1
  rw [← Array.toArray_toList (xs := cs), h2]
  rfl
set_option maxRecDepth 100000 in
/-- a package among the arguments -/
theorem open_pkg {H : Type} {enc : TypeId × Value → H} {w : World} {r : Reach} {b0 : Nat} {v : Value} {d : DataW H} {p : List MemPlace} (hok : Value.okWide Tryz.prog w r b0 24 v) (h : DataW.Trod enc Tryz.prog w 0 (fun _ => true) true 24 v d p) :
    ∃ id ver u l, v = .agg #[.int .i64 id, .int .i64 ver, u] ∧ PkRaw u l id ver w := by
  have hu := Tryz.underlying24
  have ul := Tryz.underlying22
  have ue := Tryz.underlying28
  have us := Tryz.underlying9
  have ui := Tryz.underlying3
  have c0 := cPackage
  have c1 := cEntries
  have c2 := cEntry
  have c3 := cString
  have c4 := cInt
  generalize Tryz.prog = P at *
  obtain ⟨cs, rfl, hsz⟩ := okWide_struct hu hok
  obtain ⟨fuel, hf⟩ := h
  obtain ⟨id, ver, u, l, hcs, hd⟩ := pkg_parts hu rfl rfl rfl rfl rfl rfl ul ue rfl rfl rfl rfl rfl rfl rfl rfl us ui c3 c4 c1 c2 (by simpa [Value.cells] using hsz.trans c0) hf
  refine ⟨id, ver, u, l, ?_, hd⟩
  congr 1
  have h2 : cs.toList = [.int .i64 id, .int .i64 ver, u] := hcs
  rw [← Array.toArray_toList (xs := cs), h2]
end
end Go.Proofs.YtjnnhhengpinmaaGreatDoor
