/- What the row's condition gives: the table of words lies in memory; the arguments; the frame of a law's proof. -/
import Derived.Test.YtjnnhhengpinmaaGreatDoorRows
import Derived.Test.YtjnnhhengpinmaaGreatDoorNF
import Derived.ProofKit
import Derived.LaidMore
import Derived.LaidSub
import Derived.Lay
import Derived.OpenShut
import Derived.ShutString
import Derived.SliceStrings
import Derived.Carry
import Derived.Stop.Joined
import Derived.Lib.LaidTab
import Derived.Deep.Slices
import Derived.ChangeArms
import Derived.WideShapes
import Derived.SizedLaws
namespace Go.Proofs.YtjnnhhengpinmaaGreatDoor
open Go Go.ChangeShapes Go.WideShapes Go.ChangeAt Go.RowKit
open Go.ChangeMaps (open_string shut_string)

theorem ownKn : ownKnob Tryz.prog.godebug = none := by kernel_rfl
theorem laidOutP : laidOutB Tryz.prog = true := by kernel_rfl
theorem gRound : Tryz.prog.globalNamed "evergreen/digest.round" = some 0 := by kernel_rfl
theorem tRound : (Tryz.prog.globals[0]?).map (·.type) = some 155 := by kernel_rfl
theorem cRound : Tryz.prog.cellsOf 155 = 64 := by kernel_rfl
theorem cU32 : Tryz.prog.cellsOf 110 = 1 := by kernel_rfl
theorem cInt : Tryz.prog.cellsOf 3 = 1 := by kernel_rfl
theorem cString : Tryz.prog.cellsOf 9 = 1 := by kernel_rfl
def laidL : List (String × DataW Unit) := [("evergreen/digest.round", Rows.laid_evergreen_digest_round)]
theorem laid_is : (Rows.laid_evergreen_digest_round : DataW Unit) = Lib.tabData .u32 (kRound.map fun x : Nat => (x : Int)) := by kernel_rfl

theorem tab_of_laid {W : World} (h : laidMetH Tryz.prog laidL W) : Tab W := by
  rw [MakeChecks.laidMetH_plain _ _ _ (by kernel_rfl)] at h
  have h' : laidMet Tryz.prog [("evergreen/digest.round", Lib.tabData .u32 (kRound.map fun x : Nat => (x : Int)))] W := by
    rw [← laid_is]; exact h
  have hT := Lib.tabIs_of_head gRound tRound Tryz.underlying155 Tryz.underlying110 cU32 cRound h'
  obtain ⟨ps, ⟨g0, t0, cs0, f0, p0, q0, hg0, ht0, hv0, hd0, hq, rfl⟩, _, hfr⟩ := h'
  obtain rfl := Option.some.inj (gRound.symm.trans hg0)
  have hcs : cs0 = ((kRound.map fun x : Nat => (x : Int)).map fun z => Value.int .u32 z).toArray := Option.some.inj (hv0.symm.trans hT)
  have hsz : 0 < cs0.size := by rw [hcs]; simp [kRound]
  obtain ⟨⟨c, t, hc⟩, _⟩ := hfr 0 0 (by
    refine List.mem_append_left _ (List.mem_append_left _ ?_)
    exact List.mem_map.2 ⟨0, List.mem_range.2 hsz, rfl⟩)
  refine ⟨t, ?_⟩
  have hv := hv0
  simp only [World.var?, hg0, Option.bind_some] at hv
  rw [hc] at hv
  simp at hv
  rw [hc, hv, hcs]
  simp [roundCells]

set_option maxRecDepth 100000 in
theorem laid_plain (W : World) : laidMetH Tryz.prog laidL W = laidMet Tryz.prog laidL W := MakeChecks.laidMetH_plain _ _ _ (by kernel_rfl)
set_option maxRecDepth 100000 in
theorem laid_met (os : Os) (args : Array Value) : laidMetH Tryz.prog laidL ((World.laidAll Tryz.prog os laidL).forCall (fun _ _ => 0) ⟨#[], args, []⟩).memory := by
  rw [laid_plain]
  exact laidMet_laidAll _ (by kernel_rfl) (by kernel_rfl)
theorem i64_of_wf {n : Int} (h : (Lit.int .i64 n).wf = true) : I64 n := by
  simp [Lit.wf, IntKind.min, IntKind.max, IntKind.signed, IntKind.bits] at h
  exact h
theorem mem_strs {H : Type} {P : Program} {e : TypeId} : ∀ {ss : List ByteArray} {s : ByteArray}, s ∈ ss → s.size ∈ DataW.weightsAll P e (strs ss : List (DataW H))
  | x :: r, s, h => by
    simp only [strs, List.map_cons, DataW.weightsAll, DataW.weights, List.mem_append, List.mem_singleton]
    rcases List.mem_cons.1 h with rfl | h
    · exact .inl rfl
    · exact .inr (mem_strs h)
theorem bString : Tryz.prog.bytesOf 9 = 16 := by kernel_rfl
set_option maxRecDepth 100000 in
/-- a slice of strings among the arguments; the form's own reach holds each of them -/
theorem strs_open {H : Type} {enc : TypeId × Value → H} {P : Program} {t e : TypeId} {W : World} {a0 : Option Addr} {len cap fuel : Nat} {d : DataW H × List MemPlace} (hs : P.underlying t = some (.slice e)) (he : P.underlying e = some .string) (hc : P.cellsOf e = 1) (hb : P.bytesOf e = 16)
    (hf : DataW.trod enc P W 0 (fun _ => true) true fuel t [.slice a0 len cap] = some d) : ∃ l, StrsIn (.slice a0 len cap) l W ∧ ((∀ n ∈ d.1.weights P t, n ≤ reachBytes) → l.length * 16 ≤ reachBytes ∧ ∀ x ∈ l, x.size ≤ reachBytes) := by
  rcases open_strings hs he hc hf with ⟨hcs, _⟩ | ⟨a, len', cap', ss, hcs, _, hl, hm, hz, hd, hcell, hws⟩
  · simp at hcs
    obtain ⟨rfl, rfl, rfl⟩ := hcs
    exact ⟨[], .inl (.inl ⟨rfl, rfl⟩), fun _ => by simp⟩
  · simp at hcs
    obtain ⟨rfl, rfl, rfl⟩ := hcs
    simp only [if_true] at hz
    by_cases h0 : len = 0
    · subst h0
      exact ⟨[], .inr ⟨rfl, _, _, rfl⟩, fun _ => by simp⟩
    · obtain ⟨b, off, spot⟩ := a
      have hspot : spot = none := by simpa [Addr.add] using World.cell?_spot (hcell 0 (by omega))
      subst hspot
      have hll : (ss.take len).length = len := by rw [List.length_take]; omega
      refine ⟨ss.take len, .inl (.inr ⟨b, off, cap, by rw [hll], by rw [hll]; exact hl, hm, ?_⟩), fun hw => ?_⟩
      · intro j x hj
        rw [List.getElem?_take] at hj
        split at hj
        · have hjs := (List.getElem?_eq_some_iff.1 hj).1
          have := hcell j hjs
          rw [Addr.add_mid, List.getD_eq_getElem?_getD, hj] at this
          exact this
        · cases hj
      · rw [hd] at hw
        simp only [DataW.weights, hs, hb] at hw
        refine ⟨?_, fun x hx => hw _ (List.mem_cons_of_mem _ (List.mem_append_left _ (mem_strs hx)))⟩
        refine Nat.le_trans (Nat.mul_le_mul_right 16 ?_) (hw _ (List.mem_cons_self ..))
        simp only [strs, List.length_map]
        exact Nat.le_add_right _ _
set_option maxRecDepth 100000 in
theorem open_strs {H : Type} {enc : TypeId × Value → H} {W : World} {base : Nat} {v : Value} {d : DataW H} {p : List MemPlace} (hok : Value.okWide Tryz.prog W .any base 25 v)
    (h : DataW.Trod enc Tryz.prog W 0 (fun _ => true) true 25 v d p) : ∃ l, StrsIn v l W ∧ ((∀ n ∈ d.weights Tryz.prog 25, n ≤ reachBytes) → l.length * 16 ≤ reachBytes ∧ ∀ x ∈ l, x.size ≤ reachBytes) := by
  have hs := Tryz.underlying25
  have he := Tryz.underlying9
  have hc := cString
  have hb := bString
  generalize Tryz.prog = P at *
  obtain ⟨a0, len, cap, rfl⟩ := okWide_slice hs hok
  obtain ⟨fuel, hf⟩ := h
  exact strs_open (d := (d, p)) hs he hc hb (by simpa [Value.cells] using hf)
theorem reach_len {n : Nat} (h : n * 16 ≤ reachBytes) : n ≤ 9223372036854775806 := by
  unfold reachBytes at h; omega
theorem reach_sizes {l : List ByteArray} (h : ∀ x ∈ l, x.size ≤ reachBytes) : ∀ x ∈ l, x.size ≤ 140737488355000 := fun x hx => Nat.le_trans (h x hx) (by decide)
theorem reach_str {H : Type} {P : Program} {t : TypeId} {s : ByteArray} (h : ∀ n ∈ DataW.weights P t (.lit (.string s.data.toList) : DataW H), n ≤ reachBytes) : s.size ≤ 140737488355000 :=
  Nat.le_trans (h s.size (by simp only [DataW.weights, List.mem_singleton]; rfl)) (by decide)
theorem trodAll_below {H : Type} {enc : TypeId × Value → H} {W W' : World} (hb : Below W.heap.size W W') : ∀ {ts : List TypeId} {vs : List Value} {ds : List (DataW H)} {ps : List MemPlace},
    (∀ t ∈ ts, Tryz.prog.readableRec t = true ∧ t < Tryz.prog.types.size) → DataW.TrodAll enc Tryz.prog W 0 (fun _ => true) true ts vs ds ps → (∀ x ∈ ps, x.block < W.heap.size) → DataW.TrodAll enc Tryz.prog W' 0 (fun b => decide (b < W.heap.size)) true ts vs ds ps
  | [], [], [], _, _, h, _ => h
  | t :: ts, _ :: _, _ :: _, _, hT, ⟨p, q, h1, h2, e⟩, hs => ⟨p, q, Below.trod laidOutP (hT t (List.mem_cons_self ..)).1 (hT t (List.mem_cons_self ..)).2 h1 hb (fun x hx => hs x (by rw [e]; exact List.mem_append_left _ hx)),
      trodAll_below hb (fun t ht => hT t (List.mem_cons_of_mem _ ht)) h2 (fun x hx => hs x (by rw [e]; exact List.mem_append_right _ hx)), e⟩
end Go.Proofs.YtjnnhhengpinmaaGreatDoor
