/- What the row's condition gives: the table of words lies in memory; slices of strings and strings as arguments; the frame of a law's proof. -/
import Derived.Test.YtbkhkpcnclhoiaaDoorRows
import Derived.Test.YtbkhkpcnclhoiaaDoorFew
import Derived.ProofKit
import Derived.LaidMore
import Derived.OpenShut
import Derived.ShutString
import Derived.SliceStrings
import Derived.Carry
import Derived.Stop.Joined
import Derived.Lib.LaidTab
namespace Go.Proofs.YtbkhkpcnclhoiaaDoor
open Go Go.ChangeShapes Go.WideShapes Go.ChangeAt Go.RowKit
open Go.ChangeMaps (open_string shut_string)

theorem ownKn : ownKnob Tryd.prog.godebug = none := by kernel_rfl
theorem laidOutP : laidOutB Tryd.prog = true := by kernel_rfl
theorem gRound : Tryd.prog.globalNamed "evergreen/digest.round" = some 0 := by kernel_rfl
theorem tRound : (Tryd.prog.globals[0]?).map (·.type) = some 83 := by kernel_rfl
theorem cRound : Tryd.prog.cellsOf 83 = 64 := by kernel_rfl
theorem cU32 : Tryd.prog.cellsOf 64 = 1 := by kernel_rfl
theorem cString : Tryd.prog.cellsOf 9 = 1 := by kernel_rfl
def laidL : List (String × DataW Unit) := [("evergreen/digest.round", Rows.laid_evergreen_digest_round)]
theorem laid_is : (Rows.laid_evergreen_digest_round : DataW Unit) = Lib.tabData .u32 (kRound.map fun x : Nat => (x : Int)) := by kernel_rfl

theorem tab_of_laid {W : World} (h : laidMetH Tryd.prog laidL W) : Tab W := by
  rw [MakeChecks.laidMetH_plain _ _ _ (by kernel_rfl)] at h
  have h' : laidMet Tryd.prog [("evergreen/digest.round", Lib.tabData .u32 (kRound.map fun x : Nat => (x : Int)))] W := by
    rw [← laid_is]; exact h
  have hT := Lib.tabIs_of_head gRound tRound Tryd.underlying83 Tryd.underlying64 cU32 cRound h'
  obtain ⟨ps, ⟨g0, t0, cs0, f0, p0, q0, hg0, ht0, hv0, hd0, hq, rfl⟩, _, hfr⟩ := h'
  obtain rfl := Option.some.inj (gRound.symm.trans hg0)
  have hcs : cs0 = ((kRound.map fun x : Nat => (x : Int)).map fun z => Value.int .u32 z).toArray := Option.some.inj (hv0.symm.trans hT)
  have hsz : 0 < cs0.size := by rw [hcs]; simp [kRound]
  obtain ⟨⟨c, t, hc⟩, _⟩ := hfr 0 0 (by
    refine List.mem_append_left _ (List.mem_append_left _ ?_)
    exact List.mem_map.2 ⟨0, List.mem_range.2 hsz, rfl⟩)
  refine ⟨t, ?_⟩
  have hv := hv0
  simp only [World.var?, hg0, Option.bind_some] at hv
  rw [hc] at hv
  simp at hv
  rw [hc, hv, hcs]
  simp [roundCells]

theorem door_met (os : Os) (args : Array Value) : laidMetH Tryd.prog laidL ((World.doorLaid Tryd.prog 400 os).forCall (fun _ _ => 0) ⟨#[], args, []⟩).memory :=
  laidMetH_of_parts3 (fuel := 8) (laidMet_of_run' 8 (by kernel_rfl) (by kernel_rfl)) (by kernel_rfl) (by kernel_rfl)

theorem int_bounds {n : Int} (h : (Lit.int .i64 n).wf = true) : -9223372036854775808 ≤ n ∧ n ≤ 9223372036854775807 := by
  simp [Lit.wf, IntKind.min, IntKind.max, IntKind.signed, IntKind.bits] at h
  exact h
/-- a slice of strings among the arguments -/
theorem open_strs {H : Type} {enc : TypeId × Value → H} {W : World} {base : Nat} {v : Value} {d : DataW H} {p : List MemPlace} (hok : Value.okWide Tryd.prog W .any base 22 v)
    (h : DataW.Trod enc Tryd.prog W 0 (fun _ => true) true 22 v d p) : ∃ l, StrsIn v l W ∧ ∀ x ∈ l, x.size ≤ maxLen := by
  obtain ⟨a0, len, cap, rfl⟩ := okWide_slice Tryd.underlying22 hok
  obtain ⟨fuel, hf⟩ := h
  rcases open_strings Tryd.underlying22 Tryd.underlying9 cString hf with ⟨hcs, _⟩ | ⟨a, len', cap', ss, hcs, _, hl, hm, hz, _, hcell, hws⟩
  · simp [Value.cells] at hcs
    obtain ⟨rfl, rfl, rfl⟩ := hcs
    exact ⟨[], .inl (.inl ⟨rfl, rfl⟩), by simp⟩
  · simp [Value.cells] at hcs
    obtain ⟨rfl, rfl, rfl⟩ := hcs
    simp only [if_true] at hz
    by_cases h0 : len = 0
    · subst h0
      exact ⟨[], .inr ⟨rfl, _, _, rfl⟩, by simp⟩
    · obtain ⟨b, off, spot⟩ := a
      have hspot : spot = none := by simpa [Addr.add] using World.cell?_spot (hcell 0 (by omega))
      subst hspot
      have hll : (ss.take len).length = len := by rw [List.length_take]; omega
      refine ⟨ss.take len, .inl (.inr ⟨b, off, cap, by rw [hll], by rw [hll]; exact hl, hm, ?_⟩), fun x hx => hws x (List.mem_of_mem_take hx)⟩
      intro j x hj
      rw [List.getElem?_take] at hj
      split at hj
      · have hjs := (List.getElem?_eq_some_iff.1 hj).1
        have := hcell j hjs
        rw [Addr.add_mid, List.getD_eq_getElem?_getD, hj] at this
        exact this
      · cases hj

theorem trodAll_below {H : Type} {enc : TypeId × Value → H} {W W' : World} (hb : Below W.heap.size W W') : ∀ {ts : List TypeId} {vs : List Value} {ds : List (DataW H)} {ps : List MemPlace},
    (∀ t ∈ ts, Tryd.prog.readableRec t = true ∧ t < Tryd.prog.types.size) → DataW.TrodAll enc Tryd.prog W 0 (fun _ => true) true ts vs ds ps → (∀ x ∈ ps, x.block < W.heap.size) → DataW.TrodAll enc Tryd.prog W' 0 (fun b => decide (b < W.heap.size)) true ts vs ds ps
  | [], [], [], _, _, h, _ => h
  | t :: ts, _ :: _, _ :: _, _, hT, ⟨p, q, h1, h2, e⟩, hs => ⟨p, q, Below.trod laidOutP (hT t (List.mem_cons_self ..)).1 (hT t (List.mem_cons_self ..)).2 h1 hb (fun x hx => hs x (by rw [e]; exact List.mem_append_left _ hx)),
      trodAll_below hb (fun t ht => hT t (List.mem_cons_of_mem _ ht)) h2 (fun x hx => hs x (by rw [e]; exact List.mem_append_right _ hx)), e⟩
end Go.Proofs.YtbkhkpcnclhoiaaDoor
