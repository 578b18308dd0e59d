/- The frame of a law's proof: what holds of every argument's reading. -/
import Derived.Test.YtmkdnfiiehgcaaaRows
import Derived.Test.YtmkdnfiiehgcaaaDkH
import Derived.ProofKit
import Derived.LaidMore
import Derived.OpenShut
import Derived.ShutString
import Derived.SliceStrings
import Derived.Carry
import Derived.SizedLaws
namespace Go.Proofs.Ytmkdnfiiehgcaaa
open Go Go.ChangeShapes Go.WideShapes Go.ChangeAt Go.RowKit
open Go.ChangeMaps (open_string shut_string)

theorem ownKn : ownKnob Try.prog.godebug = none := by kernel_rfl
theorem laidOutP : laidOutB Try.prog = true := by kernel_rfl
theorem int_bounds {n : Int} (h : (Lit.int .i64 n).wf = true) : -9223372036854775808 ≤ n ∧ n ≤ 9223372036854775807 := by
  simp [Lit.wf, IntKind.min, IntKind.max, IntKind.signed, IntKind.bits] at h
  exact h
theorem cellsI : Try.prog.cellsOf 3 = 1 := by kernel_rfl
set_option maxRecDepth 100000 in
theorem open_ints {H : Type} {enc : TypeId × Value → H} {w : World} {r : Reach} {b0 : Nat} {v : Value} {d : DataW H} {p : List MemPlace} (hok : Value.okWide Try.prog w r b0 37 v) (h : DataW.Trod enc Try.prog w 0 (fun _ => true) true 37 v d p) : ∃ l, RowsIn 1 IntR v l w := by
  have hc : 0 < Try.prog.cellsOf 3 := Nat.lt_of_lt_of_eq Nat.one_pos cellsI.symm
  have hi := Try.underlying3
  have hs := Try.underlying37
  have ho := cellsI
  generalize Try.prog = P at *
  have := open_rows (R := IntR) hs hc hok h (fun n cs D hl ht => int_of_trod hi ht)
  rw [ho] at this; exact this
theorem cellsB : Try.prog.cellsOf 4 = 1 := by kernel_rfl
theorem cellsS : Try.prog.cellsOf 9 = 1 := by kernel_rfl
theorem cellsW : Try.prog.cellsOf 53 = 3 := by kernel_rfl
set_option maxRecDepth 100000 in
theorem open_bools {H : Type} {enc : TypeId × Value → H} {w : World} {r : Reach} {b0 : Nat} {v : Value} {d : DataW H} {p : List MemPlace} (hok : Value.okWide Try.prog w r b0 58 v) (h : DataW.Trod enc Try.prog w 0 (fun _ => true) true 58 v d p) : ∃ l, RowsIn 1 BoolR v l w := by
  have hi := Try.underlying4
  have hs := Try.underlying58
  have ho := cellsB
  generalize Try.prog = P at *
  have := open_rows (R := BoolR) hs (by omega) hok h (fun n cs D hl ht => bool_of_trod hi ht)
  rw [ho] at this; exact this
set_option maxRecDepth 100000 in
theorem open_wps {H : Type} {enc : TypeId × Value → H} {w : World} {r : Reach} {b0 : Nat} {v : Value} {d : DataW H} {p : List MemPlace} (hok : Value.okWide Try.prog w r b0 51 v) (h : DataW.Trod enc Try.prog w 0 (fun _ => true) true 51 v d p) : ∃ l, RowsIn 3 WpR v l w := by
  have hu := Try.underlying53
  have hs := Try.underlying51
  have u0 := Try.underlying3
  have u1 := Try.underlying9
  have u2 := Try.underlying4
  have ho := cellsW
  have c0 := cellsI
  have c1 := cellsS
  have c2 := cellsB
  generalize Try.prog = P at *
  have := open_rows (R := WpR) hs (by omega) hok h (fun n cs D hl ht => wp_of_trod hu rfl rfl rfl c0 c1 c2 u0 u1 u2 (by omega) ht)
  rw [ho] at this; exact this
/-- all arguments read as before where only new blocks came -/
theorem trodAll_below {H : Type} {enc : TypeId × Value → H} {W W' : World} (hb : Below W.heap.size W W') : ∀ {ts : List TypeId} {vs : List Value} {ds : List (DataW H)} {ps : List MemPlace},
    (∀ t ∈ ts, Try.prog.readableRec t = true ∧ t < Try.prog.types.size) → DataW.TrodAll enc Try.prog W 0 (fun _ => true) true ts vs ds ps → (∀ x ∈ ps, x.block < W.heap.size) → DataW.TrodAll enc Try.prog W' 0 (fun b => decide (b < W.heap.size)) true ts vs ds ps
  | [], [], [], _, _, h, _ => h
  | t :: ts, _ :: _, _ :: _, _, hT, ⟨p, q, h1, h2, e⟩, hs => ⟨p, q, Below.trod laidOutP (hT t (List.mem_cons_self ..)).1 (hT t (List.mem_cons_self ..)).2 h1 hb (fun x hx => hs x (by rw [e]; exact List.mem_append_left _ hx)),
      trodAll_below hb (fun t ht => hT t (List.mem_cons_of_mem _ ht)) h2 (fun x hx => hs x (by rw [e]; exact List.mem_append_right _ hx)), e⟩
end Go.Proofs.Ytmkdnfiiehgcaaa
