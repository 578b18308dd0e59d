/- The steps among the arguments, opened. -/
import Derived.Test.YtmkdnfiiehgcaaaMr
import Derived.Test.YtmkdnfiiehgcaaaDsP
namespace Go.Proofs.Ytmkdnfiiehgcaaa
open Go Go.ChangeShapes Go.WideShapes Go.ChangeAt Go.RowKit

theorem cellsT : Try.prog.cellsOf 39 = 5 := by kernel_rfl
theorem cellsN : Try.prog.cellsOf 37 = 1 := by kernel_rfl
set_option maxRecDepth 100000 in
theorem open_steps {H : Type} {enc : TypeId × Value → H} {w : World} {r : Reach} {b0 : Nat} {v : Value} {d : DataW H} {p : List MemPlace} (hok : Value.okWide Try.prog w r b0 32 v) (h : DataW.Trod enc Try.prog w 0 (fun _ => true) true 32 v d p) : ∃ l, RowsIn 5 (StR w) v l w := by
  have hu := Try.underlying39
  have hs := Try.underlying32
  have u0 := Try.underlying3
  have u1 := Try.underlying9
  have u2 := Try.underlying37
  have ho := cellsT
  have c0 := cellsI
  have c1 := cellsS
  have c2 := cellsN
  generalize Try.prog = P at *
  have := open_rows (R := StR w) hs (by omega) hok h (fun n cs D hl ht => st_of_trod hu rfl rfl rfl rfl rfl c0 c0 c0 c1 c2 u0 u0 u0 u1 u2 u0 c0 (by omega) ht)
  rw [ho] at this; exact this
end Go.Proofs.Ytmkdnfiiehgcaaa
