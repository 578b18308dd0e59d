/- The laws' helper fits. -/
import Derived.Test.YtmkdnfiiehgcaaaDsK
namespace Go.Proofs.Ytmkdnfiiehgcaaa
open Go.RowKit

theorem fits_any (o : Int) (s : ByteArray) (b : Bool) (n : Nat) (w : World) (ho : -9223372036854775808 ≤ o ∧ o ≤ 9223372036854775807) (hs : s.size ≤ 9223372036854775807) (hn : n ≤ 4194304) :
    Calls Try.prog 26 #[.agg #[.int .i64 o, .string s, .bool b], .int .i64 (n : Int)] w fun e w' => e = .returned (.agg #[.int .i64 ((fitsD o s n).1 : Int), .string (fitsD o s n).2, .bool b]) ∧ Gr w w' := by
  have e1 : IntKind.i64.wrap ((n : Int) + 1) = ((n + 1 : Nat) : Int) := by rw [IntWalk.i64_in _ (by omega)]; rfl
  have HP := Lib.hid (fun w' => pick_any o (n + 1) w' ho (by omega) (by omega))
  have hle : pickD o (n + 1) ≤ n := by have := pickD_lt o (n := n + 1) (by omega); omega
  unfold fitsD
  generalize pickD o (n + 1) = P at HP hle ⊢
  have e2 : IntKind.i64.wrap ((n : Int) - (P : Int)) = ((n - P : Nat) : Int) := by rw [IntWalk.i64_in _ (by omega)]; omega
  have HC := Lib.hid (fun w' => cut_str s (n - P) w' hs (by omega))
  clear ho hs
  go_enter Try.func26, Try.ntmps26
  go_wp2_with fail
  refine (HP.out _).mono ?_
  rintro e w1 ⟨rfl, rfl⟩
  go_wp2_with fail
  refine (HC.out _).mono ?_
  rintro e w1 ⟨rfl, rfl⟩
  go_wp2_with fail
  have hnew := heap_alloc_new (w.alloc (.cells #[.int .i64 (P : Int), .string (s.extract 0 (min s.size (n - P))), .bool b] 53)) (.cells #[.int .i64 (P : Int), .string (s.extract 0 (min s.size (n - P))), .bool b] 53)
  have hz : (w.alloc (.cells #[.int .i64 (P : Int), .string (s.extract 0 (min s.size (n - P))), .bool b] 53)).heap.size = w.heap.size + 1 := by simp
  rw [hz] at hnew
  (try simp only [Exit.inBlock, Exit.then])
  refine bodyPost_ret (results_cell_row rfl _ _ (w.heap.size + 1) 53 _ (0, 0) _ rfl hnew Try.underlying53 rfl (by kernel_rfl)) rfl ?_
  exact ⟨rfl, (Gr.alloc _ _).trans (Gr.alloc _ _)⟩
end Go.Proofs.Ytmkdnfiiehgcaaa
