/- The contracts of the function that Decode defers: where nothing panicked, and where an error number was thrown. -/
import Derived.Defers
import Derived.Recover
import Derived.Laws.Pointers
import Derived.Test.YtjnnhhengpinmaaGreatDoorMkA
namespace Go.Proofs.YtjnnhhengpinmaaGreatDoor
open Go Go.RowKit

theorem row1_set {W : World} {g : Nat} {a a' : Value} {t : TypeId} (h : W.heap[g]? = some (.cells #[a] t (0, 0))) : (W.setCell ⟨g, 0, none⟩ a').heap[g]? = some (.cells #[a'] t (0, 0)) := by
  rw [heap_setCell_same W g 0 _ t a' h]; rfl
theorem assert_errno (n : Int) (w : World) : (Instr.typeAssert (.iface 31 (.int .i64 n)) 20 31 true).run Tryz.prog w = .ok (.tuple #[.int .i64 n, .bool true]) w := by
  kernel_rfl
theorem catch_idle (bp be : Nat) (w : World) :
    CallsD Tryz.prog 70 #[.pointer (some ⟨bp, 0, none⟩), .pointer (some ⟨be, 0, none⟩)] .returning w fun e u' w' => e = .returned (.tuple #[]) ∧ u' = .returning ∧ w' = w := by
  refine callsD_of_wpS Tryz.func70 rfl fun c₀ cs hu => ?_
  simp only [Tryz.ntmps70, List.size_toArray, List.length_cons, List.length_nil, Nat.reduceAdd, Nat.reduceSub, Array.replicate_succ, Array.replicate_zero, List.push_toArray, List.append_toArray, List.nil_append, List.cons_append]
  apply wpS_seq
  apply wpS_region
  simp [wpOpsS, go_sem, recoverD, hu, Exit.thenS]
  refine wpS_of_wp ?_
  go_wp2_with fail
  refine ⟨rfl, .returning, ?_, _, results_none rfl _ _ _, rfl, rfl, rfl⟩
  cases c₀; simp_all
set_option maxRecDepth 100000 in
theorem catch_thrown (bp be : Nat) (n : Int) (older : List PanicEntry) (a b c d : Value) (t1 t2 : TypeId) (w : World) (hp : w.heap[bp]? = some (.cells #[a, b, c] t1 (0, 0))) (he : w.heap[be]? = some (.cells #[d] t2 (0, 0))) (hne : bp ≠ be) :
    CallsD Tryz.prog 70 #[.pointer (some ⟨bp, 0, none⟩), .pointer (some ⟨be, 0, none⟩)] (.panicking ({ v := .iface 31 (.int .i64 n), recovered := false } :: older)) w fun e u' w' =>
      e = .returned (.tuple #[]) ∧ u' = .panicking ({ v := .iface 31 (.int .i64 n), recovered := true } :: older) ∧
      w' = (((w.setCell ⟨bp, 0, none⟩ (.int .i64 0)).setCell ⟨bp, 1, none⟩ (.int .i64 0)).setCell ⟨bp, 2, none⟩ (.slice none 0 0)).setCell ⟨be, 0, none⟩ (.int .i64 n) := by
  obtain ⟨k0, k1, k2⟩ := row3 hp
  obtain ⟨f0, f1, f2⟩ := frozen3 hp
  have e0 := cell_of_row _ be 0 _ _ _ he
  have e1 := frozen_of_row _ be 0 _ _ he
  refine callsD_of_wpS Tryz.func70 rfl fun c₀ cs hu => ?_
  simp only [Tryz.ntmps70, List.size_toArray, List.length_cons, List.length_nil, Nat.reduceAdd, Nat.reduceSub, Array.replicate_succ, Array.replicate_zero, List.push_toArray, List.append_toArray, List.nil_append, List.cons_append]
  apply wpS_seq
  apply wpS_region
  simp [wpOpsS, go_sem, recoverD, hu, Exit.thenS]
  refine wpS_of_wp ?_
  have hta := assert_errno n w
  go_wp2_with fail
  exact ⟨rfl, _, rfl, _, results_none rfl _ _ _, rfl, rfl, rfl⟩
end Go.Proofs.YtjnnhhengpinmaaGreatDoor
