/- The contract of the disk's New. -/
import Derived.Test.YtmkdnfiiehgcaaaDsB
import Derived.Laws.MakeOwn
namespace Go.Proofs.Ytmkdnfiiehgcaaa
open Go.RowKit
attribute [local go_sem] gAt gUpon
attribute [local simp] Gr.refl Gr.alloc

theorem info5 : (Try.prog.info? 5).map (fun i => (i.zero, i.size, i.bytes)) = some (some (.int .u8 0), 1, 1) := by kernel_rfl
theorem new_no (n : Int) (w : World) (h : n < 1 ∨ 4194304 < n) : Calls Try.prog 13 #[.int .i64 n] w fun e w' => e = .returned (.tuple #[.pointer none, .int .i64 2]) ∧ w = w' := by
  by_cases h1 : n < 1
  · have t1 : decide (n < 1) = true := decide_eq_true h1
    clear h
    go_enter Try.func13, Try.ntmps13
    go_wp2
    go_ret2
    exact ⟨rfl, rfl⟩
  · have t1 : decide (n < 1) = false := decide_eq_false h1
    have t2 : decide (4194304 < n) = true := decide_eq_true (by omega)
    clear h
    go_enter Try.func13, Try.ntmps13
    go_wp2
    go_ret2
    exact ⟨rfl, rfl⟩
theorem zero_row (n : Nat) : madeCells (Value.int .u8 0).cells n = (byC (List.replicate n 0)).toArray := by
  apply Array.ext
  · simp [madeCells, byC, Value.cells]
  · intro i h1 h2
    have h0 : i % 1 = 0 := Nat.mod_one i
    simp [madeCells, byC, Value.cells, h0]
theorem run_make40 (n : Nat) (hn : n ≤ 4194304) (w : World) : (Instr.makeSlice 40 (.int .i64 (n : Int)) (.int .i64 (n : Int))).run Try.prog w = .ok (.slice (some ⟨w.heap.size, 0, none⟩) n n) (w.alloc (.cells (byC (List.replicate n 0)).toArray 5)) := by
  obtain ⟨i5, hi5, hz5, hsz5, hb5⟩ := info_parts info5
  have h := run_makeSlice (P := Try.prog) (w := w) 40 5 i5 _ Try.underlying40 hi5 hz5 .i64 .i64 (n : Int) (n : Int) (by omega) (Int.le_refl _) (by rw [hsz5]; simp; omega) (by rw [hb5]; omega) (by omega)
  rw [h, hsz5, Int.toNat_natCast, Nat.mul_one, zero_row]
theorem new_at (w : World) (n a b : Nat) (h : (a = w.heap.size ∧ b = w.heap.size + 1) ∨ (a = w.heap.size + 1 ∧ b = w.heap.size)) :
    DkAt (fun k => w.heap.size ≤ k ∧ k < w.heap.size + 3) (w.heap.size + 1 + 1) n (newD n) ((((w.alloc (.cells (byC (List.replicate n 0)).toArray 5)).alloc (.cells (byC (List.replicate n 0)).toArray 5)).alloc
      (.cells #[.bool false, .int .i64 0, .slice (some ⟨a, 0, none⟩) n n, .slice (some ⟨b, 0, none⟩) n n, .slice none 0 0] 65)).drew) := by
  have r0 : (((w.alloc (.cells (byC (List.replicate n 0)).toArray 5)).alloc (.cells (byC (List.replicate n 0)).toArray 5)).alloc (.cells #[.bool false, .int .i64 0, .slice (some ⟨a, 0, none⟩) n n, .slice (some ⟨b, 0, none⟩) n n, .slice none 0 0] 65)).heap[w.heap.size]? = some (.cells (byC (List.replicate n 0)).toArray 5 (0, 0)) :=
    (Gr.alloc _ _).block ((Gr.alloc _ _).block (heap_alloc_new w _))
  have r1 : (((w.alloc (.cells (byC (List.replicate n 0)).toArray 5)).alloc (.cells (byC (List.replicate n 0)).toArray 5)).alloc (.cells #[.bool false, .int .i64 0, .slice (some ⟨a, 0, none⟩) n n, .slice (some ⟨b, 0, none⟩) n n, .slice none 0 0] 65)).heap[w.heap.size + 1]? = some (.cells (byC (List.replicate n 0)).toArray 5 (0, 0)) := by
    have := heap_alloc_new (w.alloc (.cells (byC (List.replicate n 0)).toArray 5)) (.cells (byC (List.replicate n 0)).toArray 5)
    rw [World.size_alloc] at this
    exact (Gr.alloc _ _).block this
  have r2 : (((w.alloc (.cells (byC (List.replicate n 0)).toArray 5)).alloc (.cells (byC (List.replicate n 0)).toArray 5)).alloc (.cells #[.bool false, .int .i64 0, .slice (some ⟨a, 0, none⟩) n n, .slice (some ⟨b, 0, none⟩) n n, .slice none 0 0] 65)).heap[w.heap.size + 1 + 1]? = some (.cells #[.bool false, .int .i64 0, .slice (some ⟨a, 0, none⟩) n n, .slice (some ⟨b, 0, none⟩) n n, .slice none 0 0] 65 (0, 0)) := by
    have := heap_alloc_new ((w.alloc (.cells (byC (List.replicate n 0)).toArray 5)).alloc (.cells (byC (List.replicate n 0)).toArray 5)) (.cells #[.bool false, .int .i64 0, .slice (some ⟨a, 0, none⟩) n n, .slice (some ⟨b, 0, none⟩) n n, .slice none 0 0] 65)
    rw [World.size_alloc, World.size_alloc] at this
    exact this
  rcases h with ⟨rfl, rfl⟩ | ⟨rfl, rfl⟩
  · exact ⟨w.heap.size, w.heap.size + 1, .slice none 0 0, ⟨by omega, by omega⟩, ⟨by omega, by omega⟩, ⟨by omega, by omega⟩, by omega, by omega, by omega, (fun g hg => by simp [Value.ownBlock] at hg), r2, r0, r1, Own.nil _ _ _⟩
  · exact ⟨w.heap.size + 1, w.heap.size, .slice none 0 0, ⟨by omega, by omega⟩, ⟨by omega, by omega⟩, ⟨by omega, by omega⟩, by omega, by omega, by omega, (fun g hg => by simp [Value.ownBlock] at hg), r2, r1, r0, Own.nil _ _ _⟩
set_option maxHeartbeats 1000000 in
theorem new_any (n : Nat) (h1 : 1 ≤ n) (hn : n ≤ 4194304) (w : World) :
    Calls Try.prog 13 #[.int .i64 (n : Int)] w fun e w' => ∃ gd, e = .returned (.tuple #[.pointer (some ⟨gd, 0, none⟩), .int .i64 0]) ∧ DkAt (fun k => w.heap.size ≤ k ∧ k < w'.heap.size) gd n (newD n) w' ∧ Gr w w' := by
  have hmk := fun w => run_make40 n hn w
  have t1 : decide (n < 1) = false := decide_eq_false (by omega)
  have t2 : decide ((4194304 : Int) < n) = false := decide_eq_false (by omega)
  go_enter Try.func13, Try.ntmps13
  go_upto_region 3 with fail
  go_region
  · clear hmk
    have HN := Lib.hid (new_at w n w.heap.size (w.heap.size + 1) (.inl ⟨rfl, rfl⟩))
    have HG : Hid (Gr w ((((w.alloc (.cells (byC (List.replicate n 0)).toArray 5)).alloc (.cells (byC (List.replicate n 0)).toArray 5)).alloc (.cells #[.bool false, .int .i64 0, .slice (some ⟨w.heap.size, 0, none⟩) n n, .slice (some ⟨w.heap.size + 1, 0, none⟩) n n, .slice none 0 0] 65)).drew)) := Lib.hid ((((Gr.alloc w _).trans (Gr.alloc _ _)).trans (Gr.alloc _ _)).trans (Gr.drew _))
    go_wp2_with fail
    go_ret2
    refine ⟨_, rfl, HN.out.mono (fun k hk => ⟨hk.1, ?_⟩), HG.out⟩
    have := hk.2; simp; omega
  · clear hmk
    have HN := Lib.hid (new_at w n (w.heap.size + 1) w.heap.size (.inr ⟨rfl, rfl⟩))
    have HG : Hid (Gr w ((((w.alloc (.cells (byC (List.replicate n 0)).toArray 5)).alloc (.cells (byC (List.replicate n 0)).toArray 5)).alloc (.cells #[.bool false, .int .i64 0, .slice (some ⟨w.heap.size + 1, 0, none⟩) n n, .slice (some ⟨w.heap.size, 0, none⟩) n n, .slice none 0 0] 65)).drew)) := Lib.hid ((((Gr.alloc w _).trans (Gr.alloc _ _)).trans (Gr.alloc _ _)).trans (Gr.drew _))
    go_wp2_with fail
    go_ret2
    refine ⟨_, rfl, HN.out.mono (fun k hk => ⟨hk.1, ?_⟩), HG.out⟩
    have := hk.2; simp; omega
end Go.Proofs.Ytmkdnfiiehgcaaa
