/- The greatest power of two below a number: its laws, and the contracts of the functions that compute it. -/
import Derived.Test.YtbkhkpcnclhoiaaDoorNode
namespace Go.Proofs.YtbkhkpcnclhoiaaDoor
open Go.RowKit

/-- the greatest power of two that is less than n -/
def lp (n : Nat) : Nat := 2 ^ Nat.log2 (n - 1)
theorem lp_spec (n : Nat) (h : 2 ≤ n) : lp n < n ∧ n ≤ 2 * lp n := by
  have h1 : n - 1 ≠ 0 := by omega
  have h2 := Nat.log2_self_le h1
  have h3 := Nat.lt_log2_self (n := n - 1)
  unfold lp
  rw [Nat.pow_succ] at h3
  omega
theorem lp_pos (n : Nat) : 0 < lp n := Nat.pow_pos (by decide)
theorem lp_unique (n j : Nat) (h1 : 2 ^ j < n) (h2 : n ≤ 2 * 2 ^ j) : 2 ^ j = lp n := by
  have : Nat.log2 (n - 1) = j := by
    refine (Nat.log2_eq_iff (by have := Nat.pow_pos (n := j) (show 0 < 2 by decide); omega)).2 ⟨by omega, ?_⟩
    rw [Nat.pow_succ]; omega
  rw [lp, this]
theorem bitLen_lp (n : Nat) (h : 2 ≤ n) (hn : n ≤ 9223372036854775807) : ∃ j : Nat, Lib.bitLen (n - 1) = j + 1 ∧ j ≤ 62 ∧ 2 ^ j = lp n := by
  have h1 : n - 1 ≠ 0 := by omega
  have h2 := Nat.log2_self_le h1
  have h3 := Nat.lt_log2_self (n := n - 1)
  refine ⟨Nat.log2 (n - 1), ?_, ?_, rfl⟩
  · have h4 := Lib.bitLen_shift (Nat.log2 (n - 1)) (n - 1) h2 (by have : (2 : Nat) ^ 64 = 18446744073709551616 := by decide
                                                                  omega)
    have h5 : (n - 1) / 2 ^ Nat.log2 (n - 1) = 1 := by
      rw [Nat.div_eq_iff (Nat.pow_pos (by decide))]
      rw [Nat.pow_succ] at h3
      omega
    rw [h4, h5]; rfl
  · have : Nat.log2 (n - 1) < 63 := (Nat.log2_lt h1).2 (by have : (2 : Nat) ^ 63 = 9223372036854775808 := by decide
                                                           omega)
    omega
theorem lp_le (n : Nat) (h : 2 ≤ n) (hn : n ≤ 9223372036854775807) : lp n ≤ 4611686018427387904 := by
  obtain ⟨j, _, hj, h2⟩ := bitLen_lp n h hn
  rw [← h2]
  exact Nat.le_trans (Nat.pow_le_pow_right (by decide) hj) (by decide)

theorem left_any (n : Nat) (h : 2 ≤ n) (hn : n ≤ 9223372036854775807) (w : World) :
    Calls Tryd.prog 37 #[.int .i64 (n : Int)] w fun e w' => e = .returned (.int .i64 ((lp n : Nat) : Int)) ∧ w = w' := by
  obtain ⟨j, hb, hj, hp⟩ := bitLen_lp n h hn
  have hle := lp_le n h hn
  have e1 : IntKind.i64.wrap ((n : Int) - 1) = (n : Int) - 1 := IntWalk.i64_in _ (by omega)
  have hu : IntKind.u64.wrap ((n : Int) - 1) = (n : Int) - 1 := by rw [IntKind.wrap_u64]; omega
  have hbl : Lib.bitLen ((n : Int) - 1).toNat = j + 1 := by rw [show ((n : Int) - 1).toNat = n - 1 by omega]; exact hb
  have HP := Lib.hid hp
  have HB := Lib.hid hbl
  clear hp hb hbl
  have hn1 : (1 : Int) ≤ (n : Int) - 1 := by omega
  go_enter Tryd.func37, Tryd.ntmps37
  go_wp2_with fail
  refine (Tryd.bits_Len _ _ (by omega) (by omega)).mono ?_
  rintro e w' ⟨rfl, rfl⟩
  rw [HB.out]
  have hsh : ((((j + 1 : Nat) : Int) - 1)) = (j : Int) := by omega
  go_wp2_with fail
  go_ret
  refine ⟨?_, rfl⟩
  have h1 : wrap64 ((2 : Int) ^ j) = ((lp n : Nat) : Int) := by
    have h2 : (2 : Int) ^ j = ((lp n : Nat) : Int) := by rw [← HP.out]; simp
    rw [h2]
    exact IntWalk.wrap64_in _ ⟨by omega, by omega⟩
  show Ending.returned (.int .i64 (wrap64 ((2 : Int) ^ j))) = _
  rw [h1]

/-- the loop that the reference and the statements share -/
def isPow (k : Nat) : Prop := ∃ j, k = 2 ^ j
theorem isPow_two {k : Nat} (h : isPow k) : isPow (2 * k) := by
  obtain ⟨j, rfl⟩ := h; exact ⟨j + 1, by rw [Nat.pow_succ]; omega⟩
theorem isPow_lp {k n : Nat} (h : isPow k) (h1 : k < n) (h2 : n ≤ 2 * k) : k = lp n := by
  obtain ⟨j, rfl⟩ := h; exact lp_unique n j h1 h2
theorem refLeft_any (n : Nat) (h : 2 ≤ n) (hn : n ≤ 9223372036854775807) (w : World) :
    Calls Tryd.prog 39 #[.int .i64 (n : Int)] w fun e w' => e = .returned (.int .i64 ((lp n : Nat) : Int)) ∧ w = w' := by
  go_enter Tryd.func39, Tryd.ntmps39
  go_wp2
  go_loop [3] (fun t => ∃ k : Nat, 0 < k ∧ k < n ∧ Hid (isPow k) ∧ t = .int .i64 k) (fun t => n - (intOf t).toNat)
  case atStart => exact ⟨1, by omega, by omega, Lib.hid ⟨0, rfl⟩, rfl⟩
  case round =>
    obtain ⟨k, hk0, hk, hp, rfl⟩ := hrel
    by_cases hlt : 2 * k < n
    · have ht : (k : Int) < (n : Int) - (k : Int) := by omega
      go_wp2
      go_round
      case rel => exact ⟨2 * k, by omega, by omega, Lib.hid (isPow_two hp.out), by go_num⟩
      case measure => simp [intOf]; omega
    · have ht : (n : Int) - (k : Int) ≤ (k : Int) := by omega
      have HL : Hid (k = lp n) := Lib.hid (isPow_lp hp.out hk (by omega))
      go_wp2
      go_ret
      exact ⟨by rw [← HL.out]; rfl, rfl⟩
theorem lawLeft_any (n : Nat) (h : 2 ≤ n) (hn : n ≤ 9223372036854775807) (w : World) :
    Calls Tryd.prog 28 #[.int .i64 (n : Int)] w fun e w' => e = .returned (.int .i64 ((lp n : Nat) : Int)) ∧ w = w' := by
  go_enter Tryd.func28, Tryd.ntmps28
  go_wp2
  go_loop [3] (fun t => ∃ k : Nat, 0 < k ∧ k < n ∧ Hid (isPow k) ∧ t = .int .i64 k) (fun t => n - (intOf t).toNat)
  case atStart => exact ⟨1, by omega, by omega, Lib.hid ⟨0, rfl⟩, rfl⟩
  case round =>
    obtain ⟨k, hk0, hk, hp, rfl⟩ := hrel
    by_cases hlt : 2 * k < n
    · have ht : (k : Int) < (n : Int) - (k : Int) := by omega
      go_wp2
      go_round
      case rel => exact ⟨2 * k, by omega, by omega, Lib.hid (isPow_two hp.out), by go_num⟩
      case measure => simp [intOf]; omega
    · have ht : (n : Int) - (k : Int) ≤ (k : Int) := by omega
      have HL : Hid (k = lp n) := Lib.hid (isPow_lp hp.out hk (by omega))
      go_wp2
      go_ret
      exact ⟨by rw [← HL.out]; rfl, rfl⟩
end Go.Proofs.YtbkhkpcnclhoiaaDoor
