/- The laws' small helpers: pick, cut, fits. -/
import Derived.Test.YtmkdnfiiehgcaaaDsJ
namespace Go.Proofs.Ytmkdnfiiehgcaaa
open Go.RowKit

theorem pick_any (c : Int) (n : Nat) (w : World) (hc : -9223372036854775808 ≤ c ∧ c ≤ 9223372036854775807) (hn : 0 < n) (hn2 : n ≤ 9223372036854775807) :
    Calls Try.prog 15 #[.int .i64 c, .int .i64 (n : Int)] w fun e w' => e = .returned (.int .i64 ((pickD c n : Nat) : Int)) ∧ w = w' := by
  have hne : ((n : Int) == 0) = false := by rw [beq_eq_false_iff_ne]; omega
  by_cases h : c < 0
  · have t1 : decide (c < 0) = true := decide_eq_true h
    have e1 : IntKind.i64.wrap (c + 1) = c + 1 := IntWalk.i64_in _ (by omega)
    have e2 : IntKind.i64.wrap (-(c + 1)) = -(c + 1) := IntWalk.i64_in _ (by omega)
    have hp : ((pickD c n : Nat) : Int) = (-(c + 1)).tmod (n : Int) := by
      unfold pickD
      rw [if_pos h, Int.natCast_emod, Int.toNat_of_nonneg (by omega), Int.tmod_eq_emod_of_nonneg (by omega)]
    have hlt := pickD_lt c hn
    have e3 : IntKind.i64.wrap ((-(c + 1)).tmod (n : Int)) = (-(c + 1)).tmod (n : Int) := IntWalk.i64_in _ (by omega)
    have HP := Lib.hid hp
    clear hp hlt
    go_enter Try.func15, Try.ntmps15
    go_wp2
    go_ret
    exact ⟨by rw [HP.out, Int.neg_tmod]; rfl, rfl⟩
  · have t1 : decide (c < 0) = false := decide_eq_false h
    have hp : ((pickD c n : Nat) : Int) = c.tmod (n : Int) := by
      unfold pickD
      rw [if_neg h, Int.natCast_emod, Int.toNat_of_nonneg (by omega), Int.tmod_eq_emod_of_nonneg (by omega)]
    have hlt := pickD_lt c hn
    have e3 : IntKind.i64.wrap (c.tmod (n : Int)) = c.tmod (n : Int) := IntWalk.i64_in _ (by omega)
    have HP := Lib.hid hp
    clear hp hlt
    go_enter Try.func15, Try.ntmps15
    go_wp2
    go_ret
    exact ⟨by rw [HP.out, Int.tmod_eq_emod_of_nonneg (by omega)]; rfl, rfl⟩
theorem cut_str (s : ByteArray) (m : Nat) (w : World) (hs : s.size ≤ 9223372036854775807) (hm : m ≤ 9223372036854775807) :
    Calls Try.prog 22 #[.string s, .int .i64 (m : Int)] w fun e w' => e = .returned (.string (s.extract 0 (min s.size m))) ∧ w = w' := by
  have emn : min (s.size : Int) (m : Int) = ((min s.size m : Nat) : Int) := by omega
  have hms : min s.size m ≤ s.size := Nat.min_le_left _ _
  go_enter Try.func22, Try.ntmps22
  go_wp2
  go_ret
  exact ⟨rfl, rfl⟩
end Go.Proofs.Ytmkdnfiiehgcaaa
