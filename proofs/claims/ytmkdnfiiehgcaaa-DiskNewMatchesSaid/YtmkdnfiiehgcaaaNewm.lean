/- DiskNewMatches: the walk. -/
import Derived.Test.YtmkdnfiiehgcaaaDsO
namespace Go.Proofs.Ytmkdnfiiehgcaaa
open Go.RowKit

theorem read_new {n p : Nat} (h : p < n) : readD (newD n) n (p : Int) 1 = (⟨#[0]⟩, 0) := by
  unfold readD
  rw [if_neg (by simp [newD]), if_neg (by rw [show (1 : Int) = ((1 : Nat) : Int) from rfl, insideD_of (by omega)]; simp)]
  simp [newD, List.drop_replicate, List.take_replicate]
  rw [Nat.min_eq_left (by omega)]; rfl
theorem newm_any (z a : Int) (w : World) (hz : -9223372036854775808 ≤ z ∧ z ≤ 9223372036854775807) (ha : -9223372036854775808 ≤ a ∧ a ≤ 9223372036854775807) :
    Calls Try.prog 3 #[.int .i64 z, .int .i64 a] w fun e w' => e = .returned (.bool true) ∧ Gr w w' := by
  have HS := Lib.hid (sane_any w)
  by_cases h : z < 1 ∨ 4194304 < z
  · have HN := Lib.hid (fun x => new_no z x h)
    by_cases h1 : z < 1
    · have t1 : decide (z < 1) = true := decide_eq_true h1
      clear hz ha h
      go_enter Try.func3, Try.ntmps3
      go_wp2_with fail
      refine HS.out.mono ?_
      rintro e w1 ⟨rfl, hg1⟩
      have HG1 := Lib.hid hg1
      clear hg1
      go_wp2_with fail
      refine (HN.out _).mono ?_
      rintro e w2 ⟨rfl, rfl⟩
      go_wp2_with fail
      go_ret
      exact ⟨rfl, HG1.out⟩
    · have t1 : decide (z < 1) = false := decide_eq_false h1
      have t2 : decide (4194304 < z) = true := decide_eq_true (by omega)
      clear hz ha h
      go_enter Try.func3, Try.ntmps3
      go_wp2_with fail
      refine HS.out.mono ?_
      rintro e w1 ⟨rfl, hg1⟩
      have HG1 := Lib.hid hg1
      clear hg1
      go_wp2_with fail
      refine (HN.out _).mono ?_
      rintro e w2 ⟨rfl, rfl⟩
      go_wp2_with fail
      go_ret
      exact ⟨rfl, HG1.out⟩
  · obtain ⟨n, rfl⟩ := Int.eq_ofNat_of_zero_le (show 0 ≤ z by omega)
    have hn1 : 1 ≤ n := by omega
    have hn2 : n ≤ 4194304 := by omega
    have HN := Lib.hid (fun x => a_new n hn1 hn2 x)
    have HP := Lib.hid (fun x => pick_any a n x ha (by omega) (by omega))
    have hlt := pickD_lt a (n := n) (by omega)
    generalize pickD a n = p at HP hlt
    have t1 : decide (n < 1) = false := decide_eq_false (by omega)
    have t2 : decide ((4194304 : Int) < n) = false := decide_eq_false (by omega)
    have t3 : decide (4194304 < n) = false := decide_eq_false (by omega)
    clear hz ha h
    go_enter Try.func3, Try.ntmps3
    go_wp2_with fail
    refine HS.out.mono ?_
    rintro e w1 ⟨rfl, hg1⟩
    have HG1 := Lib.hid hg1
    clear hg1
    go_wp2_with fail
    refine (HN.out _).mono ?_
    rintro e w2 ⟨gd, rfl, ha⟩
    have HR := Lib.hid (r_read (read_new hlt) ha hn2 (by omega))
    have HZ := Lib.hid (a_size ha)
    have HQ := Lib.hid (a_pending ha)
    have HG := Lib.hid (HG1.out.trans ha.2.2)
    clear ha HN HS HG1 hlt
    go_wp2_with fail
    refine (HP.out _).mono ?_
    rintro e w3 ⟨rfl, rfl⟩
    go_wp2_with fail
    refine HR.out.mono ?_
    rintro e w3 ⟨rfl, rfl⟩
    go_wp2_with fail
    refine HZ.out.mono ?_
    rintro e w3 ⟨rfl, rfl⟩
    go_wp2_with fail
    refine HQ.out.mono ?_
    rintro e w3 ⟨rfl, rfl⟩
    go_wp2_with fail
    go_ret
    exact ⟨rfl, HG.out⟩
end Go.Proofs.Ytmkdnfiiehgcaaa
