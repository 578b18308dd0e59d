/- The contracts of pick of the statement and of the reference. -/
import Derived.Test.YtaoggehdkddgeaaGreatDoorGenA
import Derived.Test.YtaoggehdkddgeaaGreatDoorGPiR
namespace Go.Proofs.YtaoggehdkddgeaaGreatDoor
section
open Go Go.RowKit Go.Shelf
attribute [local go_sem] gAt gUpon
attribute [local simp] Gr.refl Gr.alloc

theorem pickR_any (c : Int) (n : Nat) (w : World) (hc : I64 c) (hn : 0 < n) (hn2 : n ≤ 4611686018427387904) :
    Calls Tryz.prog 25 #[.int .i64 c, .int .i64 (n : Int)] w fun e w' => e = .returned (.int .i64 (pickD c n : Int)) ∧ w = w' := by
  unfold I64 at hc
  obtain ⟨hc1, hc2⟩ := hc
  by_cases h0 : c < 0
  · have t0 : decide (c < 0) = true := decide_eq_true h0
    obtain ⟨k, hk⟩ : ∃ k : Nat, -(c + 1) = (k : Int) := ⟨(-(c + 1)).toNat, by omega⟩
    have HP : Hid (pickD c n = k % n) := Lib.hid (by unfold pickD absD; rw [if_pos h0, hk]; simp)
    have ha : IntKind.i64.wrap (c + 1) = c + 1 := IntWalk.i64_in _ (by omega)
    have hneg : IntKind.i64.wrap (-(c + 1)) = (k : Int) := by rw [hk]; exact IntWalk.i64_in _ (by omega)
    have hne : ((n : Int) == 0) = false := by rw [beq_eq_false_iff_ne]; omega
    have hne2 : ¬ ((n : Int) = 0) := by omega
    have hne3 : ¬ (n = 0) := by omega
    clear h0
    go_enter Tryz.func25, Tryz.ntmps25
    go_wp2_with fail
    go_ret
    refine ⟨?_, rfl⟩
    rw [HP.out]
    simp
  · have t0 : decide (c < 0) = false := decide_eq_false h0
    obtain ⟨k, rfl⟩ : ∃ k : Nat, c = (k : Int) := ⟨c.toNat, by omega⟩
    have HP : Hid (pickD (k : Int) n = k % n) := Lib.hid (by unfold pickD absD; rw [if_neg h0]; simp)
    have hne : ((n : Int) == 0) = false := by rw [beq_eq_false_iff_ne]; omega
    have hne2 : ¬ ((n : Int) = 0) := by omega
    have hne3 : ¬ (n = 0) := by omega
    clear h0 hc1 hc2
    go_enter Tryz.func25, Tryz.ntmps25
    go_wp2_with fail
    go_ret
    refine ⟨?_, rfl⟩
    rw [HP.out]
    simp
theorem pick_any (c : Int) (n : Nat) (w : World) (hc : I64 c) (hn : 0 < n) (hn2 : n ≤ 4611686018427387904) :
    Calls Tryz.prog 8 #[.int .i64 c, .int .i64 (n : Int)] w fun e w' => e = .returned (.int .i64 (pickD c n : Int)) ∧ w = w' := by
  unfold I64 at hc
  obtain ⟨hc1, hc2⟩ := hc
  by_cases h0 : c < 0
  · have t0 : decide (c < 0) = true := decide_eq_true h0
    obtain ⟨k, hk⟩ : ∃ k : Nat, -(c + 1) = (k : Int) := ⟨(-(c + 1)).toNat, by omega⟩
    have HP : Hid (pickD c n = k % n) := Lib.hid (by unfold pickD absD; rw [if_pos h0, hk]; simp)
    have ha : IntKind.i64.wrap (c + 1) = c + 1 := IntWalk.i64_in _ (by omega)
    have hneg : IntKind.i64.wrap (-(c + 1)) = (k : Int) := by rw [hk]; exact IntWalk.i64_in _ (by omega)
    have hne : ((n : Int) == 0) = false := by rw [beq_eq_false_iff_ne]; omega
    have hne2 : ¬ ((n : Int) = 0) := by omega
    have hne3 : ¬ (n = 0) := by omega
    clear h0
    go_enter Tryz.func8, Tryz.ntmps8
    go_wp2_with fail
    go_ret
    refine ⟨?_, rfl⟩
    rw [HP.out]
    simp
  · have t0 : decide (c < 0) = false := decide_eq_false h0
    obtain ⟨k, rfl⟩ : ∃ k : Nat, c = (k : Int) := ⟨c.toNat, by omega⟩
    have HP : Hid (pickD (k : Int) n = k % n) := Lib.hid (by unfold pickD absD; rw [if_neg h0]; simp)
    have hne : ((n : Int) == 0) = false := by rw [beq_eq_false_iff_ne]; omega
    have hne2 : ¬ ((n : Int) = 0) := by omega
    have hne3 : ¬ (n = 0) := by omega
    clear h0 hc1 hc2
    go_enter Tryz.func8, Tryz.ntmps8
    go_wp2_with fail
    go_ret
    refine ⟨?_, rfl⟩
    rw [HP.out]
    simp
end
section
open Go Go.RowKit Go.Shelf
attribute [local go_sem] gAt gUpon
attribute [local simp] Gr.refl Gr.alloc

def cutD (s : ByteArray) (n : Nat) : ByteArray := s.extract 0 (min s.size n)
theorem cutD_size (s : ByteArray) (n : Nat) : (cutD s n).size = min s.size n := by
  unfold cutD; rw [ByteArray.size_extract]; omega
end
end Go.Proofs.YtaoggehdkddgeaaGreatDoor
