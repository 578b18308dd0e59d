/- DiskNil: the walk. -/
import Derived.Test.YtmkdnfiiehgcaaaDsO
namespace Go.Proofs.Ytmkdnfiiehgcaaa
open Go.RowKit

theorem nil_at (o m : Int) (s : ByteArray) (p : Option Addr) (k c : Nat) (w : World) (hs : s.size ≤ 9223372036854775807) (hk : k ≤ c) :
    Calls Try.prog 5 #[.int .i64 o, .int .i64 m, .string s, .slice p k c] w fun e w' => e = .returned (.bool true) ∧ Gr w w' := by
  have HS := Lib.hid (sane_any w)
  have HR := Lib.hid (fun x => read_nil o m x)
  have HC := Lib.hid (fun x => cut_str s 100 x hs (by decide))
  have HW := Lib.hid (fun x => write_nil o (s.extract 0 (min s.size 100)) x)
  have HY := Lib.hid sync_nil
  have HK := Lib.hid (fun x => cut_nil m x)
  have HX := Lib.hid (fun v x => crash_nil v m x)
  have HP := Lib.hid pending_nil
  have HZ := Lib.hid size_nil
  have emn : min (k : Int) 100 = ((min k 100 : Nat) : Int) := by omega
  have hm1 : min k 100 ≤ c := by omega
  have hm2 : min k 100 ≤ k := Nat.min_le_left _ _
  clear hs
  go_enter Try.func5, Try.ntmps5
  go_wp2_with fail
  refine HS.out.mono ?_
  rintro e w1 ⟨rfl, hg1⟩
  have HG1 := Lib.hid hg1
  clear hg1 HS
  go_wp2_with fail
  refine (HR.out _).mono ?_
  rintro e w2 ⟨rfl, rfl⟩
  go_wp2_with fail
  refine (HC.out _).mono ?_
  rintro e w2 ⟨rfl, rfl⟩
  go_wp2_with fail
  refine (HW.out _).mono ?_
  rintro e w2 ⟨rfl, rfl⟩
  go_wp2_with fail
  refine (HY.out _).mono ?_
  rintro e w2 ⟨rfl, rfl⟩
  go_wp2_with fail
  refine (HK.out _).mono ?_
  rintro e w2 ⟨rfl, rfl⟩
  go_wp2_with fail
  refine (HX.out _ _).mono ?_
  rintro e w2 ⟨rfl, hg2⟩
  have HG2 := Lib.hid (HG1.out.trans hg2)
  clear hg2
  go_wp2_with fail
  refine (HP.out _).mono ?_
  rintro e w3 ⟨rfl, rfl⟩
  go_wp2_with fail
  refine (HZ.out _).mono ?_
  rintro e w3 ⟨rfl, rfl⟩
  go_wp2_with fail
  go_ret
  exact ⟨rfl, HG2.out⟩
theorem nil_any (o m : Int) (s : ByteArray) (v : Value) (l : List Int) (w : World) (_ : -9223372036854775808 ≤ o ∧ o ≤ 9223372036854775807) (_ : -9223372036854775808 ≤ m ∧ m ≤ 9223372036854775807) (hs : s.size ≤ 9223372036854775807) (hv : RowsIn 1 IntR v l w) :
    Calls Try.prog 5 #[.int .i64 o, .int .i64 m, .string s, v] w fun e w' => e = .returned (.bool true) ∧ Gr w w' := by
  obtain ⟨p, c, rfl, h⟩ := hv.shape
  refine nil_at o m s p l.length c w hs ?_
  rcases h with h | h
  · exact h
  · rw [h]; exact Nat.zero_le _
end Go.Proofs.Ytmkdnfiiehgcaaa
