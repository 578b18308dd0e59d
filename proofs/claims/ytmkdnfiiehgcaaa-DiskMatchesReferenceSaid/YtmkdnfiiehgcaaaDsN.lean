/- The laws' sane. -/
import Derived.Test.YtmkdnfiiehgcaaaDsM
namespace Go.Proofs.Ytmkdnfiiehgcaaa
open Go.RowKit

def sA : Dk := ⟨false, 0, [0, 0, 0, 0], [97, 98, 0, 0], [(0, ⟨#[97, 98]⟩)]⟩
def sB : Dk := ⟨false, 0, [0, 0, 0, 0], [97, 120, 121, 0], [(0, ⟨#[97, 98]⟩), (1, ⟨#[120, 121]⟩)]⟩
def sD : Dk := ⟨false, 0, [97, 120, 0, 0], [97, 120, 0, 0], []⟩
def sE : Dk := ⟨false, 1, [97, 120, 0, 0], [97, 120, 0, 0], []⟩
def sF : Dk := ⟨true, 0, [97, 120, 0, 0], [97, 120, 0, 113], [(3, ⟨#[113]⟩)]⟩
theorem s1 : writeD (newD 4) 4 0 ⟨#[97, 98]⟩ = (0, sA) := by kernel_rfl
theorem s2 : writeD sA 4 1 ⟨#[120, 121]⟩ = (0, sB) := by kernel_rfl
theorem s3 : writeD sB 4 3 ⟨#[122, 122]⟩ = (250, sB) := by kernel_rfl
theorem s4 : readD sB 4 0 4 = (⟨#[97, 120, 121, 0]⟩, 0) := by kernel_rfl
theorem s5 : crashD sB [1, 0] 1 = sD := by kernel_rfl
theorem s6 : readD sD 4 0 4 = (⟨#[97, 120, 0, 0]⟩, 0) := by kernel_rfl
theorem s7 : cutD sD 1 = (0, sE) := by kernel_rfl
theorem s8 : writeD sE 4 3 ⟨#[113]⟩ = (0, sF) := by kernel_rfl
theorem s9 : syncD sF = (251, sF) := by kernel_rfl
theorem r_write {w x : World} {gd n : Nat} {d d' : Dk} {o r : Int} {s : ByteArray} (hr : writeD d n o s = (r, d')) (h : Alone w gd n d x) (hn : n ≤ 4194304) (hp : d.pend.length ≤ 1000000) (hob : -9223372036854775808 ≤ o ∧ o ≤ 9223372036854775807) :
    Calls Try.prog 21 #[.pointer (some ⟨gd, 0, none⟩), .int .i64 o, .string s] x fun e y => e = .returned (.int .i64 r) ∧ Alone w gd n d' y := by
  have := a_write o s h hn hp hob; rw [hr] at this; exact this
theorem r_sync {w x : World} {gd n : Nat} {d d' : Dk} {r : Int} (hr : syncD d = (r, d')) (h : Alone w gd n d x) :
    Calls Try.prog 23 #[.pointer (some ⟨gd, 0, none⟩)] x fun e y => e = .returned (.int .i64 r) ∧ Alone w gd n d' y := by
  have := a_sync h; rw [hr] at this; exact this
theorem r_cut {w x : World} {gd n : Nat} {d d' : Dk} {m r : Int} (hr : cutD d m = (r, d')) (h : Alone w gd n d x) (hm : m ≤ 9223372036854775807) :
    Calls Try.prog 24 #[.pointer (some ⟨gd, 0, none⟩), .int .i64 m] x fun e y => e = .returned (.int .i64 r) ∧ Alone w gd n d' y := by
  have := a_cut m h hm; rw [hr] at this; exact this
theorem r_read {w x : World} {gd n : Nat} {d : Dk} {o m r : Int} {t : ByteArray} (hr : readD d n o m = (t, r)) (h : Alone w gd n d x) (hn : n ≤ 4194304) (hob : -9223372036854775808 ≤ o ∧ o ≤ 9223372036854775807) :
    Calls Try.prog 14 #[.pointer (some ⟨gd, 0, none⟩), .int .i64 o, .int .i64 m] x fun e y => e = .returned (.tuple #[.string t, .int .i64 r]) ∧ x = y := by
  have := a_read o m h hn hob; rw [hr] at this; exact this
theorem sane_any (w : World) : Calls Try.prog 12 #[] w fun e w' => e = .returned (.bool true) ∧ Gr w w' := by
  have HN := Lib.hid (a_new 4 (by decide) (by decide) w)
  have H0 := Lib.hid (fun x => new_no 0 x (.inl (by decide)))
  go_enter Try.func12, Try.ntmps12
  go_wp2_with fail
  refine HN.out.mono ?_
  rintro e x1 ⟨gd, rfl, h1⟩
  have H1 := Lib.hid h1
  clear h1 HN
  go_wp2_with fail
  refine (H0.out _).mono ?_
  rintro e x2 ⟨rfl, rfl⟩
  have HW1 := Lib.hid (r_write s1 H1.out (by decide) (by decide) (by decide))
  clear H0 H1
  go_wp2_with fail
  refine HW1.out.mono ?_
  rintro e x2 ⟨rfl, h2⟩
  have HW2 := Lib.hid (r_write s2 h2 (by decide) (by decide) (by decide))
  clear h2 HW1
  go_wp2_with fail
  refine HW2.out.mono ?_
  rintro e x3 ⟨rfl, h3⟩
  have HW3 := Lib.hid (r_write s3 h3 (by decide) (by decide) (by decide))
  clear h3 HW2
  go_wp2_with fail
  refine HW3.out.mono ?_
  rintro e x4 ⟨rfl, h4⟩
  have HR := Lib.hid (r_read s4 h4 (by decide) (by decide))
  have HP : Hid (∀ x, x = x4 → Calls Try.prog 17 #[.pointer (some ⟨gd, 0, none⟩)] x fun e y => e = .returned (.int .i64 2) ∧ x = y) := Lib.hid (fun x hx => by subst hx; exact a_pending h4)
  have H4 := Lib.hid h4
  clear h4 HW3
  go_wp2_with fail
  refine HR.out.mono ?_
  rintro e x5 ⟨rfl, rfl⟩
  go_wp2_with fail
  refine (HP.out _ rfl).mono ?_
  rintro e x5 ⟨rfl, rfl⟩
  clear HR HP
  have HCr : Hid (Calls Try.prog 25 #[.pointer (some ⟨gd, 0, none⟩), .slice (some ⟨x4.heap.size, 0, none⟩) 2 2, .int .i64 1] (x4.alloc (.cells #[.int .i64 1, .int .i64 0] 3)) fun e y => e = .returned (.int .i64 0) ∧ Alone w gd 4 sD y) := Lib.hid (by
    have := a_crash (.slice (some ⟨x4.heap.size, 0, none⟩) 2 2) [1, 0] 1 (H4.out.gr (Gr.alloc x4 (.cells #[.int .i64 1, .int .i64 0] 3))) (by decide) (by decide) (by decide) (.inr ⟨x4.heap.size, 0, 2, rfl, by simp, fun j x hj => by
      rw [cell_of_row _ _ _ _ _ _ (heap_alloc_new x4 _)]
      match j, hj with
      | 0, hj => simp at hj; subst hj; rfl
      | 1, hj => simp at hj; subst hj; rfl⟩) (by decide)
    rw [s5] at this; exact this)
  clear H4
  go_wp2_with fail
  refine HCr.out.mono ?_
  rintro e x6 ⟨rfl, h6⟩
  have HR := Lib.hid (r_read s6 h6 (by decide) (by decide))
  have HK := Lib.hid (r_cut s7 h6 (by decide))
  clear h6 HCr
  go_wp2_with fail
  refine HR.out.mono ?_
  rintro e x7 ⟨rfl, rfl⟩
  clear HR
  go_wp2_with fail
  refine HK.out.mono ?_
  rintro e x8 ⟨rfl, h8⟩
  have HW := Lib.hid (r_write s8 h8 (by decide) (by decide) (by decide))
  clear h8 HK
  go_wp2_with fail
  refine HW.out.mono ?_
  rintro e x9 ⟨rfl, h9⟩
  have HS := Lib.hid (r_sync s9 h9)
  clear h9 HW
  go_wp2_with fail
  refine HS.out.mono ?_
  rintro e xa ⟨rfl, ha⟩
  have HZ := Lib.hid (a_size ha)
  have HG := Lib.hid ha.2.2
  clear ha HS
  go_wp2_with fail
  refine HZ.out.mono ?_
  rintro e xb ⟨rfl, rfl⟩
  clear HZ
  go_wp2_with fail
  go_ret
  exact ⟨rfl, HG.out⟩
end Go.Proofs.Ytmkdnfiiehgcaaa
