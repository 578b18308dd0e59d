/- A disk that the call itself made, and alone uses: the contracts in one form. -/
import Derived.Test.YtmkdnfiiehgcaaaDsL
namespace Go.Proofs.Ytmkdnfiiehgcaaa
open Go.RowKit

/-- all blocks that have come since w -/
def Nw (w x : World) : Nat → Prop := fun k => w.heap.size ≤ k ∧ k < x.heap.size
/-- a disk in state d, in blocks that have come since w -/
def Alone (w : World) (gd n : Nat) (d : Dk) (x : World) : Prop := DkAt (Nw w x) gd n d x ∧ d.inv n ∧ Gr w x
theorem Alone.lt {w x : World} {gd n : Nat} {d : Dk} (_ : Alone w gd n d x) : ∀ k, Nw w x k → k < x.heap.size := fun _ h => h.2
theorem Alone.nx {w x y : World} {gd n : Nat} {d d' : Dk} (h : Alone w gd n d x) (hc : Chs (Nw w x) x y) (hd : DkAt (Nw w x) gd n d' y) (hi : d'.inv n) : Alone w gd n d' y :=
  ⟨hd.mono (fun _ h => ⟨h.1, Nat.lt_of_lt_of_le h.2 hc.size⟩), hi, Below.trans h.2.2 (hc.below (fun _ h => h.1) h.2.2.size)⟩
theorem Alone.nx2 {w x y : World} {gd n : Nat} {d d' : Dk} (h : Alone w gd n d x) (hc : Chs (Nw w x) x y) (hd : DkAt (Sx (Nw w x) x y) gd n d' y) (hi : d'.inv n) : Alone w gd n d' y :=
  ⟨hd.mono (fun _ h' => by
    rcases h' with h1 | h1
    · exact ⟨h1.1, Nat.lt_of_lt_of_le h1.2 hc.size⟩
    · exact ⟨Nat.le_trans h.2.2.size h1.1, h1.2⟩), hi, Below.trans h.2.2 (hc.below (fun _ h => h.1) h.2.2.size)⟩
theorem Alone.gr {w x y : World} {gd n : Nat} {d : Dk} (h : Alone w gd n d x) (hg : Gr x y) : Alone w gd n d y :=
  ⟨(DiskAt.gr h.1 hg).mono (fun _ h => ⟨h.1, Nat.lt_of_lt_of_le h.2 hg.size⟩), h.2.1, h.2.2.trans hg⟩
theorem a_new (n : Nat) (h1 : 1 ≤ n) (hn : n ≤ 4194304) (w : World) :
    Calls Try.prog 13 #[.int .i64 (n : Int)] w fun e x => ∃ gd, e = .returned (.tuple #[.pointer (some ⟨gd, 0, none⟩), .int .i64 0]) ∧ Alone w gd n (newD n) x := by
  refine (new_any n h1 hn w).mono ?_
  rintro e x ⟨gd, he, hd, hg⟩
  exact ⟨gd, he, hd, newD_inv n, hg⟩
theorem a_write {w x : World} {gd n : Nat} {d : Dk} (o : Int) (s : ByteArray) (h : Alone w gd n d x) (hn : n ≤ 4194304) (hp : d.pend.length ≤ 1000000) (hob : -9223372036854775808 ≤ o ∧ o ≤ 9223372036854775807) :
    Calls Try.prog 21 #[.pointer (some ⟨gd, 0, none⟩), .int .i64 o, .string s] x fun e y => e = .returned (.int .i64 (writeD d n o s).1) ∧ Alone w gd n (writeD d n o s).2 y := by
  refine (write_any o s h.1 h.2.1 hn hp hob h.lt).mono ?_
  rintro e y ⟨he, hd, hc⟩
  exact ⟨he, h.nx2 hc hd (writeD_inv h.2.1)⟩
theorem a_sync {w x : World} {gd n : Nat} {d : Dk} (h : Alone w gd n d x) :
    Calls Try.prog 23 #[.pointer (some ⟨gd, 0, none⟩)] x fun e y => e = .returned (.int .i64 (syncD d).1) ∧ Alone w gd n (syncD d).2 y := by
  refine (sync_any h.1 h.2.1).mono ?_
  rintro e y ⟨he, hd, hc⟩
  exact ⟨he, h.nx hc hd (syncD_inv h.2.1)⟩
theorem a_read {w x : World} {gd n : Nat} {d : Dk} (o m : Int) (h : Alone w gd n d x) (hn : n ≤ 4194304) (hob : -9223372036854775808 ≤ o ∧ o ≤ 9223372036854775807) :
    Calls Try.prog 14 #[.pointer (some ⟨gd, 0, none⟩), .int .i64 o, .int .i64 m] x fun e y => e = .returned (.tuple #[.string (readD d n o m).1, .int .i64 (readD d n o m).2]) ∧ x = y :=
  read_any o m h.1 h.2.1 hn hob
theorem a_cut {w x : World} {gd n : Nat} {d : Dk} (m : Int) (h : Alone w gd n d x) (hm : m ≤ 9223372036854775807) :
    Calls Try.prog 24 #[.pointer (some ⟨gd, 0, none⟩), .int .i64 m] x fun e y => e = .returned (.int .i64 (cutD d m).1) ∧ Alone w gd n (cutD d m).2 y := by
  refine (cut_any m h.1).mono ?_
  rintro e y ⟨he, hd, hc⟩
  exact ⟨he, h.nx hc hd (cutD_inv h.2.1 hm)⟩
theorem a_crash {w x : World} {gd n : Nat} {d : Dk} (v : Value) (keep : List Int) (t : Int) (h : Alone w gd n d x) (hn : n ≤ 4194304) (hp : d.pend.length ≤ 1000000) (hk : keep.length ≤ 1000000) (hz : IntsBelow x.heap.size v keep x)
    (ht : -9223372036854775808 ≤ t ∧ t ≤ 9223372036854775807) :
    Calls Try.prog 25 #[.pointer (some ⟨gd, 0, none⟩), v, .int .i64 t] x fun e y => e = .returned (.int .i64 0) ∧ Alone w gd n (crashD d keep t) y := by
  refine (crash_any v keep t h.1 h.2.1 hn hp hk hz ht h.lt).mono ?_
  rintro e y ⟨he, hd, hc⟩
  exact ⟨he, h.nx hc hd (crashD_inv h.2.1 keep t)⟩
theorem a_size {w x : World} {gd n : Nat} {d : Dk} (h : Alone w gd n d x) : Calls Try.prog 16 #[.pointer (some ⟨gd, 0, none⟩)] x fun e y => e = .returned (.int .i64 (n : Int)) ∧ x = y := size_any h.1
theorem a_pending {w x : World} {gd n : Nat} {d : Dk} (h : Alone w gd n d x) : Calls Try.prog 17 #[.pointer (some ⟨gd, 0, none⟩)] x fun e y => e = .returned (.int .i64 (d.pend.length : Int)) ∧ x = y := pending_any h.1
end Go.Proofs.Ytmkdnfiiehgcaaa
