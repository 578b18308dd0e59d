/- A disk among other blocks that the call made: X is what the disk's calls leave alone. -/
import Derived.Test.YtmkdnfiiehgcaaaDsO
import Derived.Test.YtmkdnfiiehgcaaaPut
namespace Go.Proofs.Ytmkdnfiiehgcaaa
open Go.RowKit

/-- a disk in state d; its blocks came since w, and none is in X; X's blocks came since w too -/
def Held (w : World) (X : Nat → Prop) (gd n : Nat) (d : Dk) (x : World) : Prop :=
  d.inv n ∧ Gr w x ∧ (∀ k, X k → w.heap.size ≤ k ∧ k < x.heap.size) ∧ ∃ S, DkAt S gd n d x ∧ ∀ k, S k → w.heap.size ≤ k ∧ k < x.heap.size ∧ ¬ X k
/-- what a disk's call may change -/
def Fre (w : World) (X : Nat → Prop) : Nat → Prop := fun k => w.heap.size ≤ k ∧ ¬ X k
theorem Held.g {w x : World} {X : Nat → Prop} {gd n : Nat} {d : Dk} (h : Held w X gd n d x) : Gr w x := h.2.1
theorem Held.inv {w x : World} {X : Nat → Prop} {gd n : Nat} {d : Dk} (h : Held w X gd n d x) : d.inv n := h.1
theorem Held.more {w x : World} {X Y : Nat → Prop} {gd n : Nat} {d : Dk} {y : World} (h : Held w X gd n d x) (hg : Gr x y) (hY : ∀ k, Y k → X k ∨ (x.heap.size ≤ k ∧ k < y.heap.size)) : Held w Y gd n d y := by
  obtain ⟨hi, hG, hX, S, hd, hs⟩ := h
  refine ⟨hi, hG.trans hg, fun k hk => ?_, S, DiskAt.gr hd hg, fun k hk => ?_⟩
  · rcases hY k hk with h | h
    · exact ⟨(hX k h).1, Nat.lt_of_lt_of_le (hX k h).2 hg.size⟩
    · exact ⟨Nat.le_trans hG.size h.1, h.2⟩
  · obtain ⟨h1, h2, h3⟩ := hs k hk
    refine ⟨h1, Nat.lt_of_lt_of_le h2 hg.size, fun hy => ?_⟩
    rcases hY k hy with h | h
    · exact h3 h
    · omega
theorem Held.gr {w x y : World} {X : Nat → Prop} {gd n : Nat} {d : Dk} (h : Held w X gd n d x) (hg : Gr x y) : Held w X gd n d y := h.more hg (fun _ hk => .inl hk)
theorem Held.less {w x : World} {X Y : Nat → Prop} {gd n : Nat} {d : Dk} (h : Held w X gd n d x) (hY : ∀ k, Y k → X k) : Held w Y gd n d x := h.more (Gr.refl _) (fun k hk => .inl (hY k hk))
theorem Held.keep {w x y : World} {X R : Nat → Prop} {gd n : Nat} {d : Dk} (h : Held w X gd n d x) (hc : Chs R x y) (hR : ∀ k, R k → X k) : Held w X gd n d y := by
  obtain ⟨hi, hG, hX, S, hd, hs⟩ := h
  refine ⟨hi, Below.trans hG (hc.below (fun k hk => (hX k (hR k hk)).1) hG.size), fun k hk => ⟨(hX k hk).1, Nat.lt_of_lt_of_le (hX k hk).2 hc.size⟩, S, hd.keep hc (fun k hk hr => (hs k hk).2.2 (hR k hr)), fun k hk => ?_⟩
  obtain ⟨h1, h2, h3⟩ := hs k hk
  exact ⟨h1, Nat.lt_of_lt_of_le h2 hc.size, h3⟩
/-- blocks outside that a disk's call leaves alone -/
theorem fre_row {w x y : World} {X : Nat → Prop} (hc : Chs (Fre w X) x y) {g : Nat} {o : Obj} (h : x.heap[g]? = some o) (hg : X g ∨ g < w.heap.size) : y.heap[g]? = some o :=
  hc.block h (fun hf => by rcases hg with hg | hg; exact hf.2 hg; exact absurd hf.1 (by omega))
theorem Held.nx {w x y : World} {X S : Nat → Prop} {gd n : Nat} {d' : Dk} (hG : Gr w x) (hX : ∀ k, X k → w.heap.size ≤ k ∧ k < x.heap.size) (hs : ∀ k, S k → w.heap.size ≤ k ∧ k < x.heap.size ∧ ¬ X k) (hc : Chs S x y) (hd : DkAt (Sx S x y) gd n d' y) (hi : d'.inv n) :
    Held w X gd n d' y ∧ Chs (Fre w X) x y := by
  refine ⟨⟨hi, Below.trans hG (hc.below (fun k hk => (hs k hk).1) hG.size), fun k hk => ⟨(hX k hk).1, Nat.lt_of_lt_of_le (hX k hk).2 hc.size⟩, _, hd, fun k hk => ?_⟩, hc.mono (fun k hk => ⟨(hs k hk).1, (hs k hk).2.2⟩)⟩
  rcases hk with hk | hk
  · obtain ⟨h1, h2, h3⟩ := hs k hk
    exact ⟨h1, Nat.lt_of_lt_of_le h2 hc.size, h3⟩
  · refine ⟨Nat.le_trans hG.size hk.1, hk.2, fun hx => ?_⟩
    have := (hX k hx).2; omega
theorem h_new (n : Nat) (h1 : 1 ≤ n) (hn : n ≤ 4194304) {w x : World} (X : Nat → Prop) (hG : Gr w x) (hX : ∀ k, X k → w.heap.size ≤ k ∧ k < x.heap.size) :
    Calls Try.prog 13 #[.int .i64 (n : Int)] x fun e y => ∃ gd, e = .returned (.tuple #[.pointer (some ⟨gd, 0, none⟩), .int .i64 0]) ∧ Held w X gd n (newD n) y ∧ Gr x y := by
  refine (new_any n h1 hn x).mono ?_
  rintro e y ⟨gd, he, hd, hg⟩
  refine ⟨gd, he, ⟨newD_inv n, hG.trans hg, fun k hk => ⟨(hX k hk).1, Nat.lt_of_lt_of_le (hX k hk).2 hg.size⟩, _, hd, fun k hk => ⟨Nat.le_trans hG.size hk.1, hk.2, fun hx => ?_⟩⟩, hg⟩
  have := (hX k hx).2; omega
theorem h_write {w x : World} {X : Nat → Prop} {gd n : Nat} {d d' : Dk} {o r : Int} {s : ByteArray} (hr : writeD d n o s = (r, d')) (h : Held w X gd n d x) (hn : n ≤ 4194304) (hp : d.pend.length ≤ 1000000) (hob : -9223372036854775808 ≤ o ∧ o ≤ 9223372036854775807) :
    Calls Try.prog 21 #[.pointer (some ⟨gd, 0, none⟩), .int .i64 o, .string s] x fun e y => e = .returned (.int .i64 r) ∧ Held w X gd n d' y ∧ Chs (Fre w X) x y := by
  obtain ⟨hi, hG, hX, S, hd, hs⟩ := h
  have hinv := writeD_inv (o := o) (s := s) hi
  have := write_any o s hd hi hn hp hob (fun k hk => (hs k hk).2.1)
  rw [hr] at this hinv
  refine this.mono ?_
  rintro e y ⟨he, hd, hc⟩
  exact ⟨he, Held.nx hG hX hs hc hd hinv⟩
theorem h_sync {w x : World} {X : Nat → Prop} {gd n : Nat} {d d' : Dk} {r : Int} (hr : syncD d = (r, d')) (h : Held w X gd n d x) :
    Calls Try.prog 23 #[.pointer (some ⟨gd, 0, none⟩)] x fun e y => e = .returned (.int .i64 r) ∧ Held w X gd n d' y ∧ Chs (Fre w X) x y := by
  obtain ⟨hi, hG, hX, S, hd, hs⟩ := h
  have hinv := syncD_inv hi
  have := sync_any hd hi
  rw [hr] at this hinv
  refine this.mono ?_
  rintro e y ⟨he, hd, hc⟩
  exact ⟨he, Held.nx hG hX hs hc (hd.mono (fun _ h => .inl h)) hinv⟩
theorem h_cut {w x : World} {X : Nat → Prop} {gd n : Nat} {d d' : Dk} {m r : Int} (hr : cutD d m = (r, d')) (h : Held w X gd n d x) (hm : m ≤ 9223372036854775807) :
    Calls Try.prog 24 #[.pointer (some ⟨gd, 0, none⟩), .int .i64 m] x fun e y => e = .returned (.int .i64 r) ∧ Held w X gd n d' y ∧ Chs (Fre w X) x y := by
  obtain ⟨hi, hG, hX, S, hd, hs⟩ := h
  have hinv := cutD_inv hi hm
  have := cut_any m hd
  rw [hr] at this hinv
  refine this.mono ?_
  rintro e y ⟨he, hd, hc⟩
  exact ⟨he, Held.nx hG hX hs hc (hd.mono (fun _ h => .inl h)) hinv⟩
theorem h_crash {w x : World} {X : Nat → Prop} {gd n : Nat} {d d' : Dk} (v : Value) (keep : List Int) (t : Int) (hr : crashD d keep t = d') (h : Held w X gd n d x) (hn : n ≤ 4194304) (hp : d.pend.length ≤ 1000000) (hk : keep.length ≤ 1000000) (hz : IntsBelow x.heap.size v keep x)
    (ht : -9223372036854775808 ≤ t ∧ t ≤ 9223372036854775807) :
    Calls Try.prog 25 #[.pointer (some ⟨gd, 0, none⟩), v, .int .i64 t] x fun e y => e = .returned (.int .i64 0) ∧ Held w X gd n d' y ∧ Chs (Fre w X) x y := by
  obtain ⟨hi, hG, hX, S, hd, hs⟩ := h
  have hinv := crashD_inv hi keep t
  have := crash_any v keep t hd hi hn hp hk hz ht (fun k hk => (hs k hk).2.1)
  rw [hr] at this hinv
  refine this.mono ?_
  rintro e y ⟨he, hd, hc⟩
  exact ⟨he, Held.nx hG hX hs hc (hd.mono (fun _ h => .inl h)) hinv⟩
theorem h_read {w x : World} {X : Nat → Prop} {gd n : Nat} {d : Dk} {o m r : Int} {t : ByteArray} (hr : readD d n o m = (t, r)) (h : Held w X gd n d x) (hn : n ≤ 4194304) (hob : -9223372036854775808 ≤ o ∧ o ≤ 9223372036854775807) :
    Calls Try.prog 14 #[.pointer (some ⟨gd, 0, none⟩), .int .i64 o, .int .i64 m] x fun e y => e = .returned (.tuple #[.string t, .int .i64 r]) ∧ x = y := by
  obtain ⟨hi, hG, hX, S, hd, hs⟩ := h
  have := read_any o m hd hi hn hob
  rw [hr] at this; exact this
theorem h_size {w x : World} {X : Nat → Prop} {gd n : Nat} {d : Dk} (h : Held w X gd n d x) : Calls Try.prog 16 #[.pointer (some ⟨gd, 0, none⟩)] x fun e y => e = .returned (.int .i64 (n : Int)) ∧ x = y := by
  obtain ⟨hi, hG, hX, S, hd, hs⟩ := h; exact size_any hd
theorem h_pending {w x : World} {X : Nat → Prop} {gd n : Nat} {d : Dk} (h : Held w X gd n d x) : Calls Try.prog 17 #[.pointer (some ⟨gd, 0, none⟩)] x fun e y => e = .returned (.int .i64 (d.pend.length : Int)) ∧ x = y := by
  obtain ⟨hi, hG, hX, S, hd, hs⟩ := h; exact pending_any hd
/-- a disk that has power, and no count -/
def Dk.calm (d : Dk) : Prop := d.off = false ∧ d.left = 0
theorem wrote_calm {d : Dk} {o : Nat} {s : ByteArray} (h : d.calm) : (d.wrote o s).calm := by
  obtain ⟨h1, h2⟩ := h
  unfold Dk.wrote Dk.calm
  rw [h2, usedP_zero]
  exact ⟨h1, rfl⟩
theorem wrote_vis (d : Dk) (o : Nat) (s : ByteArray) : (d.wrote o s).vis = putW d.vis (o, s) := rfl
theorem wrote_dur (d : Dk) (o : Nat) (s : ByteArray) : (d.wrote o s).dur = d.dur := rfl
theorem wrote_pend (d : Dk) (o : Nat) (s : ByteArray) : (d.wrote o s).pend = d.pend ++ [(o, s)] := rfl
theorem sync_calm {d : Dk} (h : d.calm) : syncD d = (0, settleD d d.vis) ∧ (settleD d d.vis).calm := by
  unfold syncD; rw [if_neg (by rw [h.1]; simp)]; exact ⟨rfl, h⟩
/-- a disk's whole content, read -/
def bytesOf (l : List UInt8) : ByteArray := ⟨l.toArray⟩
theorem read_all {d : Dk} {n : Nat} (h : d.calm) (hi : d.inv n) : readD d n 0 (n : Int) = (bytesOf d.vis, 0) := by
  unfold readD
  rw [if_neg (by rw [h.1]; simp), if_neg (by rw [show (0 : Int) = ((0 : Nat) : Int) from rfl, insideD_of (by omega)]; simp)]
  simp only [Int.toNat_natCast]
  rw [show (0 : Int).toNat = 0 from rfl, List.drop_zero, List.take_of_length_le (by rw [hi.2.1]; exact Nat.le_refl _)]; rfl
end Go.Proofs.Ytmkdnfiiehgcaaa
