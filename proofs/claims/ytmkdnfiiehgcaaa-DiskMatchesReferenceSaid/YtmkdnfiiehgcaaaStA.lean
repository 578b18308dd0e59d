/- A disk and the reference's disk side by side. -/
import Derived.Test.YtmkdnfiiehgcaaaRfE
import Derived.Test.YtmkdnfiiehgcaaaHeldK
namespace Go.Proofs.Ytmkdnfiiehgcaaa
open Go Go.RowKit

/-- a disk in state d and the reference's in state e, made by the call, apart from each other and from X -/
def Both (w : World) (X : Nat → Prop) (gd gx n : Nat) (d e : Dk) (W : World) : Prop :=
  Gr w W ∧ d.inv n ∧ e.inv n ∧ (∀ k, X k → w.heap.size ≤ k ∧ k < W.heap.size) ∧ ∃ S T, DkAt S gd n d W ∧ RefAt T gx n e W ∧ (∀ k, S k ∨ T k → w.heap.size ≤ k ∧ k < W.heap.size ∧ ¬ X k) ∧ ∀ k, S k → ¬ T k
section
variable {w W V : World} {X : Nat → Prop} {gd gx n : Nat} {d e d' e' : Dk}
theorem Both.g (h : Both w X gd gx n d e W) : Gr w W := h.1
theorem Both.disk (h : Both w X gd gx n d e W) : ∃ Y, Held w Y gd n d W ∧ (∀ k, X k → Y k) ∧ ∀ d' V, Held w Y gd n d' V → Chs (Fre w Y) W V → Both w X gd gx n d' e V := by
  obtain ⟨hG, i1, i2, hX, S, T, hd, hr, hS, h1⟩ := h
  refine ⟨fun k => X k ∨ T k, ⟨i1, hG, fun k hk => ?_, S, hd, fun k hk => ⟨(hS k (.inl hk)).1, (hS k (.inl hk)).2.1, fun hy => ?_⟩⟩, fun k hk => .inl hk, fun d' V hh hc => ?_⟩
  · rcases hk with hk | hk
    · exact hX k hk
    · exact ⟨(hS k (.inr hk)).1, (hS k (.inr hk)).2.1⟩
  · rcases hy with hy | hy
    · exact (hS k (.inl hk)).2.2 hy
    · exact h1 k hk hy
  · obtain ⟨i1', hG', hY', S', hd', hs'⟩ := hh
    have hz := hc.size
    refine ⟨hG', i1', i2, fun k hk => hY' k (.inl hk), S', T, hd', hr.keep hc (fun k hk hf => hf.2 (.inr hk)), fun k hk => ?_, fun k hk ht => (hs' k hk).2.2 (.inr ht)⟩
    rcases hk with hk | hk
    · exact ⟨(hs' k hk).1, (hs' k hk).2.1, fun h => (hs' k hk).2.2 (.inl h)⟩
    · obtain ⟨a, b, c⟩ := hS k (.inr hk)
      exact ⟨a, Nat.lt_of_lt_of_le b hz, c⟩
theorem Both.more {Y : Nat → Prop} (h : Both w X gd gx n d e W) (hg : Gr W V) (hY : ∀ k, Y k → X k ∨ (W.heap.size ≤ k ∧ k < V.heap.size)) : Both w Y gd gx n d e V := by
  obtain ⟨hG, i1, i2, hX, S, T, hd, hr, hS, h1⟩ := h
  refine ⟨hG.trans hg, i1, i2, fun k hk => ?_, S, T, DiskAt.gr hd hg, hr.gr hg, fun k hk => ?_, h1⟩
  · rcases hY k hk with h | h
    · exact ⟨(hX k h).1, Nat.lt_of_lt_of_le (hX k h).2 hg.size⟩
    · exact ⟨Nat.le_trans hG.size h.1, h.2⟩
  · obtain ⟨a, b, c⟩ := hS k hk
    refine ⟨a, Nat.lt_of_lt_of_le b hg.size, fun hy => ?_⟩
    rcases hY k hy with h | h
    · exact c h
    · omega
theorem Both.gr (h : Both w X gd gx n d e W) (hg : Gr W V) : Both w X gd gx n d e V := h.more hg (fun _ hk => .inl hk)
theorem Both.lift {F : Nat} {args : Array Value} {r : Value} (h : Both w X gd gx n d e W) (hc : ∀ Y, Held w Y gd n d W → Calls Try.prog F args W fun e V => e = .returned r ∧ Held w Y gd n d' V ∧ Chs (Fre w Y) W V) :
    Calls Try.prog F args W fun u V => u = .returned r ∧ Both w X gd gx n d' e V ∧ Chs (Fre w X) W V := by
  obtain ⟨Y, hY, hXY, hcl⟩ := h.disk
  refine (hc Y hY).mono ?_
  rintro u V ⟨he, hh, hs⟩
  exact ⟨he, hcl d' V hh hs, hs.mono (fun k hk => ⟨hk.1, fun hx => hk.2 (hXY k hx)⟩)⟩
/-- a call on the reference's disk -/
theorem Both.liftR {F : Nat} {args : Array Value} {r : Value} (h : Both w X gd gx n d e W) (hi : e'.inv n) (hc : ∀ T, RefAt T gx n e W → (∀ k, T k → k < W.heap.size) → Calls Try.prog F args W fun u V => u = .returned r ∧ RefAt (Sx T W V) gx n e' V ∧ Chs T W V) :
    Calls Try.prog F args W fun u V => u = .returned r ∧ Both w X gd gx n d e' V ∧ Chs (Fre w X) W V := by
  obtain ⟨hG, i1, i2, hX, S, T, hd, hr, hS, h1⟩ := h
  refine (hc T hr (fun k hk => (hS k (.inr hk)).2.1)).mono ?_
  rintro u V ⟨he, hh, hs⟩
  have hz := hs.size
  refine ⟨he, ⟨Below.trans hG (hs.below (fun k hk => (hS k (.inr hk)).1) hG.size), i1, hi, fun k hk => ⟨(hX k hk).1, Nat.lt_of_lt_of_le (hX k hk).2 hz⟩, S, Sx T W V, hd.keep hs h1, hh, fun k hk => ?_, fun k hk ht => ?_⟩, hs.mono (fun k hk => ⟨(hS k (.inr hk)).1, (hS k (.inr hk)).2.2⟩)⟩
  · rcases hk with hk | hk | hk
    · obtain ⟨a, b, c⟩ := hS k (.inl hk)
      exact ⟨a, Nat.lt_of_lt_of_le b hz, c⟩
    · obtain ⟨a, b, c⟩ := hS k (.inr hk)
      exact ⟨a, Nat.lt_of_lt_of_le b hz, c⟩
    · refine ⟨Nat.le_trans hG.size hk.1, hk.2, fun hx => ?_⟩
      have := (hX k hx).2; omega
  · rcases ht with ht | ht
    · exact h1 k hk ht
    · have := (hS k (.inl hk)).2.1; omega
theorem b_write {o r : Int} {s : ByteArray} (hr : writeD d n o s = (r, d')) (h : Both w X gd gx n d e W) (hn : n ≤ 4194304) (hp : d.pend.length ≤ 1000000) (hob : -9223372036854775808 ≤ o ∧ o ≤ 9223372036854775807) :
    Calls Try.prog 21 #[.pointer (some ⟨gd, 0, none⟩), .int .i64 o, .string s] W fun u V => u = .returned (.int .i64 r) ∧ Both w X gd gx n d' e V ∧ Chs (Fre w X) W V :=
  h.lift (fun _ hY => h_write hr hY hn hp hob)
theorem br_write {o r : Int} {s : ByteArray} (hr : writeD e n o s = (r, e')) (h : Both w X gd gx n d e W) (hn1 : 1 ≤ n) (hn : n ≤ 4194304) (hp : e.pend.length ≤ 1000000) (hob : -9223372036854775808 ≤ o ∧ o ≤ 9223372036854775807) (hsz : s.size ≤ 9223372036854775807) :
    Calls Try.prog 30 #[.pointer (some ⟨gx, 0, none⟩), .int .i64 o, .string s] W fun u V => u = .returned (.int .i64 r) ∧ Both w X gd gx n d e' V ∧ Chs (Fre w X) W V := by
  have hinv := writeD_inv (o := o) (s := s) h.2.2.1
  rw [hr] at hinv
  refine h.liftR hinv (fun T hT hlt => ?_)
  have := rwrite_any o s hT h.2.2.1 hn1 hn hp hob hsz hlt
  rw [hr] at this; exact this
theorem b_sync {r : Int} (hr : syncD d = (r, d')) (h : Both w X gd gx n d e W) :
    Calls Try.prog 23 #[.pointer (some ⟨gd, 0, none⟩)] W fun u V => u = .returned (.int .i64 r) ∧ Both w X gd gx n d' e V ∧ Chs (Fre w X) W V :=
  h.lift (fun _ hY => h_sync hr hY)
theorem br_sync {r : Int} (hr : syncD e = (r, e')) (h : Both w X gd gx n d e W) (hn1 : 1 ≤ n) (hn : n ≤ 4194304) (hp : e.pend.length ≤ 1000000) :
    Calls Try.prog 31 #[.pointer (some ⟨gx, 0, none⟩)] W fun u V => u = .returned (.int .i64 r) ∧ Both w X gd gx n d e' V ∧ Chs (Fre w X) W V := by
  have hinv := syncD_inv h.2.2.1
  rw [hr] at hinv
  refine h.liftR hinv (fun T hT hlt => ?_)
  have := rsync_any hT h.2.2.1 hn1 hn hp hlt
  rw [hr] at this; exact this
theorem b_cut {m r : Int} (hr : cutD d m = (r, d')) (h : Both w X gd gx n d e W) (hm : m ≤ 9223372036854775807) :
    Calls Try.prog 24 #[.pointer (some ⟨gd, 0, none⟩), .int .i64 m] W fun u V => u = .returned (.int .i64 r) ∧ Both w X gd gx n d' e V ∧ Chs (Fre w X) W V :=
  h.lift (fun _ hY => h_cut hr hY hm)
theorem br_cut {m r : Int} (hr : cutD e m = (r, e')) (h : Both w X gd gx n d e W) (hm : m ≤ 9223372036854775807) :
    Calls Try.prog 32 #[.pointer (some ⟨gx, 0, none⟩), .int .i64 m] W fun u V => u = .returned (.int .i64 r) ∧ Both w X gd gx n d e' V ∧ Chs (Fre w X) W V := by
  have hinv := cutD_inv h.2.2.1 hm
  rw [hr] at hinv
  refine h.liftR hinv (fun T hT _ => ?_)
  have := rcut_any m hT
  rw [hr] at this
  refine this.mono ?_
  rintro u V ⟨hu, h1, h2⟩
  exact ⟨hu, h1.mono (fun k hk => .inl hk), h2⟩
theorem b_crash (v : Value) (keep : List Int) (t : Int) (hr : crashD d keep t = d') (h : Both w X gd gx n d e W) (hn : n ≤ 4194304) (hp : d.pend.length ≤ 1000000) (hk : keep.length ≤ 1000000) (hz : IntsBelow W.heap.size v keep W) (ht : -9223372036854775808 ≤ t ∧ t ≤ 9223372036854775807) :
    Calls Try.prog 25 #[.pointer (some ⟨gd, 0, none⟩), v, .int .i64 t] W fun u V => u = .returned (.int .i64 0) ∧ Both w X gd gx n d' e V ∧ Chs (Fre w X) W V :=
  h.lift (fun _ hY => h_crash v keep t hr hY hn hp hk hz ht)
theorem br_crash (v : Value) (keep : List Int) (t : Int) (hr : crashD e keep t = e') (h : Both w X gd gx n d e W) (hn1 : 1 ≤ n) (hn : n ≤ 4194304) (hp : e.pend.length ≤ 1000000) (hk : keep.length ≤ 1000000) (hz : IntsBelow W.heap.size v keep W) (ht : -9223372036854775808 ≤ t ∧ t ≤ 9223372036854775807) :
    Calls Try.prog 33 #[.pointer (some ⟨gx, 0, none⟩), v, .int .i64 t] W fun u V => u = .returned (.tuple #[]) ∧ Both w X gd gx n d e' V ∧ Chs (Fre w X) W V := by
  have hinv := crashD_inv h.2.2.1 keep t
  rw [hr] at hinv
  refine h.liftR hinv (fun T hT hlt => ?_)
  have := rcrash_any v keep t hT h.2.2.1 hn1 hn hp hk hz ht (fun x hx => by have := h.2.2.1.2.2.1 x hx; unfold Wr.ok at this; omega) hlt
  rw [hr] at this
  refine this.mono ?_
  rintro u V ⟨hu, h1, h2⟩
  exact ⟨hu, h1.mono (fun k hk => .inl hk), h2⟩
theorem b_read {o m r : Int} {t : ByteArray} (hr : readD d n o m = (t, r)) (h : Both w X gd gx n d e W) (hn : n ≤ 4194304) (hob : -9223372036854775808 ≤ o ∧ o ≤ 9223372036854775807) :
    Calls Try.prog 14 #[.pointer (some ⟨gd, 0, none⟩), .int .i64 o, .int .i64 m] W fun u V => u = .returned (.tuple #[.string t, .int .i64 r]) ∧ W = V := by
  obtain ⟨Y, hY, -⟩ := h.disk
  exact h_read hr hY hn hob
theorem br_read {o m r : Int} {t : ByteArray} (hr : readD e n o m = (t, r)) (h : Both w X gd gx n d e W) (hn1 : 1 ≤ n) (hn : n ≤ 4194304) (hp : e.pend.length ≤ 1000000) (hob : -9223372036854775808 ≤ o ∧ o ≤ 9223372036854775807) :
    Calls Try.prog 20 #[.pointer (some ⟨gx, 0, none⟩), .int .i64 o, .int .i64 m] W fun u V => u = .returned (.tuple #[.string t, .int .i64 r]) ∧ Gr W V := by
  obtain ⟨hG, i1, i2, hX, S, T, hd, hT, hS, h1⟩ := h
  have := rread_any o m hT i2 hn1 hn hp hob
  rw [hr] at this; exact this
theorem b_pending (h : Both w X gd gx n d e W) : Calls Try.prog 17 #[.pointer (some ⟨gd, 0, none⟩)] W fun u V => u = .returned (.int .i64 (d.pend.length : Int)) ∧ W = V := by
  obtain ⟨Y, hY, -⟩ := h.disk
  exact h_pending hY
theorem b_size (h : Both w X gd gx n d e W) : Calls Try.prog 16 #[.pointer (some ⟨gd, 0, none⟩)] W fun u V => u = .returned (.int .i64 (n : Int)) ∧ W = V := by
  obtain ⟨Y, hY, -⟩ := h.disk
  exact h_size hY
theorem b_list (h : Both w X gd gx n d e W) : ∃ p c, W.cell? ⟨gx, 1, none⟩ = some (.slice p e.pend.length c) := by
  obtain ⟨hG, i1, i2, hX, S, T, hd, ⟨v0, v1, _, _, _, hr, _, o1⟩, hS, h1⟩ := h
  obtain ⟨p, c, rfl⟩ := o1.slice2
  exact ⟨p, c, (cells4 hr).2.1⟩
theorem both_new {wA wB wC : World} (hA : Gr w wA) (h1 : DkAt (fun k => wA.heap.size ≤ k ∧ k < wB.heap.size) gd n (newD n) wB) (hB : Gr wA wB) (h2 : RefAt (fun k => wB.heap.size ≤ k ∧ k < wC.heap.size) gx n (newD n) wC) (hC : Gr wB wC) : Both w (fun _ => False) gd gx n (newD n) (newD n) wC := by
  have a := hA.size
  have b := hB.size
  have c := hC.size
  refine ⟨(hA.trans hB).trans hC, newD_inv n, newD_inv n, fun k hk => hk.elim, _, _, DiskAt.gr h1 hC, h2, fun k hk => ⟨?_, ?_, fun h => h⟩, fun k hk h => ?_⟩
  · rcases hk with hk | hk
    all_goals (have := hk.1; omega)
  · rcases hk with hk | hk
    all_goals (have := hk.2; omega)
  · have := hk.2; have := h.1; omega
end
end Go.Proofs.Ytmkdnfiiehgcaaa
