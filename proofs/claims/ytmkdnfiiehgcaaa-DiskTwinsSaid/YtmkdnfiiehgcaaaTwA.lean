/- Three disks side by side. -/
import Derived.Test.YtmkdnfiiehgcaaaDsR
import Derived.Deep.RegionHeld3
namespace Go.Proofs.Ytmkdnfiiehgcaaa
open Go Go.RowKit

/-- three disks that the call made, none of whose blocks is another's or in X -/
def Tri (w : World) (X : Nat → Prop) (g1 g2 g3 n : Nat) (x y z : Dk) (W : World) : Prop :=
  Gr w W ∧ x.inv n ∧ y.inv n ∧ z.inv n ∧ (∀ k, X k → w.heap.size ≤ k ∧ k < W.heap.size) ∧ ∃ S1 S2 S3, DkAt S1 g1 n x W ∧ DkAt S2 g2 n y W ∧ DkAt S3 g3 n z W ∧ (∀ k, S1 k ∨ S2 k ∨ S3 k → w.heap.size ≤ k ∧ k < W.heap.size ∧ ¬ X k) ∧ (∀ k, S1 k → ¬ S2 k ∧ ¬ S3 k) ∧ (∀ k, S2 k → ¬ S3 k)
section
variable {w W V : World} {X : Nat → Prop} {g1 g2 g3 n : Nat} {x y z x' : Dk}
theorem Tri.g (h : Tri w X g1 g2 g3 n x y z W) : Gr w W := h.1
theorem Tri.rot (h : Tri w X g1 g2 g3 n x y z W) : Tri w X g2 g3 g1 n y z x W := by
  obtain ⟨hG, i1, i2, i3, hX, S1, S2, S3, d1, d2, d3, hS, h1, h2⟩ := h
  refine ⟨hG, i2, i3, i1, hX, S2, S3, S1, d2, d3, d1, fun k hk => hS k ?_, fun k hk => ⟨h2 k hk, fun hs => (h1 k hs).1 hk⟩, fun k hk hs => (h1 k hs).2 hk⟩
  rcases hk with hk | hk | hk
  · exact .inr (.inl hk)
  · exact .inr (.inr hk)
  · exact .inl hk
theorem Tri.first (h : Tri w X g1 g2 g3 n x y z W) : ∃ Y, Held w Y g1 n x W ∧ (∀ k, X k → Y k) ∧ ∀ x' V, Held w Y g1 n x' V → Chs (Fre w Y) W V → Tri w X g1 g2 g3 n x' y z V := by
  obtain ⟨hG, i1, i2, i3, hX, S1, S2, S3, d1, d2, d3, hS, h1, h2⟩ := h
  refine ⟨fun k => X k ∨ S2 k ∨ S3 k, ⟨i1, hG, fun k hk => ?_, S1, d1, fun k hk => ⟨(hS k (.inl hk)).1, (hS k (.inl hk)).2.1, fun hy => ?_⟩⟩, fun k hk => .inl hk, fun x' V hh hc => ?_⟩
  · rcases hk with hk | hk | hk
    · exact hX k hk
    · exact ⟨(hS k (.inr (.inl hk))).1, (hS k (.inr (.inl hk))).2.1⟩
    · exact ⟨(hS k (.inr (.inr hk))).1, (hS k (.inr (.inr hk))).2.1⟩
  · rcases hy with hy | hy | hy
    · exact (hS k (.inl hk)).2.2 hy
    · exact (h1 k hk).1 hy
    · exact (h1 k hk).2 hy
  · obtain ⟨i1', hG', hY', S1', d1', hs'⟩ := hh
    have hz := hc.size
    refine ⟨hG', i1', i2, i3, fun k hk => hY' k (.inl hk), S1', S2, S3, d1', d2.keep hc (fun k hk hf => hf.2 (.inr (.inl hk))), d3.keep hc (fun k hk hf => hf.2 (.inr (.inr hk))), fun k hk => ?_, fun k hk => ⟨fun h => (hs' k hk).2.2 (.inr (.inl h)), fun h => (hs' k hk).2.2 (.inr (.inr h))⟩, h2⟩
    rcases hk with hk | hk
    · exact ⟨(hs' k hk).1, (hs' k hk).2.1, fun h => (hs' k hk).2.2 (.inl h)⟩
    · obtain ⟨a, b, c⟩ := hS k (.inr hk)
      exact ⟨a, Nat.lt_of_lt_of_le b hz, c⟩
theorem Tri.more {Y : Nat → Prop} (h : Tri w X g1 g2 g3 n x y z W) (hg : Gr W V) (hY : ∀ k, Y k → X k ∨ (W.heap.size ≤ k ∧ k < V.heap.size)) : Tri w Y g1 g2 g3 n x y z V := by
  obtain ⟨hG, i1, i2, i3, hX, S1, S2, S3, d1, d2, d3, hS, h1, h2⟩ := h
  refine ⟨hG.trans hg, i1, i2, i3, fun k hk => ?_, S1, S2, S3, DiskAt.gr d1 hg, DiskAt.gr d2 hg, DiskAt.gr d3 hg, fun k hk => ?_, h1, h2⟩
  · rcases hY k hk with h | h
    · exact ⟨(hX k h).1, Nat.lt_of_lt_of_le (hX k h).2 hg.size⟩
    · exact ⟨Nat.le_trans hG.size h.1, h.2⟩
  · obtain ⟨a, b, c⟩ := hS k hk
    refine ⟨a, Nat.lt_of_lt_of_le b hg.size, fun hy => ?_⟩
    rcases hY k hy with h | h
    · exact c h
    · omega
theorem Tri.gr (h : Tri w X g1 g2 g3 n x y z W) (hg : Gr W V) : Tri w X g1 g2 g3 n x y z V := h.more hg (fun _ hk => .inl hk)
theorem Tri.lift {F : Nat} {args : Array Value} {r : Value} (h : Tri w X g1 g2 g3 n x y z W) (hc : ∀ Y, Held w Y g1 n x W → Calls Try.prog F args W fun e V => e = .returned r ∧ Held w Y g1 n x' V ∧ Chs (Fre w Y) W V) :
    Calls Try.prog F args W fun e V => e = .returned r ∧ Tri w X g1 g2 g3 n x' y z V ∧ Chs (Fre w X) W V := by
  obtain ⟨Y, hY, hXY, hcl⟩ := h.first
  refine (hc Y hY).mono ?_
  rintro e V ⟨he, hh, hs⟩
  exact ⟨he, hcl x' V hh hs, hs.mono (fun k hk => ⟨hk.1, fun hx => hk.2 (hXY k hx)⟩)⟩
theorem t_write {o r : Int} {s : ByteArray} (hr : writeD x n o s = (r, x')) (h : Tri w X g1 g2 g3 n x y z W) (hn : n ≤ 4194304) (hp : x.pend.length ≤ 1000000) (hob : -9223372036854775808 ≤ o ∧ o ≤ 9223372036854775807) :
    Calls Try.prog 21 #[.pointer (some ⟨g1, 0, none⟩), .int .i64 o, .string s] W fun e V => e = .returned (.int .i64 r) ∧ Tri w X g1 g2 g3 n x' y z V ∧ Chs (Fre w X) W V :=
  h.lift (fun _ hY => h_write hr hY hn hp hob)
theorem t_sync {r : Int} (hr : syncD x = (r, x')) (h : Tri w X g1 g2 g3 n x y z W) :
    Calls Try.prog 23 #[.pointer (some ⟨g1, 0, none⟩)] W fun e V => e = .returned (.int .i64 r) ∧ Tri w X g1 g2 g3 n x' y z V ∧ Chs (Fre w X) W V :=
  h.lift (fun _ hY => h_sync hr hY)
theorem t_crash0 (t : Int) (hr : crashD x [] t = x') (h : Tri w X g1 g2 g3 n x y z W) (hn : n ≤ 4194304) (hp : x.pend.length ≤ 1000000) (ht : -9223372036854775808 ≤ t ∧ t ≤ 9223372036854775807) :
    Calls Try.prog 25 #[.pointer (some ⟨g1, 0, none⟩), .slice none 0 0, .int .i64 t] W fun e V => e = .returned (.int .i64 0) ∧ Tri w X g1 g2 g3 n x' y z V ∧ Chs (Fre w X) W V :=
  h.lift (fun _ hY => h_crash (.slice none 0 0) [] t hr hY hn hp (by decide) (.inl ⟨rfl, _, _, rfl⟩) ht)
theorem t_read {o m r : Int} {t : ByteArray} (hr : readD x n o m = (t, r)) (h : Tri w X g1 g2 g3 n x y z W) (hn : n ≤ 4194304) (hob : -9223372036854775808 ≤ o ∧ o ≤ 9223372036854775807) :
    Calls Try.prog 14 #[.pointer (some ⟨g1, 0, none⟩), .int .i64 o, .int .i64 m] W fun e V => e = .returned (.tuple #[.string t, .int .i64 r]) ∧ W = V := by
  obtain ⟨Y, hY, -⟩ := h.first
  exact h_read hr hY hn hob
theorem t_pending (h : Tri w X g1 g2 g3 n x y z W) : Calls Try.prog 17 #[.pointer (some ⟨g1, 0, none⟩)] W fun e V => e = .returned (.int .i64 (x.pend.length : Int)) ∧ W = V := by
  obtain ⟨Y, hY, -⟩ := h.first
  exact h_pending hY
theorem tri_new {wA wB wC wD : World} (hA : Gr w wA) (h1 : DkAt (fun k => wA.heap.size ≤ k ∧ k < wB.heap.size) g1 n (newD n) wB) (hB : Gr wA wB) (h2 : DkAt (fun k => wB.heap.size ≤ k ∧ k < wC.heap.size) g2 n (newD n) wC) (hC : Gr wB wC)
    (h3 : DkAt (fun k => wC.heap.size ≤ k ∧ k < wD.heap.size) g3 n (newD n) wD) (hD : Gr wC wD) : Tri w (fun _ => False) g1 g2 g3 n (newD n) (newD n) (newD n) wD := by
  have a := hA.size
  have b := hB.size
  have c := hC.size
  have d := hD.size
  refine ⟨((hA.trans hB).trans hC).trans hD, newD_inv n, newD_inv n, newD_inv n, fun k hk => hk.elim, _, _, _, DiskAt.gr (DiskAt.gr h1 hC) hD, DiskAt.gr h2 hD, h3, fun k hk => ⟨?_, ?_, fun h => h⟩, fun k hk => ⟨fun h => ?_, fun h => ?_⟩, fun k hk h => ?_⟩
  · rcases hk with hk | hk | hk
    all_goals (have := hk.1; omega)
  · rcases hk with hk | hk | hk
    all_goals (have := hk.2; omega)
  · have := hk.2; have := h.1; omega
  · have := hk.2; have := h.1; omega
  · have := hk.2; have := h.1; omega
end
end Go.Proofs.Ytmkdnfiiehgcaaa
