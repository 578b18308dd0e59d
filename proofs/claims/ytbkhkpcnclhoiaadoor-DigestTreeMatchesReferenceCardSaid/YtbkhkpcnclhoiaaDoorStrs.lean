/- Slices of strings and of numbers: what they hold; slices that the call owns, cut and kept apart. -/
import Derived.Test.YtbkhkpcnclhoiaaDoorVal
namespace Go.Proofs.YtbkhkpcnclhoiaaDoor
open Go.RowKit Go.Shelf
attribute [local go_sem] gAt gUpon
attribute [local simp] Gr.refl Gr.alloc

/-- strings as cells -/
def sC (l : List ByteArray) : List Value := l.map Value.string
/-- lengths as cells -/
def nC (l : List Nat) : List Value := l.map fun n : Nat => Value.int .i64 (n : Int)
/-- v is a slice of strings that holds l -/
def StrsAt (v : Value) (l : List ByteArray) (w : World) : Prop :=
  (v = .slice none 0 0 ∧ l = []) ∨ ∃ g off cap, v = .slice (some ⟨g, off, none⟩) l.length cap ∧ l.length ≤ cap ∧ cap ≤ maxLen ∧
    ∀ (j : Nat) x, l[j]? = some x → w.cell? ⟨g, off + j, none⟩ = some (.string x)
theorem StrsAt.shape {v : Value} {l : List ByteArray} {w : World} (h : StrsAt v l w) : ∃ p cap, v = .slice p l.length cap := by
  rcases h with ⟨rfl, rfl⟩ | ⟨g, off, cap, rfl, _⟩
  · exact ⟨none, 0, rfl⟩
  · exact ⟨_, cap, rfl⟩
theorem StrsAt.gr {v : Value} {l : List ByteArray} {w x : World} (h : StrsAt v l w) (hg : Gr w x) : StrsAt v l x := by
  rcases h with h | ⟨g, off, cap, rfl, h1, h2, h4⟩
  · exact .inl h
  · exact .inr ⟨g, off, cap, rfl, h1, h2, fun j x hj => hg.cell (h4 j x hj)⟩
theorem info9 : (Tryd.prog.info? 9).map (fun i => (i.zero, i.size, i.bytes)) = some (some (.string ⟨#[]⟩), 1, 16) := by kernel_rfl
theorem info3 : (Tryd.prog.info? 3).map (fun i => (i.zero, i.size, i.bytes)) = some (some (.int .i64 0), 1, 8) := by kernel_rfl
theorem Own.slice {B s : Nat} {v : Value} {n : Nat} {xs : List Value} {w : World} (h : Own B s v n xs w) : ∃ p c, v = .slice p n c := by
  rcases h.2 with ⟨h1, h0⟩ | ⟨g, off, cap, h1, _⟩
  · exact ⟨none, 0, by rw [h1, h0]⟩
  · exact ⟨_, _, h1⟩
theorem Own.lt {B s : Nat} {v : Value} {n : Nat} {xs : List Value} {w : World} (h : Own B s v n xs w) (hn : 0 < n * s) {g : Nat} (hg : v.ownBlock = some g) : g < w.heap.size := by
  rcases h.2 with ⟨rfl, _⟩ | ⟨g', off, cap, rfl, hB, hc, hm, _, hw⟩
  · simp [Value.ownBlock] at hg
  · simp [Value.ownBlock] at hg; subst hg
    have := Nat.mul_le_mul_right s hc
    exact isSome_lt (hw 0 (by omega)).1
theorem Own.ge {B s : Nat} {v : Value} {n : Nat} {xs : List Value} {w : World} (h : Own B s v n xs w) {g : Nat} (hg : v.ownBlock = some g) : B ≤ g := by
  rcases h.2 with ⟨rfl, _⟩ | ⟨g', off, cap, rfl, hB, _⟩
  · simp [Value.ownBlock] at hg
  · simp [Value.ownBlock] at hg; subst hg; exact hB
theorem gr_step {b : Option Nat} {w wr w1 w2 : World} (hG : Gr w wr) (hg : Gr wr w1) (hc : Chg b w1 w2) (hb : ∀ g, b = some g → w.heap.size ≤ g) : Gr w w2 :=
  Below.trans (hG.trans hg) (hc.below hb (hG.trans hg).size)
theorem Own.take {B s : Nat} {g off n cap : Nat} {xs : List Value} {w : World} (h : Own B s (.slice (some ⟨g, off, none⟩) n cap) n xs w) (k : Nat) (hk : k ≤ n) : Own B s (.slice (some ⟨g, off, none⟩) k cap) k (xs.take (k * s)) w := by
  have hl := h.1
  rcases h.2 with ⟨h, _⟩ | ⟨g', off', cap', he, hB, hc, hm, hx, hw⟩
  · simp at h
  · simp at he
    obtain ⟨⟨rfl, rfl⟩, rfl⟩ := he
    have := Nat.mul_le_mul_right s hk
    refine ⟨by rw [List.length_take]; omega, .inr ⟨g, off, cap, rfl, hB, by omega, hm, ?_, hw⟩⟩
    intro j u hj
    rw [List.getElem?_take] at hj
    split at hj
    · exact hx j u hj
    · cases hj
theorem one_row {w : World} {b : Nat} {v : Value} {T : TypeId} (h : w.heap[b]? = some (.cells [v].toArray T (0, 0))) : ∀ (j : Nat) (u : Value), [v][j]? = some u → w.cell? ((⟨b, 0, none⟩ : Addr).add j) = some u := by
  intro j u hj
  match j, hj with
  | 0, hj =>
    simp at hj; subst hj
    exact cell_of_row _ _ _ _ _ _ h
/-- two slices that lie in different blocks -/
def Dis (v u : Value) (w : World) : Prop :=
  (∀ g, v.ownBlock = some g → g < w.heap.size) ∧ (∀ g, u.ownBlock = some g → g < w.heap.size) ∧ ∀ g, v.ownBlock = some g → u.ownBlock ≠ some g
theorem Dis.symm {v u : Value} {w : World} (h : Dis v u w) : Dis u v w := ⟨h.2.1, h.1, fun g hg hv => h.2.2 g hv hg⟩
theorem Dis.nil (v : Value) (w : World) (hv : v.ownBlock = none) : Dis v v w := ⟨by simp [hv], by simp [hv], by simp [hv]⟩
theorem Dis.keep {v u : Value} {w : World} (h : Dis v u w) : u.ownBlock = none ∨ u.ownBlock ≠ v.ownBlock := by
  cases hu : u.ownBlock with
  | none => exact .inl rfl
  | some g => exact .inr (fun e => h.2.2 g e.symm hu)
theorem Dis.grown {v u v' : Value} {w w1 w2 : World} (h : Dis v u w) (hg : Gr w w1) (hc : Chg v.ownBlock w1 w2) (hb : ∀ g, v'.ownBlock = some g → v.ownBlock = some g ∨ w1.heap.size ≤ g)
    {B s n : Nat} {xs : List Value} (ho : Own B s v' n xs w2) (hn : 0 < n * s) : Dis v' u w2 := by
  refine ⟨fun g hg' => ho.lt hn hg', fun g hu => ?_, fun g hv' hu => ?_⟩
  · have := h.2.1 g hu; have := hg.size; have := hc.size; omega
  · rcases hb g hv' with h1 | h1
    · exact h.2.2 g h1 hu
    · have := h.2.1 g hu; have := hg.size; omega
end Go.Proofs.YtbkhkpcnclhoiaaDoor
