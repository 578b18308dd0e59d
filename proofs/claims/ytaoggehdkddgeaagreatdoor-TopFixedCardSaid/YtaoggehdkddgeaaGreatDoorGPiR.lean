/- The reference's PutInt, at every number. -/
import Derived.Test.YtaoggehdkddgeaaGreatDoorGenA
section
namespace Go.Proofs.YtaoggehdkddgeaaGreatDoor
open Go Go.RowKit Go.Shelf
attribute [local go_sem] gAt gUpon
attribute [local simp] Gr.refl Gr.alloc

def zig (n : Int) : Nat := if n < 0 then (2 * (-n) - 1).toNat else (2 * n).toNat
def encZ (z : Nat) : ByteArray := ⟨((grpL 10 z).map fun x => UInt8.ofNat (grpN x)).toArray⟩
def zigOk (n : Int) : Bool := decide (-4611686018427387903 ≤ n) && decide (n ≤ 4611686018427387903)
theorem or128 : ∀ g, g < 128 → g % 256 ||| 128 = g + 128 := by decide +kernel
end Go.Proofs.YtaoggehdkddgeaaGreatDoor
end
section
namespace Go.Proofs.YtaoggehdkddgeaaGreatDoor
open Go

end Go.Proofs.YtaoggehdkddgeaaGreatDoor
end
section
namespace Go.Proofs.YtaoggehdkddgeaaGreatDoor
section
open Go Go.RowKit Go.Shelf
attribute [local go_sem] gAt gUpon
attribute [local simp] Gr.refl Gr.alloc

/-- a list of strings that the call made -/
def OwnL (B : Nat) (L : List ByteArray) (v : Value) (w : World) : Prop := Own B 1 v L.length (sC L) w
theorem OwnL.gr {B : Nat} {L : List ByteArray} {v : Value} {w w' : World} (h : OwnL B L v w) (hg : Gr w w') : OwnL B L v w' := Own.gr h hg
theorem OwnL.stb (B : Nat) (L : List ByteArray) : Stb (OwnL B L) := fun _ _ _ hg h => OwnL.gr h hg
theorem OwnL.mono {B B' : Nat} {L : List ByteArray} {v : Value} {w : World} (h : OwnL B L v w) (hB : B' ≤ B) : OwnL B' L v w := Own.mono h hB
theorem OwnL.join {B n : Nat} {L M : List ByteArray} {v : Value} {w : World} (h : Own B 1 v n (sC L ++ sC M) w) (hn : n = L.length + M.length) : OwnL B (L ++ M) v w := by
  unfold OwnL
  subst hn
  rw [show sC (L ++ M) = sC L ++ sC M by simp [sC], List.length_append]; exact h
theorem OwnL.strs {B : Nat} {L : List ByteArray} {v : Value} {w : World} (h : OwnL B L v w) : StrsAt v L w := by
  rcases h.2 with ⟨h1, h0⟩ | ⟨g, off, cap, h1, _, h3, h4, h5, _⟩
  · exact .inl ⟨h1, List.eq_nil_of_length_eq_zero h0⟩
  · exact .inr ⟨g, off, cap, h1, h3, h4, fun j x hj => h5 j _ (by simp [sC, hj])⟩
theorem strs_new (w : World) (L : List ByteArray) (hl : L.length ≤ maxLen) : OwnL w.heap.size L (.slice (some ⟨w.heap.size, 0, none⟩) L.length L.length) (w.alloc (.cells (sC L).toArray 9)) := by
  have hrow := heap_alloc_new w (.cells (sC L).toArray 9)
  refine ⟨by simp [sC], .inr ⟨_, 0, _, rfl, Nat.le_refl _, Nat.le_refl _, hl, fun j u hj => ?_, fun j hj => ?_⟩⟩
  · rw [cell_of_row _ _ _ _ _ _ hrow, Nat.zero_add]; simpa using hj
  · rw [cell_of_row _ _ _ _ _ _ hrow]
    exact ⟨by simp [sC] at hj ⊢; omega, frozen_of_row _ _ _ _ _ hrow⟩
theorem sC_one (L : List ByteArray) : ∀ u ∈ sC L, u.oneCell' = true := by
  intro u hu
  obtain ⟨x, _, rfl⟩ := List.mem_map.1 hu
  rfl
end
section
open Go Go.RowKit Go.Shelf
attribute [local go_sem] gAt gUpon
attribute [local simp] Gr.refl Gr.alloc

end
end Go.Proofs.YtaoggehdkddgeaaGreatDoor
end
