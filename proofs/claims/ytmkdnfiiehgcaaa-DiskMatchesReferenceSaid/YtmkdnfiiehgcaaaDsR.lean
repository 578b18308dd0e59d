/- A fresh box for a write, as the laws' loops make it. -/
import Derived.Test.YtmkdnfiiehgcaaaDsQ
namespace Go.Proofs.Ytmkdnfiiehgcaaa
open Go Go.RowKit

/-- a box of writes, made since w0 -/
def NewBox (w0 : World) (v : Value) (w : World) : Prop := ∃ b, v = .pointer (some ⟨b, 0, none⟩) ∧ w0.heap.size ≤ b ∧ w.heap[b]? = some (.cells #[.int .i64 0, .string ⟨#[]⟩, .bool false] 53 (0, 0))
theorem stb_box (w0 : World) : Stb (NewBox w0) := fun _ _ _ h ⟨b, hv, h0, hb⟩ => ⟨b, hv, h0, h.block hb⟩
theorem newBox (w0 w : World) (h : w0.heap.size ≤ w.heap.size) : NewBox w0 (.pointer (some ⟨w.heap.size, 0, none⟩)) (w.alloc (.cells #[.int .i64 0, .string ⟨#[]⟩, .bool false] 53)) :=
  ⟨_, rfl, h, heap_alloc_new _ _⟩
/-- one element of the statements' lists of writes -/
theorem wp_at {p : Option Addr} {c k : Nat} {l : List WP} {w W : World} {x : WP} (hv : RowsIn 3 WpR (.slice p l.length c) l w) (hx : l[k]? = some x) (hg : Gr w W) :
    ∃ g off, p = some ⟨g, off, none⟩ ∧ l.length ≤ c ∧ W.cell? ⟨g, off + k * 3, none⟩ = some (.int .i64 x.off) ∧ W.cell? ⟨g, off + k * 3 + 1, none⟩ = some (.string x.s) ∧ W.cell? ⟨g, off + k * 3 + 2, none⟩ = some (.bool x.sync) ∧
      (-9223372036854775808 ≤ x.off ∧ x.off ≤ 9223372036854775807) ∧ x.s.size ≤ 9223372036854775807 := by
  have hlt := (List.getElem?_eq_some_iff.1 hx).1
  rcases hv with ⟨rfl, _⟩ | ⟨g, off, cap, he, h1, h2, h3, h4⟩
  · simp at hlt
  · injection he with e1 e2 e3
    subst e1 e3
    obtain ⟨cs, ⟨rfl, b1, b2, b3⟩, -, hc⟩ := h4 k x hx
    refine ⟨g, off, rfl, h1, ?_, ?_, ?_, ⟨b1, b2⟩, by unfold maxLen at b3; omega⟩
    · have := hc 0 _ rfl; exact hg.cell this
    · have := hc 1 _ rfl; exact hg.cell (by rw [Nat.add_assoc]; exact this)
    · have := hc 2 _ rfl; exact hg.cell (by rw [Nat.add_assoc]; exact this)
theorem bytes_all {g : Nat} {b : List UInt8} {w : World} (h : ByRow 5 g b w) : Go.Lib.Bytes w g 0 (bytesOf b) ∧ (bytesOf b).size = b.length := by
  have := bytes_part (o := 0) (m := b.length) h rfl (by omega)
  rw [List.drop_zero, List.take_length] at this
  exact this
theorem conv_all {g n : Nat} {b : List UInt8} {w : World} (h : ByRow 5 g b w) (hb : b.length = n) (cap : Nat) : (convert 40 9 (.slice (some ⟨g, 0, none⟩) n cap)).run Try.prog w = .ok (.string (bytesOf b)) w := by
  have hb2 := bytes_all h
  have := Go.Lib.run_convert_whole (P := Try.prog) w 40 5 9 Try.underlying40 Try.underlying5 Try.underlying9 g 0 (bytesOf b) hb2.1 cap
  rw [hb2.2, hb] at this
  exact this
end Go.Proofs.Ytmkdnfiiehgcaaa
