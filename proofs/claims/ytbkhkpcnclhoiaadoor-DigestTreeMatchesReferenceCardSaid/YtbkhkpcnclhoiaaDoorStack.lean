/- The stack of complete parts, the last one first, that the root's loop keeps. No program in sight. -/
import Derived.Test.YtbkhkpcnclhoiaaDoorTree
namespace Go.Proofs.YtbkhkpcnclhoiaaDoor

/-- complete parts, the smallest first: lengths are powers of two and grow -/
def Up : List (List ByteArray) → Prop
  | [] => True
  | [a] => ∃ j, a.length = 2 ^ j
  | a :: b :: ps => (∃ j, a.length = 2 ^ j) ∧ a.length < b.length ∧ Up (b :: ps)
/-- the same but for the first, that may be as long as the second -/
def Top : List (List ByteArray) → Prop
  | [] => False
  | [a] => ∃ j, a.length = 2 ^ j
  | a :: b :: ps => (∃ j, a.length = 2 ^ j) ∧ a.length ≤ b.length ∧ Up (b :: ps)
theorem Up.pow {a : List ByteArray} {ps : List (List ByteArray)} (h : Up (a :: ps)) : ∃ j, a.length = 2 ^ j := by
  cases ps with
  | nil => exact h
  | cons b ps => exact h.1
theorem Up.tail {a : List ByteArray} {ps : List (List ByteArray)} (h : Up (a :: ps)) : Up ps := by
  cases ps with
  | nil => trivial
  | cons b ps => exact h.2.2
theorem Up.pos {a : List ByteArray} {ps : List (List ByteArray)} (h : Up (a :: ps)) : 0 < a.length := by
  obtain ⟨j, hj⟩ := h.pow
  rw [hj]; exact Nat.pow_pos (by decide)
theorem pow_next {a b : List ByteArray} {i j : Nat} (ha : a.length = 2 ^ i) (hb : b.length = 2 ^ j) (h : a.length < b.length) : 2 * a.length ≤ b.length := by
  rw [ha, hb] at h
  have hij : i < j := (Nat.pow_lt_pow_iff_right (by decide)).1 h
  have h3 : 2 ^ (i + 1) ≤ 2 ^ j := Nat.pow_le_pow_right (by decide) hij
  rw [Nat.pow_succ] at h3
  omega
theorem Up.push {ps : List (List ByteArray)} (h : Up ps) (x : ByteArray) : Top ([x] :: ps) := by
  cases ps with
  | nil => exact ⟨0, rfl⟩
  | cons b ps => exact ⟨⟨0, rfl⟩, h.pos, h⟩
theorem Top.join {a b : List ByteArray} {ps : List (List ByteArray)} (h : Top (a :: b :: ps)) (e : a.length = b.length) : Top ((b ++ a) :: ps) := by
  obtain ⟨⟨j, hj⟩, _, hu⟩ := h
  have hl : (b ++ a).length = 2 ^ (j + 1) := by rw [List.length_append, Nat.pow_succ]; omega
  cases ps with
  | nil => exact ⟨j + 1, hl⟩
  | cons c ps =>
    obtain ⟨⟨i, hi⟩, hlt, hu⟩ := hu
    obtain ⟨k, hk⟩ := hu.pow
    have := pow_next hi hk hlt
    exact ⟨⟨j + 1, hl⟩, by rw [List.length_append]; omega, hu⟩
theorem Top.root {a b : List ByteArray} {ps : List (List ByteArray)} (h : Top (a :: b :: ps)) (e : a.length = b.length) : rootD (b ++ a) = nodeD (rootD b) (rootD a) := by
  obtain ⟨⟨j, hj⟩, _, hu⟩ := h
  exact rootD_double b a j (e ▸ hj) hj
theorem Top.up {a b : List ByteArray} {ps : List (List ByteArray)} (h : Top (a :: b :: ps)) (e : a.length ≠ b.length) : Up (a :: b :: ps) := by
  obtain ⟨hj, hle, hu⟩ := h
  exact ⟨hj, by omega, hu⟩
theorem Top.one {a : List ByteArray} (h : Top [a]) : Up [a] := h
theorem Up.fold : ∀ (ps : List (List ByteArray)) (X : List ByteArray), Up ps → 0 < X.length → (∀ b, ps.head? = some b → X.length < b.length) →
    ps.foldl (fun out r => nodeD (rootD r) out) (rootD X) = rootD (ps.reverse.flatten ++ X) := by
  intro ps
  induction ps with
  | nil => intro X _ _ _; rfl
  | cons b ps ih =>
    intro X hu hX hb
    have hlt := hb b rfl
    obtain ⟨j, hj⟩ := hu.pow
    rw [List.foldl_cons, ← rootD_front b X j hj hX (by omega), ih (b ++ X) hu.tail (by rw [List.length_append]; omega) ?_]
    · rw [List.reverse_cons, List.flatten_append, List.append_assoc]; simp
    · intro c hc
      cases ps with
      | nil => cases hc
      | cons d ps =>
        cases hc
        obtain ⟨k, hk⟩ := hu.2.2.pow
        have := pow_next hj hk hu.2.1
        rw [List.length_append]; omega
/-- the stack's roots, joined, are the root of all -/
theorem Up.root {a : List ByteArray} {ps : List (List ByteArray)} (h : Up (a :: ps)) :
    ps.foldl (fun out r => nodeD (rootD r) out) (rootD a) = rootD (a :: ps).reverse.flatten := by
  rw [Up.fold ps a h.tail h.pos ?_]
  · rw [List.reverse_cons, List.flatten_append]; simp
  · intro b hb
    cases ps with
    | nil => cases hb
    | cons d ps => cases hb; exact h.2.1
/-- the parts' lengths are at most the length of all -/
theorem part_le {a : List ByteArray} : ∀ {ps : List (List ByteArray)}, a ∈ ps → a.length ≤ ps.reverse.flatten.length := by
  intro ps
  induction ps with
  | nil => intro h; cases h
  | cons b ps ih =>
    intro h
    rw [List.reverse_cons, List.flatten_append, List.length_append]
    simp only [List.flatten_cons, List.flatten_nil, List.append_nil]
    rcases List.mem_cons.1 h with rfl | h
    · omega
    · have := ih h; omega
/-- each part is not empty, so the count of parts is at most the length of all -/
theorem count_le : ∀ {ps : List (List ByteArray)}, Up ps → ps.length ≤ ps.reverse.flatten.length := by
  intro ps
  induction ps with
  | nil => intro _; simp
  | cons a ps ih =>
    intro h
    have h1 := ih h.tail
    have h2 := h.pos
    rw [List.reverse_cons, List.flatten_append, List.length_append, List.length_cons]
    simp only [List.flatten_cons, List.flatten_nil, List.append_nil]
    omega
theorem top_count {a : List ByteArray} {ps : List (List ByteArray)} (h : Top (a :: ps)) : (a :: ps).length ≤ (a :: ps).reverse.flatten.length := by
  have hp : Up ps := by
    cases ps with
    | nil => trivial
    | cons b ps => exact h.2.2
  have ha : 0 < a.length := by
    have : ∃ j, a.length = 2 ^ j := by
      cases ps with
      | nil => exact h
      | cons b ps => exact h.1
    obtain ⟨j, hj⟩ := this
    rw [hj]; exact Nat.pow_pos (by decide)
  have h1 := count_le hp
  rw [List.reverse_cons, List.flatten_append, List.length_append, List.length_cons]
  simp only [List.flatten_cons, List.flatten_nil, List.append_nil]
  omega
end Go.Proofs.YtbkhkpcnclhoiaaDoor
