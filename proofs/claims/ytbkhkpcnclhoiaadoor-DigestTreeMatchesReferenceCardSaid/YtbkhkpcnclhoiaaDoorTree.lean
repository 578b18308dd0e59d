/- The tree of digests as plain functions on lists, and laws on it. No program in sight. -/
import Derived.Test.YtbkhkpcnclhoiaaDoorLeft
namespace Go.Proofs.YtbkhkpcnclhoiaaDoor

def emptyD : ByteArray := sha ⟨#[]⟩
def rootF : Nat → List ByteArray → ByteArray
  | 0, _ => emptyD
  | f + 1, l => if l.length = 0 then emptyD else if l.length = 1 then leafD (l.headD ⟨#[]⟩) else nodeD (rootF f (l.take (lp l.length))) (rootF f (l.drop (lp l.length)))
/-- the root of a list -/
def rootD (l : List ByteArray) : ByteArray := rootF l.length l
theorem rootF_fuel : ∀ (f g : Nat) (l : List ByteArray), l.length ≤ f → l.length ≤ g → rootF f l = rootF g l := by
  intro f
  induction f with
  | zero =>
    intro g l hf _
    have h0 : l.length = 0 := by omega
    cases g with
    | zero => rfl
    | succ g => rw [rootF, rootF, if_pos h0]
  | succ f ih =>
    intro g l hf hg
    cases g with
    | zero =>
      have h0 : l.length = 0 := by omega
      rw [rootF, rootF, if_pos h0]
    | succ g =>
      rw [rootF, rootF]
      by_cases h0 : l.length = 0
      · rw [if_pos h0, if_pos h0]
      · rw [if_neg h0, if_neg h0]
        by_cases h1 : l.length = 1
        · rw [if_pos h1, if_pos h1]
        · rw [if_neg h1, if_neg h1]
          have hs := lp_spec l.length (by omega)
          have hp := lp_pos l.length
          rw [ih g (l.take (lp l.length)) (by rw [List.length_take]; omega) (by rw [List.length_take]; omega), ih g (l.drop (lp l.length)) (by rw [List.length_drop]; omega) (by rw [List.length_drop]; omega)]
theorem rootD_nil : rootD [] = emptyD := rfl
theorem rootD_one (x : ByteArray) : rootD [x] = leafD x := by
  unfold rootD
  rw [show [x].length = 0 + 1 from rfl, rootF, if_neg (by simp), if_pos (by simp)]; rfl
theorem rootD_split (l : List ByteArray) (h : 2 ≤ l.length) : rootD l = nodeD (rootD (l.take (lp l.length))) (rootD (l.drop (lp l.length))) := by
  have hs := lp_spec l.length h
  have hp := lp_pos l.length
  unfold rootD
  obtain ⟨f, hf⟩ : ∃ f, l.length = f + 1 := ⟨l.length - 1, by omega⟩
  conv => lhs; rw [hf, rootF]
  rw [if_neg (by omega), if_neg (by omega)]
  rw [rootF_fuel f (l.take (lp l.length)).length _ (by rw [List.length_take]; omega) (Nat.le_refl _), rootF_fuel f (l.drop (lp l.length)).length _ (by rw [List.length_drop]; omega) (Nat.le_refl _)]
theorem rootD_size (l : List ByteArray) : (rootD l).size = 32 := by
  match l with
  | [] => exact sha_size _
  | [x] => rw [rootD_one]; exact leafD_size _
  | x :: y :: l => rw [rootD_split _ (by simp)]; exact nodeD_size _ _

/-- a list whose length is a power of two -/
theorem rootD_double (a b : List ByteArray) (j : Nat) (ha : a.length = 2 ^ j) (hb : b.length = 2 ^ j) : rootD (a ++ b) = nodeD (rootD a) (rootD b) := by
  have hp : 0 < 2 ^ j := Nat.pow_pos (by decide)
  have hl : lp (a ++ b).length = a.length := by
    rw [ha]; exact (lp_unique _ j (by rw [List.length_append]; omega) (by rw [List.length_append]; omega)).symm
  rw [rootD_split _ (by rw [List.length_append]; omega), hl, List.take_left, List.drop_left]
/-- a list whose first part has as length a power of two that is greater than what follows -/
theorem rootD_front (a b : List ByteArray) (j : Nat) (ha : a.length = 2 ^ j) (hb0 : 0 < b.length) (hb : b.length < 2 ^ j) : rootD (a ++ b) = nodeD (rootD a) (rootD b) := by
  have hl : lp (a ++ b).length = a.length := by
    rw [ha]; exact (lp_unique _ j (by rw [List.length_append]; omega) (by rw [List.length_append]; omega)).symm
  rw [rootD_split _ (by rw [List.length_append]; omega), hl, List.take_left, List.drop_left]

/-- complete parts, the largest one first: each has as length a power of two that is greater than the next one's -/
def Parts : List (List ByteArray) → Prop
  | [] => True
  | [a] => ∃ j, a.length = 2 ^ j
  | a :: b :: ps => (∃ j, a.length = 2 ^ j) ∧ b.length < a.length ∧ Parts (b :: ps)
theorem Parts.sum : ∀ (ps : List (List ByteArray)) (a : List ByteArray), Parts (a :: ps) → (ps.flatten).length < a.length := by
  intro ps
  induction ps with
  | nil => intro a h; obtain ⟨j, hj⟩ := h; simp [hj]; exact Nat.pow_pos (by decide)
  | cons b ps ih =>
    intro a h
    obtain ⟨⟨j, hj⟩, hlt, hp⟩ := h
    have h1 := ih b hp
    have h2 : ∃ i, b.length = 2 ^ i := by cases ps with
      | nil => exact hp
      | cons c ps => exact hp.1
    obtain ⟨i, hi⟩ := h2
    rw [hi, hj] at hlt
    have hij : i < j := (Nat.pow_lt_pow_iff_right (by decide)).1 hlt
    have h3 : 2 ^ (i + 1) ≤ 2 ^ j := Nat.pow_le_pow_right (by decide) hij
    rw [Nat.pow_succ] at h3
    rw [List.flatten_cons, List.length_append, hj]
    omega
/-- the roots of the parts, joined from the last one on -/
def joined : List (List ByteArray) → ByteArray
  | [] => emptyD
  | [a] => rootD a
  | a :: b :: ps => nodeD (rootD a) (joined (b :: ps))
theorem joined_root : ∀ ps : List (List ByteArray), Parts ps → joined ps = rootD ps.flatten := by
  intro ps
  induction ps with
  | nil => intro _; rfl
  | cons a ps ih =>
    cases ps with
    | nil => intro _; simp [joined]
    | cons b ps =>
      intro h
      have hs := Parts.sum _ _ h
      obtain ⟨⟨j, hj⟩, hlt, hp⟩ := h
      have hb0 : 0 < b.length := by
        have h2 : ∃ i, b.length = 2 ^ i := by cases ps with
          | nil => exact hp
          | cons c ps => exact hp.1
        obtain ⟨i, hi⟩ := h2
        rw [hi]; exact Nat.pow_pos (by decide)
      rw [joined, ih hp, show (a :: b :: ps).flatten = a ++ (b :: ps).flatten from rfl, rootD_front a _ j hj (by rw [List.flatten_cons, List.length_append]; omega) (by rw [← hj]; exact hs)]

def proofF : Nat → List ByteArray → Nat → List ByteArray
  | 0, _, _ => []
  | f + 1, l, i => if l.length ≤ 1 then [] else if i < lp l.length then proofF f (l.take (lp l.length)) i ++ [rootD (l.drop (lp l.length))] else proofF f (l.drop (lp l.length)) (i - lp l.length) ++ [rootD (l.take (lp l.length))]
/-- the proof of an entry -/
def proofD (l : List ByteArray) (i : Nat) : List ByteArray := proofF l.length l i
theorem proofF_fuel : ∀ (f g : Nat) (l : List ByteArray) (i : Nat), l.length ≤ f → l.length ≤ g → proofF f l i = proofF g l i := by
  intro f
  induction f with
  | zero =>
    intro g l i hf _
    cases g with
    | zero => rfl
    | succ g => rw [proofF, proofF, if_pos (by omega)]
  | succ f ih =>
    intro g l i hf hg
    cases g with
    | zero => rw [proofF, proofF, if_pos (by omega)]
    | succ g =>
      rw [proofF, proofF]
      by_cases h1 : l.length ≤ 1
      · rw [if_pos h1, if_pos h1]
      · rw [if_neg h1, if_neg h1]
        have hs := lp_spec l.length (by omega)
        have hp := lp_pos l.length
        rw [ih g (l.take (lp l.length)) i (by rw [List.length_take]; omega) (by rw [List.length_take]; omega), ih g (l.drop (lp l.length)) _ (by rw [List.length_drop]; omega) (by rw [List.length_drop]; omega)]
theorem proofD_one (l : List ByteArray) (i : Nat) (h : l.length ≤ 1) : proofD l i = [] := by
  unfold proofD
  cases hl : l.length with
  | zero => rfl
  | succ f => rw [proofF, if_pos h]
theorem proofD_split (l : List ByteArray) (i : Nat) (h : 2 ≤ l.length) : proofD l i =
    if i < lp l.length then proofD (l.take (lp l.length)) i ++ [rootD (l.drop (lp l.length))] else proofD (l.drop (lp l.length)) (i - lp l.length) ++ [rootD (l.take (lp l.length))] := by
  have hs := lp_spec l.length h
  have hp := lp_pos l.length
  unfold proofD
  obtain ⟨f, hf⟩ : ∃ f, l.length = f + 1 := ⟨l.length - 1, by omega⟩
  conv => lhs; rw [hf, proofF]
  rw [if_neg (by omega)]
  rw [proofF_fuel f (l.take (lp l.length)).length _ _ (by rw [List.length_take]; omega) (Nat.le_refl _), proofF_fuel f (l.drop (lp l.length)).length _ _ (by rw [List.length_drop]; omega) (Nat.le_refl _)]

/-- the value of a proof, its last element first -/
def valR (s : ByteArray) : List ByteArray → Nat → Nat → Option ByteArray
  | [], n, _ => if n = 1 then some (leafD s) else none
  | x :: r, n, i => if n = 1 then none else if i < lp n then (valR s r (lp n) i).map (nodeD · x) else (valR s r (n - lp n) (i - lp n)).map (nodeD x ·)
end Go.Proofs.YtbkhkpcnclhoiaaDoor
