/- The greatest power of two below a number: its laws, and the contracts of the functions that compute it. -/
import Derived.Test.YtjnnhhengpinmaaGreatDoorNode
namespace Go.Proofs.YtjnnhhengpinmaaGreatDoor
section
open Go.RowKit

/-- the greatest power of two that is less than n -/
def lp (n : Nat) : Nat := 2 ^ Nat.log2 (n - 1)
theorem lp_spec (n : Nat) (h : 2 ≤ n) : lp n < n ∧ n ≤ 2 * lp n := by
  have h1 : n - 1 ≠ 0 := by omega
  have h2 := Nat.log2_self_le h1
  have h3 := Nat.lt_log2_self (n := n - 1)
  unfold lp
  rw [Nat.pow_succ] at h3
  omega
theorem lp_pos (n : Nat) : 0 < lp n := Nat.pow_pos (by decide)
theorem lp_unique (n j : Nat) (h1 : 2 ^ j < n) (h2 : n ≤ 2 * 2 ^ j) : 2 ^ j = lp n := by
  have : Nat.log2 (n - 1) = j := by
    refine (Nat.log2_eq_iff (by have := Nat.pow_pos (n := j) (show 0 < 2 by decide); omega)).2 ⟨by omega, ?_⟩
    rw [Nat.pow_succ]; omega
  rw [lp, this]
theorem bitLen_lp (n : Nat) (h : 2 ≤ n) (hn : n ≤ 9223372036854775807) : ∃ j : Nat, Lib.bitLen (n - 1) = j + 1 ∧ j ≤ 62 ∧ 2 ^ j = lp n := by
  have h1 : n - 1 ≠ 0 := by omega
  have h2 := Nat.log2_self_le h1
  have h3 := Nat.lt_log2_self (n := n - 1)
  refine ⟨Nat.log2 (n - 1), ?_, ?_, rfl⟩
  · have h4 := Lib.bitLen_shift (Nat.log2 (n - 1)) (n - 1) h2 (by have : (2 : Nat) ^ 64 = 18446744073709551616 := by decide
                                                                  omega)
    have h5 : (n - 1) / 2 ^ Nat.log2 (n - 1) = 1 := by
      rw [Nat.div_eq_iff (Nat.pow_pos (by decide))]
      rw [Nat.pow_succ] at h3
      omega
    rw [h4, h5]; rfl
  · have : Nat.log2 (n - 1) < 63 := (Nat.log2_lt h1).2 (by have : (2 : Nat) ^ 63 = 9223372036854775808 := by decide
                                                           omega)
    omega
theorem lp_le (n : Nat) (h : 2 ≤ n) (hn : n ≤ 9223372036854775807) : lp n ≤ 4611686018427387904 := by
  obtain ⟨j, _, hj, h2⟩ := bitLen_lp n h hn
  rw [← h2]
  exact Nat.le_trans (Nat.pow_le_pow_right (by decide) hj) (by decide)

theorem left_any (n : Nat) (h : 2 ≤ n) (hn : n ≤ 9223372036854775807) (w : World) :
    Calls Tryz.prog 97 #[.int .i64 (n : Int)] w fun e w' => e = .returned (.int .i64 ((lp n : Nat) : Int)) ∧ w = w' := by
  obtain ⟨j, hb, hj, hp⟩ := bitLen_lp n h hn
  have hle := lp_le n h hn
  have e1 : IntKind.i64.wrap ((n : Int) - 1) = (n : Int) - 1 := IntWalk.i64_in _ (by omega)
  have hu : IntKind.u64.wrap ((n : Int) - 1) = (n : Int) - 1 := by rw [IntKind.wrap_u64]; omega
  have hbl : Lib.bitLen ((n : Int) - 1).toNat = j + 1 := by rw [show ((n : Int) - 1).toNat = n - 1 by omega]; exact hb
  have HP := Lib.hid hp
  have HB := Lib.hid hbl
  clear hp hb hbl
  have hn1 : (1 : Int) ≤ (n : Int) - 1 := by omega
  go_enter Tryz.func97, Tryz.ntmps97
  go_wp2_with fail
  refine (Tryz.bits_Len _ _ (by omega) (by omega)).mono ?_
  rintro e w' ⟨rfl, rfl⟩
  rw [HB.out]
  have hsh : ((((j + 1 : Nat) : Int) - 1)) = (j : Int) := by omega
  go_wp2_with fail
  go_ret
  refine ⟨?_, rfl⟩
  have h1 : wrap64 ((2 : Int) ^ j) = ((lp n : Nat) : Int) := by
    have h2 : (2 : Int) ^ j = ((lp n : Nat) : Int) := by rw [← HP.out]; simp
    rw [h2]
    exact IntWalk.wrap64_in _ ⟨by omega, by omega⟩
  show Ending.returned (.int .i64 (wrap64 ((2 : Int) ^ j))) = _
  rw [h1]

/-- the loop that the reference and the statements share -/
def isPow (k : Nat) : Prop := ∃ j, k = 2 ^ j
theorem isPow_two {k : Nat} (h : isPow k) : isPow (2 * k) := by
  obtain ⟨j, rfl⟩ := h; exact ⟨j + 1, by rw [Nat.pow_succ]; omega⟩
theorem isPow_lp {k n : Nat} (h : isPow k) (h1 : k < n) (h2 : n ≤ 2 * k) : k = lp n := by
  obtain ⟨j, rfl⟩ := h; exact lp_unique n j h1 h2
theorem refLeft_any (n : Nat) (h : 2 ≤ n) (hn : n ≤ 9223372036854775807) (w : World) :
    Calls Tryz.prog 93 #[.int .i64 (n : Int)] w fun e w' => e = .returned (.int .i64 ((lp n : Nat) : Int)) ∧ w = w' := by
  go_enter Tryz.func93, Tryz.ntmps93
  go_wp2
  go_loop [3] (fun t => ∃ k : Nat, 0 < k ∧ k < n ∧ Hid (isPow k) ∧ t = .int .i64 k) (fun t => n - (intOf t).toNat)
  case atStart => exact ⟨1, by omega, by omega, Lib.hid ⟨0, rfl⟩, rfl⟩
  case round =>
    obtain ⟨k, hk0, hk, hp, rfl⟩ := hrel
    by_cases hlt : 2 * k < n
    · have ht : (k : Int) < (n : Int) - (k : Int) := by omega
      go_wp2
      go_round
      case rel => exact ⟨2 * k, by omega, by omega, Lib.hid (isPow_two hp.out), by go_num⟩
      case measure => simp [intOf]; omega
    · have ht : (n : Int) - (k : Int) ≤ (k : Int) := by omega
      have HL : Hid (k = lp n) := Lib.hid (isPow_lp hp.out hk (by omega))
      go_wp2
      go_ret
      exact ⟨by rw [← HL.out]; rfl, rfl⟩
end
section
def emptyD : ByteArray := sha ⟨#[]⟩
def rootF : Nat → List ByteArray → ByteArray
  | 0, _ => emptyD
  | f + 1, l => if l.length = 0 then emptyD else if l.length = 1 then leafD (l.headD ⟨#[]⟩) else nodeD (rootF f (l.take (lp l.length))) (rootF f (l.drop (lp l.length)))
/-- the root of a list -/
def rootD (l : List ByteArray) : ByteArray := rootF l.length l
theorem rootF_fuel : ∀ (f g : Nat) (l : List ByteArray), l.length ≤ f → l.length ≤ g → rootF f l = rootF g l := by
  intro f
  induction f with
  | zero =>
    intro g l hf _
    have h0 : l.length = 0 := by omega
    cases g with
    | zero => rfl
    | succ g => rw [rootF, rootF, if_pos h0]
  | succ f ih =>
    intro g l hf hg
    cases g with
    | zero =>
      have h0 : l.length = 0 := by omega
      rw [rootF, rootF, if_pos h0]
    | succ g =>
      rw [rootF, rootF]
      by_cases h0 : l.length = 0
      · rw [if_pos h0, if_pos h0]
      · rw [if_neg h0, if_neg h0]
        by_cases h1 : l.length = 1
        · rw [if_pos h1, if_pos h1]
        · rw [if_neg h1, if_neg h1]
          have hs := lp_spec l.length (by omega)
          have hp := lp_pos l.length
          rw [ih g (l.take (lp l.length)) (by rw [List.length_take]; omega) (by rw [List.length_take]; omega), ih g (l.drop (lp l.length)) (by rw [List.length_drop]; omega) (by rw [List.length_drop]; omega)]
theorem rootD_nil : rootD [] = emptyD := rfl
theorem rootD_one (x : ByteArray) : rootD [x] = leafD x := by
  unfold rootD
  rw [show [x].length = 0 + 1 from rfl, rootF, if_neg (by simp), if_pos (by simp)]; rfl
theorem rootD_split (l : List ByteArray) (h : 2 ≤ l.length) : rootD l = nodeD (rootD (l.take (lp l.length))) (rootD (l.drop (lp l.length))) := by
  have hs := lp_spec l.length h
  have hp := lp_pos l.length
  unfold rootD
  obtain ⟨f, hf⟩ : ∃ f, l.length = f + 1 := ⟨l.length - 1, by omega⟩
  conv => lhs; rw [hf, rootF]
  rw [if_neg (by omega), if_neg (by omega)]
  rw [rootF_fuel f (l.take (lp l.length)).length _ (by rw [List.length_take]; omega) (Nat.le_refl _), rootF_fuel f (l.drop (lp l.length)).length _ (by rw [List.length_drop]; omega) (Nat.le_refl _)]
theorem rootD_size (l : List ByteArray) : (rootD l).size = 32 := by
  match l with
  | [] => exact sha_size _
  | [x] => rw [rootD_one]; exact leafD_size _
  | x :: y :: l => rw [rootD_split _ (by simp)]; exact nodeD_size _ _

/-- a list whose length is a power of two -/
theorem rootD_double (a b : List ByteArray) (j : Nat) (ha : a.length = 2 ^ j) (hb : b.length = 2 ^ j) : rootD (a ++ b) = nodeD (rootD a) (rootD b) := by
  have hp : 0 < 2 ^ j := Nat.pow_pos (by decide)
  have hl : lp (a ++ b).length = a.length := by
    rw [ha]; exact (lp_unique _ j (by rw [List.length_append]; omega) (by rw [List.length_append]; omega)).symm
  rw [rootD_split _ (by rw [List.length_append]; omega), hl, List.take_left, List.drop_left]
/-- a list whose first part has as length a power of two that is greater than what follows -/
theorem rootD_front (a b : List ByteArray) (j : Nat) (ha : a.length = 2 ^ j) (hb0 : 0 < b.length) (hb : b.length < 2 ^ j) : rootD (a ++ b) = nodeD (rootD a) (rootD b) := by
  have hl : lp (a ++ b).length = a.length := by
    rw [ha]; exact (lp_unique _ j (by rw [List.length_append]; omega) (by rw [List.length_append]; omega)).symm
  rw [rootD_split _ (by rw [List.length_append]; omega), hl, List.take_left, List.drop_left]

/-- complete parts, the largest one first: each has as length a power of two that is greater than the next one's -/
def Parts : List (List ByteArray) → Prop
  | [] => True
  | [a] => ∃ j, a.length = 2 ^ j
  | a :: b :: ps => (∃ j, a.length = 2 ^ j) ∧ b.length < a.length ∧ Parts (b :: ps)
theorem Parts.sum : ∀ (ps : List (List ByteArray)) (a : List ByteArray), Parts (a :: ps) → (ps.flatten).length < a.length := by
  intro ps
  induction ps with
  | nil => intro a h; obtain ⟨j, hj⟩ := h; simp [hj]; exact Nat.pow_pos (by decide)
  | cons b ps ih =>
    intro a h
    obtain ⟨⟨j, hj⟩, hlt, hp⟩ := h
    have h1 := ih b hp
    have h2 : ∃ i, b.length = 2 ^ i := by cases ps with
      | nil => exact hp
      | cons c ps => exact hp.1
    obtain ⟨i, hi⟩ := h2
    rw [hi, hj] at hlt
    have hij : i < j := (Nat.pow_lt_pow_iff_right (by decide)).1 hlt
    have h3 : 2 ^ (i + 1) ≤ 2 ^ j := Nat.pow_le_pow_right (by decide) hij
    rw [Nat.pow_succ] at h3
    rw [List.flatten_cons, List.length_append, hj]
    omega
/-- the roots of the parts, joined from the last one on -/
def joined : List (List ByteArray) → ByteArray
  | [] => emptyD
  | [a] => rootD a
  | a :: b :: ps => nodeD (rootD a) (joined (b :: ps))
theorem joined_root : ∀ ps : List (List ByteArray), Parts ps → joined ps = rootD ps.flatten := by
  intro ps
  induction ps with
  | nil => intro _; rfl
  | cons a ps ih =>
    cases ps with
    | nil => intro _; simp [joined]
    | cons b ps =>
      intro h
      have hs := Parts.sum _ _ h
      obtain ⟨⟨j, hj⟩, hlt, hp⟩ := h
      have hb0 : 0 < b.length := by
        have h2 : ∃ i, b.length = 2 ^ i := by cases ps with
          | nil => exact hp
          | cons c ps => exact hp.1
        obtain ⟨i, hi⟩ := h2
        rw [hi]; exact Nat.pow_pos (by decide)
      rw [joined, ih hp, show (a :: b :: ps).flatten = a ++ (b :: ps).flatten from rfl, rootD_front a _ j hj (by rw [List.flatten_cons, List.length_append]; omega) (by rw [← hj]; exact hs)]

def proofF : Nat → List ByteArray → Nat → List ByteArray
  | 0, _, _ => []
  | f + 1, l, i => if l.length ≤ 1 then [] else if i < lp l.length then proofF f (l.take (lp l.length)) i ++ [rootD (l.drop (lp l.length))] else proofF f (l.drop (lp l.length)) (i - lp l.length) ++ [rootD (l.take (lp l.length))]
/-- the proof of an entry -/
def proofD (l : List ByteArray) (i : Nat) : List ByteArray := proofF l.length l i
theorem proofF_fuel : ∀ (f g : Nat) (l : List ByteArray) (i : Nat), l.length ≤ f → l.length ≤ g → proofF f l i = proofF g l i := by
  intro f
  induction f with
  | zero =>
    intro g l i hf _
    cases g with
    | zero => rfl
    | succ g => rw [proofF, proofF, if_pos (by omega)]
  | succ f ih =>
    intro g l i hf hg
    cases g with
    | zero => rw [proofF, proofF, if_pos (by omega)]
    | succ g =>
      rw [proofF, proofF]
      by_cases h1 : l.length ≤ 1
      · rw [if_pos h1, if_pos h1]
      · rw [if_neg h1, if_neg h1]
        have hs := lp_spec l.length (by omega)
        have hp := lp_pos l.length
        rw [ih g (l.take (lp l.length)) i (by rw [List.length_take]; omega) (by rw [List.length_take]; omega), ih g (l.drop (lp l.length)) _ (by rw [List.length_drop]; omega) (by rw [List.length_drop]; omega)]
theorem proofD_one (l : List ByteArray) (i : Nat) (h : l.length ≤ 1) : proofD l i = [] := by
  unfold proofD
  cases hl : l.length with
  | zero => rfl
  | succ f => rw [proofF, if_pos h]
theorem proofD_split (l : List ByteArray) (i : Nat) (h : 2 ≤ l.length) : proofD l i =
    if i < lp l.length then proofD (l.take (lp l.length)) i ++ [rootD (l.drop (lp l.length))] else proofD (l.drop (lp l.length)) (i - lp l.length) ++ [rootD (l.take (lp l.length))] := by
  have hs := lp_spec l.length h
  have hp := lp_pos l.length
  unfold proofD
  obtain ⟨f, hf⟩ : ∃ f, l.length = f + 1 := ⟨l.length - 1, by omega⟩
  conv => lhs; rw [hf, proofF]
  rw [if_neg (by omega)]
  rw [proofF_fuel f (l.take (lp l.length)).length _ _ (by rw [List.length_take]; omega) (Nat.le_refl _), proofF_fuel f (l.drop (lp l.length)).length _ _ (by rw [List.length_drop]; omega) (Nat.le_refl _)]

/-- the value of a proof, its last element first -/
def valR (s : ByteArray) : List ByteArray → Nat → Nat → Option ByteArray
  | [], n, _ => if n = 1 then some (leafD s) else none
  | x :: r, n, i => if n = 1 then none else if i < lp n then (valR s r (lp n) i).map (nodeD · x) else (valR s r (n - lp n) (i - lp n)).map (nodeD x ·)
end
section
/-- complete parts, the smallest first: lengths are powers of two and grow -/
def Up : List (List ByteArray) → Prop
  | [] => True
  | [a] => ∃ j, a.length = 2 ^ j
  | a :: b :: ps => (∃ j, a.length = 2 ^ j) ∧ a.length < b.length ∧ Up (b :: ps)
/-- the same but for the first, that may be as long as the second -/
def Top : List (List ByteArray) → Prop
  | [] => False
  | [a] => ∃ j, a.length = 2 ^ j
  | a :: b :: ps => (∃ j, a.length = 2 ^ j) ∧ a.length ≤ b.length ∧ Up (b :: ps)
theorem Up.pow {a : List ByteArray} {ps : List (List ByteArray)} (h : Up (a :: ps)) : ∃ j, a.length = 2 ^ j := by
  cases ps with
  | nil => exact h
  | cons b ps => exact h.1
theorem Up.tail {a : List ByteArray} {ps : List (List ByteArray)} (h : Up (a :: ps)) : Up ps := by
  cases ps with
  | nil => trivial
  | cons b ps => exact h.2.2
theorem Up.pos {a : List ByteArray} {ps : List (List ByteArray)} (h : Up (a :: ps)) : 0 < a.length := by
  obtain ⟨j, hj⟩ := h.pow
  rw [hj]; exact Nat.pow_pos (by decide)
theorem pow_next {a b : List ByteArray} {i j : Nat} (ha : a.length = 2 ^ i) (hb : b.length = 2 ^ j) (h : a.length < b.length) : 2 * a.length ≤ b.length := by
  rw [ha, hb] at h
  have hij : i < j := (Nat.pow_lt_pow_iff_right (by decide)).1 h
  have h3 : 2 ^ (i + 1) ≤ 2 ^ j := Nat.pow_le_pow_right (by decide) hij
  rw [Nat.pow_succ] at h3
  omega
theorem Up.push {ps : List (List ByteArray)} (h : Up ps) (x : ByteArray) : Top ([x] :: ps) := by
  cases ps with
  | nil => exact ⟨0, rfl⟩
  | cons b ps => exact ⟨⟨0, rfl⟩, h.pos, h⟩
theorem Top.join {a b : List ByteArray} {ps : List (List ByteArray)} (h : Top (a :: b :: ps)) (e : a.length = b.length) : Top ((b ++ a) :: ps) := by
  obtain ⟨⟨j, hj⟩, _, hu⟩ := h
  have hl : (b ++ a).length = 2 ^ (j + 1) := by rw [List.length_append, Nat.pow_succ]; omega
  cases ps with
  | nil => exact ⟨j + 1, hl⟩
  | cons c ps =>
    obtain ⟨⟨i, hi⟩, hlt, hu⟩ := hu
    obtain ⟨k, hk⟩ := hu.pow
    have := pow_next hi hk hlt
    exact ⟨⟨j + 1, hl⟩, by rw [List.length_append]; omega, hu⟩
theorem Top.root {a b : List ByteArray} {ps : List (List ByteArray)} (h : Top (a :: b :: ps)) (e : a.length = b.length) : rootD (b ++ a) = nodeD (rootD b) (rootD a) := by
  obtain ⟨⟨j, hj⟩, _, hu⟩ := h
  exact rootD_double b a j (e ▸ hj) hj
theorem Top.up {a b : List ByteArray} {ps : List (List ByteArray)} (h : Top (a :: b :: ps)) (e : a.length ≠ b.length) : Up (a :: b :: ps) := by
  obtain ⟨hj, hle, hu⟩ := h
  exact ⟨hj, by omega, hu⟩
theorem Top.one {a : List ByteArray} (h : Top [a]) : Up [a] := h
theorem Up.fold : ∀ (ps : List (List ByteArray)) (X : List ByteArray), Up ps → 0 < X.length → (∀ b, ps.head? = some b → X.length < b.length) →
    ps.foldl (fun out r => nodeD (rootD r) out) (rootD X) = rootD (ps.reverse.flatten ++ X) := by
  intro ps
  induction ps with
  | nil => intro X _ _ _; rfl
  | cons b ps ih =>
    intro X hu hX hb
    have hlt := hb b rfl
    obtain ⟨j, hj⟩ := hu.pow
    rw [List.foldl_cons, ← rootD_front b X j hj hX (by omega), ih (b ++ X) hu.tail (by rw [List.length_append]; omega) ?_]
    · rw [List.reverse_cons, List.flatten_append, List.append_assoc]; simp
    · intro c hc
      cases ps with
      | nil => cases hc
      | cons d ps =>
        cases hc
        obtain ⟨k, hk⟩ := hu.2.2.pow
        have := pow_next hj hk hu.2.1
        rw [List.length_append]; omega
/-- the stack's roots, joined, are the root of all -/
theorem Up.root {a : List ByteArray} {ps : List (List ByteArray)} (h : Up (a :: ps)) :
    ps.foldl (fun out r => nodeD (rootD r) out) (rootD a) = rootD (a :: ps).reverse.flatten := by
  rw [Up.fold ps a h.tail h.pos ?_]
  · rw [List.reverse_cons, List.flatten_append]; simp
  · intro b hb
    cases ps with
    | nil => cases hb
    | cons d ps => cases hb; exact h.2.1
/-- the parts' lengths are at most the length of all -/
theorem part_le {a : List ByteArray} : ∀ {ps : List (List ByteArray)}, a ∈ ps → a.length ≤ ps.reverse.flatten.length := by
  intro ps
  induction ps with
  | nil => intro h; cases h
  | cons b ps ih =>
    intro h
    rw [List.reverse_cons, List.flatten_append, List.length_append]
    simp only [List.flatten_cons, List.flatten_nil, List.append_nil]
    rcases List.mem_cons.1 h with rfl | h
    · omega
    · have := ih h; omega
/-- each part is not empty, so the count of parts is at most the length of all -/
theorem count_le : ∀ {ps : List (List ByteArray)}, Up ps → ps.length ≤ ps.reverse.flatten.length := by
  intro ps
  induction ps with
  | nil => intro _; simp
  | cons a ps ih =>
    intro h
    have h1 := ih h.tail
    have h2 := h.pos
    rw [List.reverse_cons, List.flatten_append, List.length_append, List.length_cons]
    simp only [List.flatten_cons, List.flatten_nil, List.append_nil]
    omega
theorem top_count {a : List ByteArray} {ps : List (List ByteArray)} (h : Top (a :: ps)) : (a :: ps).length ≤ (a :: ps).reverse.flatten.length := by
  have hp : Up ps := by
    cases ps with
    | nil => trivial
    | cons b ps => exact h.2.2
  have ha : 0 < a.length := by
    have : ∃ j, a.length = 2 ^ j := by
      cases ps with
      | nil => exact h
      | cons b ps => exact h.1
    obtain ⟨j, hj⟩ := this
    rw [hj]; exact Nat.pow_pos (by decide)
  have h1 := count_le hp
  rw [List.reverse_cons, List.flatten_append, List.length_append, List.length_cons]
  simp only [List.flatten_cons, List.flatten_nil, List.append_nil]
  omega
end
section
theorem cat2_inj {m : UInt8} {a b c d : ByteArray} (h : cat m [a, b] = cat m [c, d]) (hs : a.size = c.size) : a = c ∧ b = d := by
  have h1 := congrArg (fun x : ByteArray => x.data.toList) h
  simp only [cat, List.flatMap_cons, List.flatMap_nil, List.append_nil, List.cons.injEq, true_and] at h1
  obtain ⟨h2, h3⟩ := List.append_inj h1 (by simpa using hs)
  exact ⟨ByteArray.ext (Array.toList_inj.1 h2), ByteArray.ext (Array.toList_inj.1 h3)⟩
theorem cat1_inj {m : UInt8} {a c : ByteArray} (h : cat m [a] = cat m [c]) : a = c := by
  have h1 := congrArg (fun x : ByteArray => x.data.toList) h
  simp only [cat, List.flatMap_cons, List.flatMap_nil, List.append_nil, List.cons.injEq, true_and] at h1
  exact ByteArray.ext (Array.toList_inj.1 h1)

/-! proofs: the list's last element comes first -/
theorem valR_size {s : ByteArray} : ∀ {r : List ByteArray} {n i : Nat} {v : ByteArray}, valR s r n i = some v → v.size = 32 := by
  intro r
  cases r with
  | nil =>
    intro n i v h
    rw [valR] at h
    split at h
    · cases h; exact leafD_size _
    · cases h
  | cons x r =>
    intro n i v h
    rw [valR] at h
    split at h
    · cases h
    split at h
    · obtain ⟨u, _, rfl⟩ := Option.map_eq_some_iff.1 h; exact nodeD_size _ _
    · obtain ⟨u, _, rfl⟩ := Option.map_eq_some_iff.1 h; exact nodeD_size _ _
theorem valR_len {s t : ByteArray} : ∀ {r q : List ByteArray} {n i : Nat} {v u : ByteArray}, valR s r n i = some v → valR t q n i = some u → r.length = q.length := by
  intro r
  induction r with
  | nil =>
    intro q n i v u h k
    rw [valR] at h
    split at h
    · rename_i hn
      cases q with
      | nil => rfl
      | cons y q => rw [valR, if_pos hn] at k; cases k
    · cases h
  | cons x r ih =>
    intro q n i v u h k
    rw [valR] at h
    split at h
    · cases h
    rename_i hn
    cases q with
    | nil => rw [valR, if_neg hn] at k; cases k
    | cons y q =>
      rw [valR, if_neg hn] at k
      split at h
      · rename_i hi
        rw [if_pos hi] at k
        obtain ⟨v', hv, _⟩ := Option.map_eq_some_iff.1 h
        obtain ⟨u', hu, _⟩ := Option.map_eq_some_iff.1 k
        rw [List.length_cons, List.length_cons, ih hv hu]
      · rename_i hi
        rw [if_neg hi] at k
        obtain ⟨v', hv, _⟩ := Option.map_eq_some_iff.1 h
        obtain ⟨u', hu, _⟩ := Option.map_eq_some_iff.1 k
        rw [List.length_cons, List.length_cons, ih hv hu]
/-- the proof of an entry is accepted -/
theorem proof_val : ∀ (f : Nat) (l : List ByteArray) (i : Nat) (s : ByteArray), l.length ≤ f → l[i]? = some s → valR s (proofD l i).reverse l.length i = some (rootD l) := by
  intro f
  induction f with
  | zero => intro l i s h hs; have : l = [] := List.eq_nil_of_length_eq_zero (by omega); subst this; cases hs
  | succ f ih =>
    intro l i s h hs
    have hi : i < l.length := (List.getElem?_eq_some_iff.1 hs).1
    by_cases h1 : l.length = 1
    · obtain ⟨x, rfl⟩ := List.length_eq_one_iff.1 h1
      have : i = 0 := by simp at hi; omega
      subst this
      simp at hs; subst hs
      rw [proofD_one _ _ (by simp), List.reverse_nil, valR, if_pos (by simp), rootD_one]
    · have hl := lp_spec l.length (by omega)
      have hp := lp_pos l.length
      rw [proofD_split l i (by omega), rootD_split l (by omega)]
      by_cases hlt : i < lp l.length
      · rw [if_pos hlt, List.reverse_append, List.reverse_cons, List.reverse_nil, List.nil_append, List.cons_append, List.nil_append, valR, if_neg h1, if_pos hlt]
        have ht : (l.take (lp l.length)).length = lp l.length := by rw [List.length_take]; omega
        have := ih (l.take (lp l.length)) i s (by omega) (by rw [List.getElem?_take, if_pos hlt]; exact hs)
        rw [ht] at this
        rw [this]; rfl
      · rw [if_neg hlt, List.reverse_append, List.reverse_cons, List.reverse_nil, List.nil_append, List.cons_append, List.nil_append, valR, if_neg h1, if_neg hlt]
        have ht : (l.drop (lp l.length)).length = l.length - lp l.length := List.length_drop
        have := ih (l.drop (lp l.length)) (i - lp l.length) s (by omega) (by rw [List.getElem?_drop]; rw [show lp l.length + (i - lp l.length) = i by omega]; exact hs)
        rw [ht] at this
        rw [this]; rfl
theorem proof_all : ∀ (f : Nat) (l : List ByteArray) (i : Nat), l.length ≤ f → ∀ x ∈ proofD l i, x.size = 32 := by
  intro f
  induction f with
  | zero => intro l i h x hx; rw [proofD_one _ _ (by omega)] at hx; cases hx
  | succ f ih =>
    intro l i h x hx
    by_cases h1 : l.length ≤ 1
    · rw [proofD_one _ _ h1] at hx; cases hx
    · have hl := lp_spec l.length (by omega)
      have hp := lp_pos l.length
      rw [proofD_split l i (by omega)] at hx
      split at hx
      · rcases List.mem_append.1 hx with hx | hx
        · exact ih _ _ (by rw [List.length_take]; omega) x hx
        · simp at hx; subst hx; exact rootD_size _
      · rcases List.mem_append.1 hx with hx | hx
        · exact ih _ _ (by rw [List.length_drop]; omega) x hx
        · simp at hx; subst hx; exact rootD_size _
/-- binary digits -/
def digits (n : Nat) : Nat := if n = 0 then 0 else Nat.log2 n + 1
theorem proof_short : ∀ (k : Nat) (l : List ByteArray) (i : Nat), l.length ≤ 2 ^ k → (proofD l i).length ≤ k := by
  intro k
  induction k with
  | zero => intro l i h; rw [proofD_one _ _ (by simpa using h)]; simp
  | succ k ih =>
    intro l i h
    by_cases h1 : l.length ≤ 1
    · rw [proofD_one _ _ h1]; simp
    · have hl := lp_spec l.length (by omega)
      have hp := lp_pos l.length
      have hle : lp l.length ≤ 2 ^ k := by
        unfold lp
        refine Nat.pow_le_pow_right (by decide) ?_
        have : Nat.log2 (l.length - 1) < k + 1 := (Nat.log2_lt (by omega)).2 (by omega)
        omega
      rw [proofD_split l i (by omega)]
      rw [Nat.pow_succ] at h
      split
      · rw [List.length_append, List.length_singleton]
        have := ih (l.take (lp l.length)) i (by rw [List.length_take]; omega)
        omega
      · rw [List.length_append, List.length_singleton]
        have := ih (l.drop (lp l.length)) (i - lp l.length) (by rw [List.length_drop]; omega)
        omega

/-- the strings of which the sum is computed for a proof, from the root on, and the value -/
def wayR (s : ByteArray) : List ByteArray → Nat → Nat → List ByteArray × ByteArray
  | [], _, _ => ([cat 0 [s]], leafD s)
  | x :: r, n, i => if n ≤ 1 then ([cat 0 [s]], leafD s) else if i < lp n then (cat 1 [(wayR s r (lp n) i).2, x] :: (wayR s r (lp n) i).1, nodeD (wayR s r (lp n) i).2 x)
      else (cat 1 [x, (wayR s r (n - lp n) (i - lp n)).2] :: (wayR s r (n - lp n) (i - lp n)).1, nodeD x (wayR s r (n - lp n) (i - lp n)).2)
theorem wayR_low (s x : ByteArray) (r : List ByteArray) {n i : Nat} (hn : 1 < n) (hi : i < lp n) : wayR s (x :: r) n i = (cat 1 [(wayR s r (lp n) i).2, x] :: (wayR s r (lp n) i).1, nodeD (wayR s r (lp n) i).2 x) := by
  rw [wayR, if_neg (by omega), if_pos hi]
theorem wayR_high (s x : ByteArray) (r : List ByteArray) {n i : Nat} (hn : 1 < n) (hi : ¬ i < lp n) : wayR s (x :: r) n i = (cat 1 [x, (wayR s r (n - lp n) (i - lp n)).2] :: (wayR s r (n - lp n) (i - lp n)).1, nodeD x (wayR s r (n - lp n) (i - lp n)).2) := by
  rw [wayR, if_neg (by omega), if_neg hi]
theorem wayR_val {s : ByteArray} : ∀ {r : List ByteArray} {n i : Nat} {v : ByteArray}, i < n → valR s r n i = some v → (wayR s r n i).2 = v := by
  intro r
  induction r with
  | nil =>
    intro n i v _ h
    rw [valR] at h
    split at h
    · cases h; rfl
    · cases h
  | cons x r ih =>
    intro n i v hin h
    rw [valR] at h
    split at h
    · cases h
    rename_i hn
    have hl := lp_spec n (by omega)
    rw [wayR, if_neg (by omega)]
    split at h
    · rename_i hi
      obtain ⟨u, hu, rfl⟩ := Option.map_eq_some_iff.1 h
      rw [if_pos hi, ih hi hu]
    · rename_i hi
      obtain ⟨u, hu, rfl⟩ := Option.map_eq_some_iff.1 h
      rw [if_neg hi, ih (by omega) hu]
/-- two different strings with the same place in two lists have the same sum -/
def collD : List ByteArray → List ByteArray → Bool
  | a :: l, b :: m => (decide (a ≠ b) && decide (sha a = sha b)) || collD l m
  | _, _ => false
theorem collD_head {a b : ByteArray} {l m : List ByteArray} (h : a ≠ b) (e : sha a = sha b) : collD (a :: l) (b :: m) = true := by
  rw [collD, Bool.or_eq_true]
  exact .inl (by rw [Bool.and_eq_true]; exact ⟨decide_eq_true h, decide_eq_true e⟩)
theorem collD_tail {a b : ByteArray} {l m : List ByteArray} (h : collD l m = true) : collD (a :: l) (b :: m) = true := by
  rw [collD, Bool.or_eq_true]; exact .inr h
theorem node_part {a b c d : ByteArray} (e : nodeD a b = nodeD c d) (hs : a.size = c.size) {l m : List ByteArray} (k : a = c → b = d → collD l m = true) : collD (cat 1 [a, b] :: l) (cat 1 [c, d] :: m) = true := by
  by_cases h : cat 1 [a, b] = cat 1 [c, d]
  · obtain ⟨h1, h2⟩ := cat2_inj h hs
    exact collD_tail (k h1 h2)
  · exact collD_head h e
theorem binding {s t : ByteArray} (hst : s ≠ t) : ∀ {r q : List ByteArray} {n i : Nat} {v : ByteArray}, i < n → (∀ x ∈ r, x.size = 32) → (∀ x ∈ q, x.size = 32) → valR s r n i = some v → valR t q n i = some v →
    collD (wayR s r n i).1 (wayR t q n i).1 = true := by
  intro r
  induction r with
  | nil =>
    intro q n i v hin _ _ h k
    have hq := valR_len h k
    have : q = [] := List.eq_nil_of_length_eq_zero (by simpa using hq.symm)
    subst this
    rw [valR] at h k
    split at h
    · rename_i hn
      rw [if_pos hn] at k
      cases h
      injection k with k
      exact collD_head (fun e => hst (cat1_inj e)) k.symm
    · cases h
  | cons x r ih =>
    intro q n i v hin hr hq h k
    cases q with
    | nil => have := valR_len h k; simp at this
    | cons y q =>
      rw [valR] at h k
      split at h
      · cases h
      rename_i hn
      rw [if_neg hn] at k
      have hl := lp_spec n (by omega)
      have hx := hr x (List.mem_cons_self ..)
      have hy := hq y (List.mem_cons_self ..)
      have hr' := fun z hz => hr z (List.mem_cons_of_mem x hz)
      have hq' := fun z hz => hq z (List.mem_cons_of_mem y hz)
      split at h
      · rename_i hi
        rw [if_pos hi] at k
        obtain ⟨u, hu, rfl⟩ := Option.map_eq_some_iff.1 h
        obtain ⟨u', hu', e⟩ := Option.map_eq_some_iff.1 k
        rw [wayR_low s x r (by omega) hi, wayR_low t y q (by omega) hi, wayR_val hi hu, wayR_val hi hu']
        refine node_part e.symm (by rw [valR_size hu, valR_size hu']) (fun h1 _ => ?_)
        subst h1
        exact ih hi hr' hq' hu hu'
      · rename_i hi
        rw [if_neg hi] at k
        obtain ⟨u, hu, rfl⟩ := Option.map_eq_some_iff.1 h
        obtain ⟨u', hu', e⟩ := Option.map_eq_some_iff.1 k
        rw [wayR_high s x r (by omega) hi, wayR_high t y q (by omega) hi, wayR_val (by omega) hu, wayR_val (by omega) hu']
        refine node_part e.symm (by rw [hx, hy]) (fun _ h1 => ?_)
        subst h1
        exact ih (by omega) hr' hq' hu hu'

/-! extensions -/
def extF : Nat → List ByteArray → Nat → Bool → List ByteArray
  | 0, _, _, _ => []
  | f + 1, l, m, w => if l.length ≤ m then (if w then [] else [rootD l]) else if m ≤ lp l.length then extF f (l.take (lp l.length)) m w ++ [rootD (l.drop (lp l.length))]
      else extF f (l.drop (lp l.length)) (m - lp l.length) false ++ [rootD (l.take (lp l.length))]
/-- the extension of the first m entries, m from 1 on -/
def extD (l : List ByteArray) (m : Nat) (w : Bool) : List ByteArray := extF (l.length + 1) l m w
theorem extF_fuel : ∀ (f g : Nat) (l : List ByteArray) (m : Nat) (w : Bool), 0 < m → l.length < f → l.length < g → extF f l m w = extF g l m w := by
  intro f
  induction f with
  | zero => intro g l m w _ h; omega
  | succ f ih =>
    intro g l m w hm hf hg
    cases g with
    | zero => omega
    | succ g =>
      rw [extF, extF]
      by_cases h1 : l.length ≤ m
      · rw [if_pos h1, if_pos h1]
      · rw [if_neg h1, if_neg h1]
        have hs := lp_spec l.length (by omega)
        have hp := lp_pos l.length
        by_cases h2 : m ≤ lp l.length
        · rw [if_pos h2, if_pos h2, ih g (l.take (lp l.length)) m w hm (by rw [List.length_take]; omega) (by rw [List.length_take]; omega)]
        · rw [if_neg h2, if_neg h2, ih g (l.drop (lp l.length)) _ false (by omega) (by rw [List.length_drop]; omega) (by rw [List.length_drop]; omega)]
theorem extD_end (l : List ByteArray) (m : Nat) (w : Bool) (h : l.length ≤ m) : extD l m w = if w then [] else [rootD l] := by
  unfold extD; rw [extF, if_pos h]
theorem extD_low (l : List ByteArray) (m : Nat) (w : Bool) (hm : 0 < m) (h : m < l.length) (h2 : m ≤ lp l.length) : extD l m w = extD (l.take (lp l.length)) m w ++ [rootD (l.drop (lp l.length))] := by
  have hs := lp_spec l.length (by omega)
  conv => lhs; unfold extD
  rw [extF, if_neg (by omega), if_pos h2]
  rw [extD, extF_fuel l.length ((l.take (lp l.length)).length + 1) _ _ _ hm (by rw [List.length_take]; omega) (by omega)]
theorem extD_high (l : List ByteArray) (m : Nat) (w : Bool) (h : m < l.length) (h2 : lp l.length < m) : extD l m w = extD (l.drop (lp l.length)) (m - lp l.length) false ++ [rootD (l.take (lp l.length))] := by
  have hs := lp_spec l.length (by omega)
  have hp := lp_pos l.length
  conv => lhs; unfold extD
  rw [extF, if_neg (by omega), if_neg (by omega)]
  rw [extD, extF_fuel l.length ((l.drop (lp l.length)).length + 1) _ _ _ (by omega) (by rw [List.length_drop]; omega) (by omega)]
theorem ext_all : ∀ (f : Nat) (l : List ByteArray) (m : Nat) (w : Bool), l.length ≤ f → 0 < m → ∀ x ∈ extD l m w, x.size = 32 := by
  intro f
  induction f with
  | zero =>
    intro l m w h hm x hx
    rw [extD_end _ _ _ (by omega)] at hx
    split at hx
    · cases hx
    · simp at hx; subst hx; exact rootD_size _
  | succ f ih =>
    intro l m w h hm x hx
    by_cases h1 : l.length ≤ m
    · rw [extD_end _ _ _ h1] at hx
      split at hx
      · cases hx
      · simp at hx; subst hx; exact rootD_size _
    · have hs := lp_spec l.length (by omega)
      have hp := lp_pos l.length
      by_cases h2 : m ≤ lp l.length
      · rw [extD_low _ _ _ hm (by omega) h2] at hx
        rcases List.mem_append.1 hx with hx | hx
        · exact ih _ _ _ (by rw [List.length_take]; omega) hm x hx
        · simp at hx; subst hx; exact rootD_size _
      · rw [extD_high _ _ _ (by omega) (by omega)] at hx
        rcases List.mem_append.1 hx with hx | hx
        · exact ih _ _ _ (by rw [List.length_drop]; omega) (by omega) x hx
        · simp at hx; subst hx; exact rootD_size _
theorem ext_short : ∀ (k : Nat) (l : List ByteArray) (m : Nat) (w : Bool), 0 < m → l.length ≤ 2 ^ k → (extD l m w).length ≤ k + 1 := by
  intro k
  induction k with
  | zero =>
    intro l m w hm h
    rw [extD_end _ _ _ (by simp at h; omega)]
    split <;> simp
  | succ k ih =>
    intro l m w hm h
    by_cases h1 : l.length ≤ m
    · rw [extD_end _ _ _ h1]; split <;> simp
    · have hl := lp_spec l.length (by omega)
      have hp := lp_pos l.length
      have hle : lp l.length ≤ 2 ^ k := by
        unfold lp
        refine Nat.pow_le_pow_right (by decide) ?_
        have : Nat.log2 (l.length - 1) < k + 1 := (Nat.log2_lt (by omega)).2 (by omega)
        omega
      rw [Nat.pow_succ] at h
      by_cases h2 : m ≤ lp l.length
      · rw [extD_low _ _ _ hm (by omega) h2, List.length_append, List.length_singleton]
        have := ih (l.take (lp l.length)) m w hm (by rw [List.length_take]; omega)
        omega
      · rw [extD_high _ _ _ (by omega) (by omega), List.length_append, List.length_singleton]
        have := ih (l.drop (lp l.length)) (m - lp l.length) false (by omega) (by rw [List.length_drop]; omega)
        omega

/-- the two values of an extension, its last element first -/
def bothR (old : ByteArray) : List ByteArray → Nat → Nat → Bool → Option (ByteArray × ByteArray)
  | [], m, n, w => if m < n then none else if w then some (old, old) else none
  | x :: r, m, n, w => if m < n then (if m ≤ lp n then (bothR old r m (lp n) w).map (fun p => (p.1, nodeD p.2 x)) else (bothR old r (m - lp n) (n - lp n) false).map (fun p => (nodeD x p.1, nodeD x p.2)))
      else if w then none else if r = [] then some (x, x) else none
/-- the extension is accepted -/
theorem ext_val : ∀ (f : Nat) (l : List ByteArray) (m : Nat) (w : Bool) (old : ByteArray), l.length ≤ f → 0 < m → m ≤ l.length → (w = true → old = rootD (l.take m)) →
    bothR old (extD l m w).reverse m l.length w = some (rootD (l.take m), rootD l) := by
  intro f
  induction f with
  | zero => intro l m w old h h1 h2; omega
  | succ f ih =>
    intro l m w old h hm hle hw
    by_cases he : l.length ≤ m
    · rw [extD_end _ _ _ he]
      have ht : l.take m = l := List.take_of_length_le he
      cases w with
      | true =>
        rw [if_pos rfl, List.reverse_nil, bothR, if_neg (by omega), if_pos rfl, hw rfl, ht]
      | false =>
        rw [if_neg (by decide), List.reverse_singleton, bothR, if_neg (by omega), if_neg (by decide), if_pos rfl, ht]
    · have hl := lp_spec l.length (by omega)
      have hp := lp_pos l.length
      by_cases h2 : m ≤ lp l.length
      · rw [extD_low _ _ _ hm (by omega) h2, List.reverse_append, List.reverse_singleton, List.singleton_append, bothR, if_pos (by omega), if_pos h2]
        have ht : (l.take (lp l.length)).length = lp l.length := by rw [List.length_take]; omega
        have htt : (l.take (lp l.length)).take m = l.take m := by rw [List.take_take, Nat.min_eq_left h2]
        have := ih (l.take (lp l.length)) m w old (by omega) hm (by omega) (by rw [htt]; exact hw)
        rw [ht, htt] at this
        rw [this, Option.map_some, rootD_split l (by omega)]
      · rw [extD_high _ _ _ (by omega) (by omega), List.reverse_append, List.reverse_singleton, List.singleton_append, bothR, if_pos (by omega), if_neg h2]
        have ht : (l.drop (lp l.length)).length = l.length - lp l.length := List.length_drop
        have := ih (l.drop (lp l.length)) (m - lp l.length) false old (by omega) (by omega) (by omega) (fun e => by cases e)
        rw [ht] at this
        rw [this, Option.map_some]
        obtain ⟨j, hj⟩ : ∃ j, lp l.length = 2 ^ j := ⟨_, rfl⟩
        have hlm : lp (l.take m).length = lp l.length := by
          rw [hj]
          refine (lp_unique _ j ?_ ?_).symm
          · rw [List.length_take]; omega
          · rw [List.length_take]; omega
        have hm2 : rootD (l.take m) = nodeD (rootD (l.take (lp l.length))) (rootD ((l.drop (lp l.length)).take (m - lp l.length))) := by
          rw [rootD_split (l.take m) (by rw [List.length_take]; omega), hlm, List.take_take, Nat.min_eq_left (by omega), List.drop_take]
        rw [hm2, ← rootD_split l (by omega)]
theorem both_size {old : ByteArray} (ho : old.size = 32) : ∀ {r : List ByteArray} {m n : Nat} {w : Bool} {a b : ByteArray}, (∀ x ∈ r, x.size = 32) → bothR old r m n w = some (a, b) → a.size = 32 ∧ b.size = 32 := by
  intro r
  induction r with
  | nil =>
    intro m n w a b _ h
    rw [bothR] at h
    split at h
    · cases h
    split at h
    · cases h; exact ⟨ho, ho⟩
    · cases h
  | cons x r ih =>
    intro m n w a b hr h
    rw [bothR] at h
    have hr' := fun z hz => hr z (List.mem_cons_of_mem x hz)
    split at h
    · split at h
      · obtain ⟨⟨a', b'⟩, hu, e⟩ := Option.map_eq_some_iff.1 h
        cases e
        exact ⟨(ih hr' hu).1, nodeD_size _ _⟩
      · obtain ⟨⟨a', b'⟩, hu, e⟩ := Option.map_eq_some_iff.1 h
        cases e
        exact ⟨nodeD_size _ _, nodeD_size _ _⟩
    · split at h
      · cases h
      split at h
      · cases h; exact ⟨hr x (List.mem_cons_self ..), hr x (List.mem_cons_self ..)⟩
      · cases h
theorem both_len {s t : ByteArray} : ∀ {r q : List ByteArray} {m n : Nat} {w : Bool} {v u : ByteArray × ByteArray}, bothR s r m n w = some v → bothR t q m n w = some u → r.length = q.length := by
  intro r
  induction r with
  | nil =>
    intro q m n w v u h k
    rw [bothR] at h
    split at h
    · cases h
    rename_i hn
    split at h
    · rename_i hw
      cases q with
      | nil => rfl
      | cons y q => rw [bothR, if_neg hn, if_pos hw] at k; cases k
    · cases h
  | cons x r ih =>
    intro q m n w v u h k
    rw [bothR] at h
    cases q with
    | nil =>
      rw [bothR] at k
      split at k
      · cases k
      rename_i hn
      split at k
      · rename_i hw
        rw [if_neg hn, if_pos hw] at h; cases h
      · cases k
    | cons y q =>
      rw [bothR] at k
      split at h
      · rename_i hn
        rw [if_pos hn] at k
        split at h
        · rename_i hi
          rw [if_pos hi] at k
          obtain ⟨v', hv, _⟩ := Option.map_eq_some_iff.1 h
          obtain ⟨u', hu, _⟩ := Option.map_eq_some_iff.1 k
          rw [List.length_cons, List.length_cons, ih hv hu]
        · rename_i hi
          rw [if_neg hi] at k
          obtain ⟨v', hv, _⟩ := Option.map_eq_some_iff.1 h
          obtain ⟨u', hu, _⟩ := Option.map_eq_some_iff.1 k
          rw [List.length_cons, List.length_cons, ih hv hu]
      · rename_i hn
        rw [if_neg hn] at k
        split at h
        · cases h
        rename_i hw
        rw [if_neg hw] at k
        split at h
        · rename_i hr
          split at k
          · rename_i hq
            rw [hr, hq]; rfl
          · cases k
        · cases h
/-- the strings of which the sum is computed for the new root of an extension, from the root on, and the value -/
def sidesR (old : ByteArray) : List ByteArray → Nat → Nat → Bool → List ByteArray × ByteArray
  | [], _, _, _ => ([], old)
  | x :: r, m, n, w => if n ≤ m then ([], if w then old else (x :: r).getLast (by simp)) else if m ≤ lp n then (cat 1 [(sidesR old r m (lp n) w).2, x] :: (sidesR old r m (lp n) w).1, nodeD (sidesR old r m (lp n) w).2 x)
      else (cat 1 [x, (sidesR old r (m - lp n) (n - lp n) false).2] :: (sidesR old r (m - lp n) (n - lp n) false).1, nodeD x (sidesR old r (m - lp n) (n - lp n) false).2)
theorem sides_low (old x : ByteArray) (r : List ByteArray) {m n : Nat} (w : Bool) (hn : m < n) (hi : m ≤ lp n) : sidesR old (x :: r) m n w = (cat 1 [(sidesR old r m (lp n) w).2, x] :: (sidesR old r m (lp n) w).1, nodeD (sidesR old r m (lp n) w).2 x) := by
  rw [sidesR, if_neg (by omega), if_pos hi]
theorem sides_high (old x : ByteArray) (r : List ByteArray) {m n : Nat} (w : Bool) (hn : m < n) (hi : ¬ m ≤ lp n) : sidesR old (x :: r) m n w = (cat 1 [x, (sidesR old r (m - lp n) (n - lp n) false).2] :: (sidesR old r (m - lp n) (n - lp n) false).1, nodeD x (sidesR old r (m - lp n) (n - lp n) false).2) := by
  rw [sidesR, if_neg (by omega), if_neg hi]
theorem sides_val {old : ByteArray} : ∀ {r : List ByteArray} {m n : Nat} {w : Bool} {a b : ByteArray}, bothR old r m n w = some (a, b) → (sidesR old r m n w).2 = b := by
  intro r
  induction r with
  | nil =>
    intro m n w a b h
    rw [bothR] at h
    split at h
    · cases h
    split at h
    · cases h; rfl
    · cases h
  | cons x r ih =>
    intro m n w a b h
    rw [bothR] at h
    split at h
    · rename_i hn
      rw [sidesR, if_neg (by omega)]
      split at h
      · rename_i hi
        obtain ⟨⟨a', b'⟩, hu, e⟩ := Option.map_eq_some_iff.1 h
        cases e
        rw [if_pos hi, ih hu]
      · rename_i hi
        obtain ⟨⟨a', b'⟩, hu, e⟩ := Option.map_eq_some_iff.1 h
        cases e
        rw [if_neg hi, ih hu]
    · rename_i hn
      rw [sidesR, if_pos (by omega)]
      split at h
      · cases h
      rename_i hw
      split at h
      · rename_i hr
        subst hr
        cases h
        rw [if_neg hw]; rfl
      · cases h
theorem ext_binding {a b : ByteArray} (ha : a.size = 32) (hb : b.size = 32) : ∀ {r q : List ByteArray} {m n : Nat} {w : Bool} {f g v : ByteArray}, (∀ x ∈ r, x.size = 32) → (∀ x ∈ q, x.size = 32) →
    bothR a r m n w = some (f, v) → bothR b q m n w = some (g, v) → f ≠ g → collD (sidesR a r m n w).1 (sidesR b q m n w).1 = true := by
  intro r
  induction r with
  | nil =>
    intro q m n w f g v _ _ h k hfg
    have hq := both_len h k
    have : q = [] := List.eq_nil_of_length_eq_zero (by simpa using hq.symm)
    subst this
    rw [bothR] at h k
    split at h
    · cases h
    rename_i hn
    rw [if_neg hn] at k
    split at h
    · rename_i hw
      rw [if_pos hw] at k
      cases h
      cases k
      exact (hfg rfl).elim
    · cases h
  | cons x r ih =>
    intro q m n w f g v hr hq h k hfg
    cases q with
    | nil => have := both_len h k; simp at this
    | cons y q =>
      rw [bothR] at h k
      have hx := hr x (List.mem_cons_self ..)
      have hy := hq y (List.mem_cons_self ..)
      have hr' := fun z hz => hr z (List.mem_cons_of_mem x hz)
      have hq' := fun z hz => hq z (List.mem_cons_of_mem y hz)
      split at h
      · rename_i hn
        rw [if_pos hn] at k
        split at h
        · rename_i hi
          rw [if_pos hi] at k
          obtain ⟨⟨f', v1⟩, hu, e⟩ := Option.map_eq_some_iff.1 h
          obtain ⟨⟨g', v2⟩, hu', e'⟩ := Option.map_eq_some_iff.1 k
          cases e
          simp only [Prod.mk.injEq] at e'
          obtain ⟨rfl, e'⟩ := e'
          rw [sides_low a x r w (by omega) hi, sides_low b y q w (by omega) hi, sides_val hu, sides_val hu']
          refine node_part e'.symm (by rw [(both_size ha hr' hu).2, (both_size hb hq' hu').2]) (fun h1 _ => ?_)
          subst h1
          exact ih hr' hq' hu hu' hfg
        · rename_i hi
          rw [if_neg hi] at k
          obtain ⟨⟨f', v1⟩, hu, e⟩ := Option.map_eq_some_iff.1 h
          obtain ⟨⟨g', v2⟩, hu', e'⟩ := Option.map_eq_some_iff.1 k
          cases e
          simp only [Prod.mk.injEq] at e'
          obtain ⟨rfl, e'⟩ := e'
          rw [sides_high a x r w (by omega) hi, sides_high b y q w (by omega) hi, sides_val hu, sides_val hu']
          refine node_part e'.symm (by rw [hx, hy]) (fun h0 h1 => ?_)
          subst h0 h1
          exact ih hr' hq' hu hu' (fun e => hfg (by rw [e]))
      · rename_i hn
        rw [if_neg hn] at k
        split at h
        · cases h
        rename_i hw
        rw [if_neg hw] at k
        split at h
        · split at k
          · cases h
            cases k
            exact (hfg rfl).elim
          · cases k
        · cases h
end
section
open Go.RowKit Go.Shelf
attribute [local go_sem] gAt gUpon
attribute [local simp] Gr.refl Gr.alloc

/-- strings as cells -/
def sC (l : List ByteArray) : List Value := l.map Value.string
/-- lengths as cells -/
def nC (l : List Nat) : List Value := l.map fun n : Nat => Value.int .i64 (n : Int)
/-- v is a slice of strings that holds l -/
def StrsAt (v : Value) (l : List ByteArray) (w : World) : Prop :=
  (v = .slice none 0 0 ∧ l = []) ∨ ∃ g off cap, v = .slice (some ⟨g, off, none⟩) l.length cap ∧ l.length ≤ cap ∧ cap ≤ maxLen ∧
    ∀ (j : Nat) x, l[j]? = some x → w.cell? ⟨g, off + j, none⟩ = some (.string x)
theorem StrsAt.shape {v : Value} {l : List ByteArray} {w : World} (h : StrsAt v l w) : ∃ p cap, v = .slice p l.length cap := by
  rcases h with ⟨rfl, rfl⟩ | ⟨g, off, cap, rfl, _⟩
  · exact ⟨none, 0, rfl⟩
  · exact ⟨_, cap, rfl⟩
theorem StrsAt.gr {v : Value} {l : List ByteArray} {w x : World} (h : StrsAt v l w) (hg : Gr w x) : StrsAt v l x := by
  rcases h with h | ⟨g, off, cap, rfl, h1, h2, h4⟩
  · exact .inl h
  · exact .inr ⟨g, off, cap, rfl, h1, h2, fun j x hj => hg.cell (h4 j x hj)⟩
theorem info9 : (Tryz.prog.info? 9).map (fun i => (i.zero, i.size, i.bytes)) = some (some (.string ⟨#[]⟩), 1, 16) := by kernel_rfl
theorem info3 : (Tryz.prog.info? 3).map (fun i => (i.zero, i.size, i.bytes)) = some (some (.int .i64 0), 1, 8) := by kernel_rfl
theorem Own.slice {B s : Nat} {v : Value} {n : Nat} {xs : List Value} {w : World} (h : Own B s v n xs w) : ∃ p c, v = .slice p n c := by
  rcases h.2 with ⟨h1, h0⟩ | ⟨g, off, cap, h1, _⟩
  · exact ⟨none, 0, by rw [h1, h0]⟩
  · exact ⟨_, _, h1⟩
theorem Own.lt {B s : Nat} {v : Value} {n : Nat} {xs : List Value} {w : World} (h : Own B s v n xs w) (hn : 0 < n * s) {g : Nat} (hg : v.ownBlock = some g) : g < w.heap.size := by
  rcases h.2 with ⟨rfl, _⟩ | ⟨g', off, cap, rfl, hB, hc, hm, _, hw⟩
  · simp [Value.ownBlock] at hg
  · simp [Value.ownBlock] at hg; subst hg
    have := Nat.mul_le_mul_right s hc
    exact isSome_lt (hw 0 (by omega)).1
theorem Own.ge {B s : Nat} {v : Value} {n : Nat} {xs : List Value} {w : World} (h : Own B s v n xs w) {g : Nat} (hg : v.ownBlock = some g) : B ≤ g := by
  rcases h.2 with ⟨rfl, _⟩ | ⟨g', off, cap, rfl, hB, _⟩
  · simp [Value.ownBlock] at hg
  · simp [Value.ownBlock] at hg; subst hg; exact hB
theorem gr_step {b : Option Nat} {w wr w1 w2 : World} (hG : Gr w wr) (hg : Gr wr w1) (hc : Chg b w1 w2) (hb : ∀ g, b = some g → w.heap.size ≤ g) : Gr w w2 :=
  Below.trans (hG.trans hg) (hc.below hb (hG.trans hg).size)
theorem Own.take {B s : Nat} {g off n cap : Nat} {xs : List Value} {w : World} (h : Own B s (.slice (some ⟨g, off, none⟩) n cap) n xs w) (k : Nat) (hk : k ≤ n) : Own B s (.slice (some ⟨g, off, none⟩) k cap) k (xs.take (k * s)) w := by
  have hl := h.1
  rcases h.2 with ⟨h, _⟩ | ⟨g', off', cap', he, hB, hc, hm, hx, hw⟩
  · simp at h
  · simp at he
    obtain ⟨⟨rfl, rfl⟩, rfl⟩ := he
    have := Nat.mul_le_mul_right s hk
    refine ⟨by rw [List.length_take]; omega, .inr ⟨g, off, cap, rfl, hB, by omega, hm, ?_, hw⟩⟩
    intro j u hj
    rw [List.getElem?_take] at hj
    split at hj
    · exact hx j u hj
    · cases hj
theorem one_row {w : World} {b : Nat} {v : Value} {T : TypeId} (h : w.heap[b]? = some (.cells [v].toArray T (0, 0))) : ∀ (j : Nat) (u : Value), [v][j]? = some u → w.cell? ((⟨b, 0, none⟩ : Addr).add j) = some u := by
  intro j u hj
  match j, hj with
  | 0, hj =>
    simp at hj; subst hj
    exact cell_of_row _ _ _ _ _ _ h
/-- two slices that lie in different blocks -/
def Dis (v u : Value) (w : World) : Prop :=
  (∀ g, v.ownBlock = some g → g < w.heap.size) ∧ (∀ g, u.ownBlock = some g → g < w.heap.size) ∧ ∀ g, v.ownBlock = some g → u.ownBlock ≠ some g
theorem Dis.symm {v u : Value} {w : World} (h : Dis v u w) : Dis u v w := ⟨h.2.1, h.1, fun g hg hv => h.2.2 g hv hg⟩
theorem Dis.nil (v : Value) (w : World) (hv : v.ownBlock = none) : Dis v v w := ⟨by simp [hv], by simp [hv], by simp [hv]⟩
theorem Dis.keep {v u : Value} {w : World} (h : Dis v u w) : u.ownBlock = none ∨ u.ownBlock ≠ v.ownBlock := by
  cases hu : u.ownBlock with
  | none => exact .inl rfl
  | some g => exact .inr (fun e => h.2.2 g e.symm hu)
theorem Dis.grown {v u v' : Value} {w w1 w2 : World} (h : Dis v u w) (hg : Gr w w1) (hc : Chg v.ownBlock w1 w2) (hb : ∀ g, v'.ownBlock = some g → v.ownBlock = some g ∨ w1.heap.size ≤ g)
    {B s n : Nat} {xs : List Value} (ho : Own B s v' n xs w2) (hn : 0 < n * s) : Dis v' u w2 := by
  refine ⟨fun g hg' => ho.lt hn hg', fun g hu => ?_, fun g hv' hu => ?_⟩
  · have := h.2.1 g hu; have := hg.size; have := hc.size; omega
  · rcases hb g hv' with h1 | h1
    · exact h.2.2 g h1 hu
    · have := h.2.1 g hu; have := hg.size; omega
end
end Go.Proofs.YtjnnhhengpinmaaGreatDoor
