/- Heads of chains as plain functions; what two lists with the same head have in common. No program in sight. -/
import Derived.Test.YtbkhkpcnclhoiaaDoorColl
namespace Go.Proofs.YtbkhkpcnclhoiaaDoor

def zero32 : ByteArray := ⟨(List.replicate 32 (0 : UInt8)).toArray⟩
theorem zero32_size : zero32.size = 32 := by decide
/-- one record more: the strings of which the sum is computed, the last one first, and the head -/
def headS (st : List ByteArray × ByteArray) (x : ByteArray) : List ByteArray × ByteArray := (cat 2 [st.2, x] :: st.1, chainD st.2 x)
def headD (l : List ByteArray) : List ByteArray × ByteArray := l.foldl headS ([], zero32)
theorem headD_nil : headD [] = ([], zero32) := rfl
theorem headD_snoc (l : List ByteArray) (x : ByteArray) : headD (l ++ [x]) = (cat 2 [(headD l).2, x] :: (headD l).1, chainD (headD l).2 x) := by
  unfold headD; rw [List.foldl_append]; rfl
theorem headD_size (l : List ByteArray) : (headD l).2.size = 32 := by
  rcases List.eq_nil_or_concat l with rfl | ⟨q, x, rfl⟩
  · exact zero32_size
  · rw [List.concat_eq_append, headD_snoc]; exact chainD_size _ _
theorem headD_len : ∀ (n : Nat) (l : List ByteArray), l.length = n → (headD l).1.length = n := by
  intro n
  induction n with
  | zero => intro l h; have : l = [] := List.eq_nil_of_length_eq_zero h; subst this; rfl
  | succ n ih =>
    intro l h
    rcases List.eq_nil_or_concat l with rfl | ⟨q, x, rfl⟩
    · simp at h
    · rw [List.concat_eq_append] at h ⊢
      rw [headD_snoc, List.length_cons, ih q (by simpa using h)]
/-- the longer one of two lists, the first one if they are equally long -/
def longer (x y : List ByteArray) : List ByteArray := if x.length < y.length then y else x
theorem longer_cons (a b : ByteArray) (x y : List ByteArray) (k : Nat) : (longer (a :: x) (b :: y))[k + 1]? = (longer x y)[k]? := by
  unfold longer
  by_cases h : x.length < y.length
  · rw [if_pos (by simp; omega), if_pos h]; rfl
  · rw [if_neg (by simp; omega), if_neg h]; rfl
/-- what is found: a place at which two different strings have the same sum, or a string whose sum is 32 zero bytes -/
def Found (x y : List ByteArray) : Prop := collD x y = true ∨ (x.length ≠ y.length ∧ ∃ z, (longer x y)[min x.length y.length]? = some z ∧ sha z = zero32)
theorem Found.cons {x y : List ByteArray} (h : Found x y) (a b : ByteArray) : Found (a :: x) (b :: y) := by
  rcases h with h | ⟨h1, z, h2, h3⟩
  · exact .inl (collD_tail h)
  · refine .inr ⟨by simp; exact h1, z, ?_, h3⟩
    rw [show min (a :: x).length (b :: y).length = min x.length y.length + 1 by simp [Nat.succ_min_succ], longer_cons]
    exact h2
theorem chain_binding : ∀ (n : Nat) (a b : List ByteArray), a.length + b.length ≤ n → a ≠ b → (headD a).2 = (headD b).2 → Found (headD a).1 (headD b).1 := by
  intro n
  induction n with
  | zero =>
    intro a b h hab
    have ha : a = [] := List.eq_nil_of_length_eq_zero (by omega)
    have hb : b = [] := List.eq_nil_of_length_eq_zero (by omega)
    exact (hab (by rw [ha, hb])).elim
  | succ n ih =>
    intro a b h hab he
    rcases List.eq_nil_or_concat a with rfl | ⟨p, x, rfl⟩
    · rcases List.eq_nil_or_concat b with rfl | ⟨q, y, rfl⟩
      · exact (hab rfl).elim
      · rw [List.concat_eq_append] at *
        rw [headD_snoc] at he ⊢
        refine .inr ⟨by simp [headD_nil], _, rfl, ?_⟩
        exact he.symm
    · rcases List.eq_nil_or_concat b with rfl | ⟨q, y, rfl⟩
      · rw [List.concat_eq_append] at *
        rw [headD_snoc] at he ⊢
        refine .inr ⟨by simp [headD_nil], _, ?_, he⟩
        simp [headD_nil, longer]
      · rw [List.concat_eq_append, List.concat_eq_append] at *
        rw [headD_snoc, headD_snoc] at he ⊢
        by_cases hs : cat 2 [(headD p).2, x] = cat 2 [(headD q).2, y]
        · obtain ⟨h1, h2⟩ := cat2_inj hs (by rw [headD_size, headD_size])
          subst h2
          refine (ih p q ?_ (fun e => hab (by rw [e])) h1).cons _ _
          simp at h; omega
        · exact .inl (collD_head hs he)
end Go.Proofs.YtbkhkpcnclhoiaaDoor
