/- The disk as plain functions: contents, pending writes, what a crash leaves. No program in sight. -/
import Derived.WalkKit
namespace Go.Proofs.Ytmkdnfiiehgcaaa

/-- bytes put into a content from a place on -/
def putB (b : List UInt8) (o : Nat) (s : List UInt8) : List UInt8 := b.take o ++ (s ++ b.drop (o + s.length))
theorem putB_len {b s : List UInt8} {o : Nat} (h : o + s.length ≤ b.length) : (putB b o s).length = b.length := by
  unfold putB; simp; omega
theorem putB_get (b s : List UInt8) (o j : Nat) (h : o + s.length ≤ b.length) : (putB b o s)[j]? = if o ≤ j ∧ j < o + s.length then s[j - o]? else b[j]? := by
  unfold putB
  have hl : (b.take o).length = o := by rw [List.length_take]; omega
  by_cases h1 : j < o
  · rw [List.getElem?_append_left (by omega), List.getElem?_take, if_pos h1, if_neg (by omega)]
  · rw [List.getElem?_append_right (by omega), hl]
    by_cases h2 : j < o + s.length
    · rw [List.getElem?_append_left (by omega), if_pos ⟨by omega, h2⟩]
    · rw [List.getElem?_append_right (by omega), List.getElem?_drop, if_neg (by omega)]
      congr 1; omega
/-- a pending write: where, and what -/
abbrev Wr := Nat × ByteArray
def Wr.ok (n : Nat) (x : Wr) : Prop := x.1 + x.2.size ≤ n
def putW (b : List UInt8) (x : Wr) : List UInt8 := putB b x.1 x.2.data.toList
theorem putW_len {b : List UInt8} {x : Wr} (h : Wr.ok b.length x) : (putW b x).length = b.length :=
  putB_len (by unfold Wr.ok at h; simpa using h)
/-- the writes, one behind the other -/
def applyL (b : List UInt8) (l : List Wr) : List UInt8 := l.foldl putW b
theorem applyL_nil (b : List UInt8) : applyL b [] = b := rfl
theorem applyL_snoc (b : List UInt8) (l : List Wr) (x : Wr) : applyL b (l ++ [x]) = putW (applyL b l) x := by
  unfold applyL; rw [List.foldl_append]; rfl
theorem applyL_len : ∀ (l : List Wr) (b : List UInt8), (∀ x ∈ l, Wr.ok b.length x) → (applyL b l).length = b.length := by
  intro l
  induction l with
  | nil => intro b _; rfl
  | cons x l ih =>
    intro b h
    have h1 := putW_len (h x (List.mem_cons_self ..))
    have := ih (putW b x) (fun y hy => by rw [h1]; exact h y (List.mem_cons_of_mem _ hy))
    unfold applyL at *
    rw [List.foldl_cons, this, h1]
/-- a write of which t bytes survive -/
def tornS (t : Int) (s : ByteArray) : ByteArray := if 0 ≤ t then s.extract 0 (min t.toNat s.size) else s
/-- the last one torn -/
def lastCut (t : Int) : List Wr → List Wr
  | [] => []
  | [x] => [(x.1, tornS t x.2)]
  | x :: y :: r => x :: lastCut t (y :: r)
theorem lastCut_length (t : Int) : ∀ l : List Wr, (lastCut t l).length = l.length
  | [] => rfl
  | [x] => rfl
  | x :: y :: r => by rw [lastCut, List.length_cons, lastCut_length t (y :: r)]; rfl
theorem lastCut_get (t : Int) : ∀ (l : List Wr) (k : Nat) (x : Wr), l[k]? = some x → (lastCut t l)[k]? = some (if k + 1 = l.length then (x.1, tornS t x.2) else x)
  | [], k, x, h => by simp at h
  | [y], k, x, h => by
    cases k with
    | zero => simp at h; subst h; rfl
    | succ k => simp at h
  | y :: z :: r, k, x, h => by
    cases k with
    | zero => simp at h; subst h; simp [lastCut]
    | succ k =>
      simp only [List.getElem?_cons_succ] at h
      have := lastCut_get t (z :: r) k x h
      rw [lastCut, List.getElem?_cons_succ, this]
      simp
theorem tornS_size (t : Int) (s : ByteArray) : (tornS t s).size ≤ s.size := by
  unfold tornS; split
  · rw [ByteArray.size_extract]; omega
  · exact Nat.le_refl _
/-- the places that a list of numbers names, in order -/
def ordN (keep : List Int) (n : Nat) : List Nat := (List.range n).filter fun i : Nat => decide ((i : Int) ∈ keep)
theorem ordN_lt {keep : List Int} {n : Nat} {i : Nat} (h : i ∈ ordN keep n) : i < n := by
  have := (List.mem_filter.1 h).1
  simpa using this
theorem ordN_succ (keep : List Int) (n : Nat) : ordN keep (n + 1) = ordN keep n ++ if (n : Int) ∈ keep then [n] else [] := by
  unfold ordN
  rw [List.range_succ, List.filter_append]
  by_cases h : (n : Int) ∈ keep <;> simp [h]
/-- what a list of numbers lets survive -/
def survive (keep : List Int) (p : List Wr) : List Wr := (ordN keep p.length).map fun i => p.getD i (0, ⟨#[]⟩)
theorem survive_length (keep : List Int) (p : List Wr) : (survive keep p).length = (ordN keep p.length).length := by simp [survive]
theorem survive_ok {keep : List Int} {p : List Wr} {n : Nat} (h : ∀ x ∈ p, Wr.ok n x) : ∀ x ∈ survive keep p, Wr.ok n x := by
  intro x hx
  obtain ⟨i, hi, rfl⟩ := List.mem_map.1 hx
  have hl := ordN_lt hi
  rw [List.getD_eq_getElem?_getD, List.getElem?_eq_getElem hl]
  exact h _ (List.getElem_mem hl)
theorem lastCut_ok {t : Int} {n : Nat} : ∀ {l : List Wr}, (∀ x ∈ l, Wr.ok n x) → ∀ x ∈ lastCut t l, Wr.ok n x
  | [], _, x, hx => by cases hx
  | [y], h, x, hx => by
    have := h y (List.mem_cons_self ..)
    have ht := tornS_size t y.2
    simp [lastCut] at hx; subst hx
    unfold Wr.ok at *
    simp only
    omega
  | y :: z :: r, h, x, hx => by
    rw [lastCut] at hx
    rcases List.mem_cons.1 hx with rfl | hx
    · exact h _ (List.mem_cons_self ..)
    · exact lastCut_ok (fun u hu => h u (List.mem_cons_of_mem _ hu)) x hx
/-- the state of a disk -/
structure Dk where
  off : Bool
  left : Nat
  dur : List UInt8
  vis : List UInt8
  pend : List Wr
/-- what always holds -/
def Dk.inv (d : Dk) (n : Nat) : Prop := d.dur.length = n ∧ d.vis.length = n ∧ (∀ x ∈ d.pend, Wr.ok n x) ∧ d.vis = applyL d.dur d.pend ∧ d.left ≤ 9223372036854775807
def newD (n : Nat) : Dk := ⟨false, 0, List.replicate n 0, List.replicate n 0, []⟩
theorem newD_inv (n : Nat) : (newD n).inv n := by simp [Dk.inv, newD, applyL]
/-- counting a write -/
def usedP (off : Bool) (left : Nat) : Bool × Nat := if left = 0 then (off, 0) else (decide (left = 1), left - 1)
theorem usedP_le (off : Bool) (left : Nat) : (usedP off left).2 ≤ left := by unfold usedP; split <;> simp <;> omega
def insideD (n : Nat) (o m : Int) : Bool := decide (0 ≤ o) && decide (0 ≤ m) && decide (o ≤ n) && decide (m ≤ n - o)
def writeD (d : Dk) (n : Nat) (o : Int) (s : ByteArray) : Int × Dk :=
  if d.off = true then (251, d) else if insideD n o s.size = false then (250, d)
  else (0, { d with off := (usedP d.off d.left).1, left := (usedP d.off d.left).2, vis := putW d.vis (o.toNat, s), pend := d.pend ++ [(o.toNat, s)] })
def settleD (d : Dk) (c : List UInt8) : Dk := { d with dur := c, vis := c, pend := [] }
def syncD (d : Dk) : Int × Dk := if d.off = true then (251, d) else (0, settleD d d.vis)
def crashD (d : Dk) (keep : List Int) (t : Int) : Dk := { settleD d (applyL d.dur (lastCut t (survive keep d.pend))) with off := false, left := 0 }
end Go.Proofs.Ytmkdnfiiehgcaaa
