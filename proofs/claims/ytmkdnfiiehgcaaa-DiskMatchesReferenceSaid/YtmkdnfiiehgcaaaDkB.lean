/- Sorted, compacted, and cut to the places of a list: the numbers that survive, in order. No program in sight. -/
import Derived.Test.YtmkdnfiiehgcaaaDkA
import Derived.Lib.SlicesCompact
namespace Go.Proofs.Ytmkdnfiiehgcaaa

theorem sorted_eq : ∀ {a b : List Int}, a.Pairwise (· < ·) → b.Pairwise (· < ·) → (∀ x, x ∈ a ↔ x ∈ b) → a = b := by
  intro a
  induction a with
  | nil =>
    intro b _ _ h
    cases b with
    | nil => rfl
    | cons y b => exact absurd ((h y).2 (List.mem_cons_self ..)) (by simp)
  | cons x a ih =>
    intro b ha hb h
    cases b with
    | nil => exact absurd ((h x).1 (List.mem_cons_self ..)) (by simp)
    | cons y b =>
      rw [List.pairwise_cons] at ha hb
      have hxy : x = y := by
        rcases List.mem_cons.1 ((h x).1 (List.mem_cons_self ..)) with e | e
        · exact e
        · rcases List.mem_cons.1 ((h y).2 (List.mem_cons_self ..)) with e' | e'
          · exact e'.symm
          · have := hb.1 x e; have := ha.1 y e'; omega
      subst hxy
      rw [ih ha.2 hb.2 fun z => ?_]
      constructor
      · intro hz
        have h1 := ha.1 z hz
        rcases List.mem_cons.1 ((h z).1 (List.mem_cons_of_mem _ hz)) with e | e
        · omega
        · exact e
      · intro hz
        have h1 := hb.1 z hz
        rcases List.mem_cons.1 ((h z).2 (List.mem_cons_of_mem _ hz)) with e | e
        · omega
        · exact e
theorem pairwise_append_one {a : List Int} {x : Int} (ha : a.Pairwise (· < ·)) (h : ∀ y ∈ a, y < x) : (a ++ [x]).Pairwise (· < ·) := by
  rw [List.pairwise_append]
  exact ⟨ha, List.pairwise_singleton _ _, fun y hy z hz => by simp at hz; subst hz; exact h y hy⟩
/-- the compacted first part of a sorted list -/
theorem compact_spec (d : Array Int) (hs : ∀ i j, i < j → j < d.size → d[i]! ≤ d[j]!) : ∀ m, m ≤ d.size →
    (Go.Lib.compactUpTo d m).Pairwise (· < ·) ∧ (∀ x, x ∈ Go.Lib.compactUpTo d m ↔ ∃ i, i < m ∧ d[i]! = x) := by
  intro m
  induction m with
  | zero => intro _; simp [Go.Lib.compactUpTo]
  | succ m ih =>
    intro hm
    obtain ⟨h1, h2⟩ := ih (by omega)
    rw [Go.Lib.compactUpTo_succ]
    by_cases hk : Go.Lib.keeps d m = true
    · rw [if_pos hk]
      have hk' : m = 0 ∨ d[m]! ≠ d[m - 1]! := by simpa [Go.Lib.keeps] using hk
      refine ⟨pairwise_append_one h1 fun y hy => ?_, fun x => ?_⟩
      · obtain ⟨i, hi, rfl⟩ := (h2 y).1 hy
        have h0 : m ≠ 0 := by omega
        have hne := hk'.resolve_left h0
        have h3 := hs (m - 1) m (by omega) (by omega)
        by_cases hi2 : i = m - 1
        · subst hi2; omega
        · have := hs i (m - 1) (by omega) (by omega); omega
      · simp only [List.mem_append, List.mem_singleton, h2]
        constructor
        · rintro (⟨i, hi, rfl⟩ | rfl)
          · exact ⟨i, by omega, rfl⟩
          · exact ⟨m, by omega, rfl⟩
        · rintro ⟨i, hi, rfl⟩
          by_cases him : i = m
          · subst him; exact .inr rfl
          · exact .inl ⟨i, by omega, rfl⟩
    · rw [if_neg hk, List.append_nil]
      have hk' : ¬ (m = 0 ∨ d[m]! ≠ d[m - 1]!) := by simpa [Go.Lib.keeps] using hk
      refine ⟨h1, fun x => (h2 x).trans ⟨fun ⟨i, hi, e⟩ => ⟨i, by omega, e⟩, fun ⟨i, hi, e⟩ => ?_⟩⟩
      by_cases him : i = m
      · subst him
        have h0 : i ≠ 0 := fun e => hk' (.inl e)
        have : d[i]! = d[i - 1]! := Classical.byContradiction fun hne => hk' (.inr hne)
        exact ⟨i - 1, by omega, by rw [← this, e]⟩
      · exact ⟨i, by omega, e⟩
theorem merge_sorted (l : List Int) : (l.mergeSort fun x y => decide (x ≤ y)).Pairwise fun x y => x ≤ y := by
  have := List.pairwise_mergeSort (le := fun x y : Int => decide (x ≤ y)) (by intro a b c h1 h2; simp at *; omega) (by intro a b; simp; omega) l
  exact this.imp (by intro a b h; simpa using h)
/-- the order of a crash -/
theorem order_eq (keep : List Int) (n : Nat) :
    ((Go.Lib.compact (keep.mergeSort fun x y => decide (x ≤ y))).filter fun i => !(decide (i < 0) || decide ((n : Int) ≤ i))) = (ordN keep n).map fun i : Nat => (i : Int) := by
  have hp := merge_sorted keep
  have hm : ∀ x, x ∈ (keep.mergeSort fun x y => decide (x ≤ y)) ↔ x ∈ keep := fun x => (List.mergeSort_perm keep _).mem_iff
  generalize (keep.mergeSort fun x y => decide (x ≤ y)) = s at hp hm
  have hs : ∀ i j, i < j → j < s.toArray.size → s.toArray[i]! ≤ s.toArray[j]! := by
    intro i j hij hj
    have hj' : j < s.length := by simpa using hj
    have := List.pairwise_iff_getElem.1 hp i j (by omega) hj' hij
    simpa [hj', (show i < s.length by omega)] using this
  obtain ⟨h1, h2⟩ := compact_spec s.toArray hs s.length (by simp)
  refine sorted_eq (h1.filter _) ?_ fun x => ?_
  · rw [List.pairwise_map]
    refine List.Pairwise.filter _ ?_
    refine List.pairwise_lt_range.imp ?_
    intro a b h; omega
  · have hc : x ∈ Go.Lib.compact s ↔ x ∈ s := by
      unfold Go.Lib.compact
      rw [h2]
      constructor
      · rintro ⟨i, hi, rfl⟩; simp [hi]
      · intro hx
        obtain ⟨i, hi, e⟩ := List.mem_iff_getElem.1 hx
        exact ⟨i, hi, by simp [hi, e]⟩
    rw [List.mem_filter, hc, hm]
    simp only [ordN, List.mem_map, List.mem_filter, List.mem_range, decide_eq_true_eq]
    constructor
    · rintro ⟨hx, hb⟩
      have hb' : 0 ≤ x ∧ x < n := by simpa using hb
      exact ⟨x.toNat, ⟨by omega, by rw [Int.toNat_of_nonneg hb'.1]; exact hx⟩, Int.toNat_of_nonneg hb'.1⟩
    · rintro ⟨i, ⟨hi, hk⟩, rfl⟩
      exact ⟨hk, by simp; omega⟩
end Go.Proofs.Ytmkdnfiiehgcaaa
