/- ManifestPaths, the plain side: a path is joined from its parts. -/
import Derived.Test.YtjnnhhengpinmaaGreatDoorNA
import Derived.Test.YtjnnhhengpinmaaGreatDoorNL
import Derived.Test.YtjnnhhengpinmaaGreatDoorMkA
namespace Go.Proofs.YtjnnhhengpinmaaGreatDoor
open Go Go.RowKit Go.Shelf

/-- the parts of a joined string -/
theorem spl_join (a b : List UInt8) : spl (a ++ 47 :: b) = spl a ++ spl b := by
  induction a with
  | nil => rw [List.nil_append, spl, spl, if_pos rfl]; rfl
  | cons c a ih =>
    rw [List.cons_append, spl, ih]
    by_cases h : c = 47
    · rw [if_pos h, spl, if_pos h]; rfl
    · rw [if_neg h, spl, if_neg h]
      cases hs : spl a with
      | nil => exact absurd hs (spl_ne a)
      | cons p ps => rfl
def noS (x : ByteArray) : Prop := ∀ j : Nat, x.data.toList[j]? ≠ some 47
def okB (x : ByteArray) (j : Nat) : Bool := !(decide (x = ⟨#[]⟩) || (decide (x = ⟨#[46]⟩) || decide (x = ⟨#[46, 46]⟩))) && (x.data.toList.take j).all (fun c => !badC c)
theorem okB_step {x : ByteArray} {j : Nat} {c : UInt8} (h : x.data.toList[j]? = some c) : okB x (j + 1) = (okB x j && !badC c) := by
  unfold okB
  rw [List.take_add_one, h, Option.toList_some, List.all_append, Bool.and_assoc]
  simp
theorem okB_end {x : ByteArray} {j : Nat} (h : x.size ≤ j) : okB x j = !badL x.data.toList := by
  unfold okB badL
  rw [List.take_of_length_le (show x.data.toList.length ≤ j from h)]
  have e1 : ∀ l : List UInt8, decide (x = ⟨l.toArray⟩) = (x.data.toList == l) := fun l => by
    rw [Bool.eq_iff_iff, decide_eq_true_eq, beq_iff_eq]
    exact ⟨fun e => by rw [e], fun e => by cases x; rename_i d; cases d; simp at e; rw [e]⟩
  rw [e1 [], e1 [46], e1 [46, 46], ← List.not_any_eq_all_not]
  cases x.data.toList with
  | nil => rfl
  | cons c t => simp [Bool.not_or, Bool.and_assoc]
def pX (l : List ByteArray) (k : Nat) : ByteArray := cutD (l.getD k ⟨#[]⟩) 12
def pJ (l : List ByteArray) : Nat → ByteArray
  | 0 => ⟨#[]⟩
  | k + 1 => (if k = 0 then pJ l k else pJ l k ++ ⟨#[47]⟩) ++ pX l k
def pR (l : List ByteArray) : Nat → Bool
  | 0 => decide (0 < l.length)
  | k + 1 => pR l k && okB (pX l k) (pX l k).size
theorem pX_size (l : List ByteArray) (k : Nat) : (pX l k).size ≤ 12 := by unfold pX; rw [cutD_size]; omega
theorem pJ_size (l : List ByteArray) : ∀ k, (pJ l k).size ≤ 13 * k
  | 0 => Nat.le_refl _
  | k + 1 => by
    have h1 := pJ_size l k
    have h2 := pX_size l k
    unfold pJ
    rw [ByteArray.size_append]
    split
    · omega
    · rw [ByteArray.size_append]
      have : (⟨#[47]⟩ : ByteArray).size = 1 := rfl
      omega
theorem pJ_spl (l : List ByteArray) (k : Nat) : (∀ j, j ≤ k → noS (pX l j)) → spl (pJ l (k + 1)).data.toList = (List.range (k + 1)).map fun j => (pX l j).data.toList := by
  induction k with
  | zero =>
    intro h
    show spl (pJ l 0 ++ pX l 0).data.toList = [(pX l 0).data.toList]
    rw [show pJ l 0 = ⟨#[]⟩ from rfl, ByteArray.data_append, Array.toList_append]
    exact spl_free (h 0 (Nat.le_refl _))
  | succ k ih =>
    intro h
    have e : (pJ l (k + 1 + 1)).data.toList = (pJ l (k + 1)).data.toList ++ 47 :: (pX l (k + 1)).data.toList := by
      rw [pJ, if_neg (by omega), ByteArray.data_append, ByteArray.data_append, Array.toList_append, Array.toList_append, List.append_assoc]; rfl
    rw [e, spl_join, ih (fun j hj => h j (by omega)), spl_free (h (k + 1) (Nat.le_refl _)), List.range_succ (n := k + 1), List.map_append]
    rfl
theorem pR_eq (l : List ByteArray) (h : 0 < l.length) : ∀ k, pR l k = ((List.range k).map fun j => (pX l j).data.toList).all (fun p => !badL p)
  | 0 => decide_eq_true h
  | k + 1 => by
    rw [pR, pR_eq l h k, List.range_succ, List.map_append, List.all_append, okB_end (Nat.le_refl _)]
    simp
theorem path_law (l : List ByteArray) (k : Nat) (hk : k ≤ l.length) (h0 : k = 0 → l.length = 0) (h : ∀ j, j < k → noS (pX l j)) : goodB (pJ l k) = (pR l k && decide ((pJ l k).size ≤ 64)) := by
  rw [goodB_eq]
  cases k with
  | zero =>
    rw [show pR l 0 = false from decide_eq_false (by have := h0 rfl; omega)]
    rw [show pJ l 0 = ⟨#[]⟩ from rfl]; rfl
  | succ k => rw [pJ_spl l k (fun j hj => h j (by omega)), pR_eq l (by omega)]
theorem one_ok (p : ByteArray) : mkOk 1 1 [p] [0] [⟨#[]⟩] = goodB p := by
  unfold mkOk
  rw [show ([p] : List ByteArray).length = 1 from rfl, show ([0] : List Int).length = 1 from rfl, show ([⟨#[]⟩] : List ByteArray).length = 1 from rfl]
  simp only [Bool.true_and, decide_true]
  rw [show entsD [p] [0] [⟨#[]⟩] 1 = [mkEn p 0 ⟨#[]⟩] from rfl]
  unfold validD
  rw [show headB 1 1 (([mkEn p 0 ⟨#[]⟩] : List En).length : Int) = true from (by decide +kernel : headB 1 1 ((1 : Nat) : Int) = true), show ascN [mkEn p 0 ⟨#[]⟩] ([mkEn p 0 ⟨#[]⟩] : List En).length = true from rfl]
  simp only [List.all_cons, List.all_nil, Bool.and_true, Bool.true_and]
  unfold entB mkEn
  simp only
  rw [sha_size, show withinB 0 0 1000000 = true from by decide +kernel]
  show (goodB p && (true && (withinB 0 0 65536 && decide (32 = 32)))) = _
  rw [show withinB 0 0 65536 = true from by decide +kernel]
  simp
theorem slash_bad (r : ByteArray) : goodB (⟨#[47]⟩ ++ r) = false := by
  rw [goodB_eq, ByteArray.data_append, Array.toList_append, show (⟨#[47]⟩ : ByteArray).data.toList = [47] from rfl, List.singleton_append, spl, if_pos rfl]
  rfl
end Go.Proofs.YtjnnhhengpinmaaGreatDoor
