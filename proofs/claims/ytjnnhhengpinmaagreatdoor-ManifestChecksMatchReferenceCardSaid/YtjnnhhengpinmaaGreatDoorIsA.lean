/- What a path is, in plain words: its parts, and their bytes. No program in sight. -/
import Derived.Lib.TrimU
import Derived.Lib.TrimUEq
import Derived.Lib.TrimAscii
import Derived.Lib.SpaceUEq
import Derived.Lib.IndexBytes
import Derived.Lib.IndexLaws
import Derived.Lib.IndexMore
import Derived.Shelf.GgClosure.StringsIndexFunc
namespace Go.Proofs.YtjnnhhengpinmaaGreatDoor
open Go Go.Lib

/-- the parts of a string between its bytes 47 -/
def spl : List UInt8 → List (List UInt8)
  | [] => [[]]
  | c :: l => if c = 47 then [] :: spl l else match spl l with
    | [] => [[c]]
    | p :: ps => (c :: p) :: ps
theorem spl_ne (l : List UInt8) : spl l ≠ [] := by
  cases l with
  | nil => simp [spl]
  | cons c l => unfold spl; split; · simp
                split <;> simp
theorem spl_none : ∀ (l : List UInt8), indexByte l 47 = -1 → spl l = [l] := by
  intro l
  induction l with
  | nil => intro _; rfl
  | cons c l ih =>
    intro h
    have hn := indexByte_none h
    have hc : c ≠ 47 := fun e => hn 0 (by rw [e]; rfl)
    have hl : indexByte l 47 = -1 := by
      rcases Int.lt_or_le (indexByte l 47) 0 with h0 | h0
      · have := indexByte_ge l 47; omega
      · obtain ⟨o, ho⟩ := Int.eq_ofNat_of_zero_le h0
        exact absurd (indexByte_some ho).1 (hn (o + 1))
    rw [spl, if_neg hc, ih hl]
theorem spl_some : ∀ (l : List UInt8) (k : Nat), indexByte l 47 = (k : Int) → spl l = l.take k :: spl (l.drop (k + 1)) := by
  intro l
  induction l with
  | nil => intro k h; exact absurd (indexByte_some h).1 (by simp)
  | cons c l ih =>
    intro k h
    obtain ⟨h1, h2⟩ := indexByte_some h
    cases k with
    | zero =>
      obtain rfl : c = 47 := by simpa using h1
      rw [spl, if_pos rfl]; rfl
    | succ k =>
      have hc : c ≠ 47 := fun e => h2 0 (by omega) (by rw [e]; rfl)
      have hl : indexByte l 47 = (k : Int) := by
        rcases Int.lt_or_le (indexByte l 47) 0 with h0 | h0
        · have h3 : indexByte l 47 = -1 := by have := indexByte_ge l 47; omega
          exact absurd h1 (indexByte_none h3 k)
        · obtain ⟨o, ho⟩ := Int.eq_ofNat_of_zero_le h0
          obtain ⟨h3, h4⟩ := indexByte_some ho
          rcases Nat.lt_trichotomy o k with hlt | he | hgt
          · exact absurd h3 (h2 (o + 1) (by omega))
          · subst he; exact ho
          · exact absurd h1 (h4 k hgt)
      rw [spl, if_neg hc, ih k hl]; rfl
/-- a byte that no path has -/
def badC (c : UInt8) : Bool := decide (c.toNat < 33) || decide (126 < c.toNat)
def badR (x : Nat) : Bool := decide (x < 33) || decide (126 < x)
theorem decodeN_high (n b0 b1 b2 b3 : Nat) (h0 : b0 < 256) (h : 128 ≤ b0) : 128 ≤ (decodeN n b0 b1 b2 b3).1 := by
  rcases decodeN_cases n b0 b1 b2 b3 with ⟨h1, _⟩ | ⟨_, _, _, h4, e⟩ | ⟨_, _, _, _, h4, e⟩ | ⟨h1, _⟩ | e
  · omega
  · rw [e]; exact h4
  · rw [e]; exact Nat.le_trans (by omega) h4
  · omega
  · rw [e]; show 128 ≤ 65533; omega
theorem idx_bad (s : ByteArray) : ∀ (f pos : Nat), s.size - pos ≤ f → (decide (0 ≤ idxFuncFrom badR true s f pos) = (s.data.toList.drop pos).any badC) := by
  intro f
  induction f with
  | zero =>
    intro pos h
    have : s.data.toList.drop pos = [] := List.drop_eq_nil_of_le (by simp; have : s.size = s.data.size := rfl; omega)
    rw [this]; rfl
  | succ f ih =>
    intro pos h
    unfold idxFuncFrom
    by_cases hp : pos < s.size
    · rw [if_pos hp]
      have hl : pos < s.data.toList.length := by simpa using hp
      rw [List.drop_eq_getElem_cons hl, List.any_cons]
      have hg : s.data.toList.getD pos 0 = s.data.toList[pos] := by rw [List.getD_eq_getElem?_getD, List.getElem?_eq_getElem hl]; rfl
      by_cases hb : (s.data.toList[pos]).toNat < 128
      · have hd : Utf8.decode s pos = ((s.data.toList[pos]).toNat, 1) := by
          rw [decode_N, hg]
          unfold decodeN
          rw [if_pos hb]
        rw [hd]
        show decide (0 ≤ if badR (s.data.toList[pos]).toNat = true then (pos : Int) else idxFuncFrom badR true s f (pos + 1)) = _
        rw [← ih (pos + 1) (by omega)]
        have e : badC s.data.toList[pos] = badR (s.data.toList[pos]).toNat := rfl
        rw [e]
        cases badR (s.data.toList[pos]).toNat
        · simp
        · simp
      · have h1 : 128 ≤ (Utf8.decode s pos).1 := by
          rw [decode_N, hg]
          exact decodeN_high _ _ _ _ _ (UInt8.toNat_lt _) (by omega)
        have hr : badR (Utf8.decode s pos).1 = true := by unfold badR; rw [Bool.or_eq_true, decide_eq_true_eq, decide_eq_true_eq]; omega
        have hc : badC s.data.toList[pos] = true := by unfold badC; rw [Bool.or_eq_true, decide_eq_true_eq, decide_eq_true_eq]; omega
        rw [if_pos hr, hc]
        simp
    · rw [if_neg hp]
      have : s.data.toList.drop pos = [] := List.drop_eq_nil_of_le (by simp; have : s.size = s.data.size := rfl; omega)
      rw [this]; rfl
theorem idx_bad0 (s : ByteArray) : decide (0 ≤ idxFunc badR true s) = s.data.toList.any badC := by
  unfold idxFunc
  rw [idx_bad s s.size 0 (by omega)]; rfl
/-- a part that no path has -/
def badP (p : List UInt8) : Bool := decide (p = []) || (decide (p = [46]) || (decide (p = [46, 46]) || p.any badC))
def pathD (s : ByteArray) : Bool := (spl s.data.toList).all (fun p => !badP p) && decide (s.size ≤ 64)
end Go.Proofs.YtjnnhhengpinmaaGreatDoor
