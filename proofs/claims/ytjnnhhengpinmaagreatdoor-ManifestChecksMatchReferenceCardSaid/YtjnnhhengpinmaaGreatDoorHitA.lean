/- Strings that are hashed for the root of a list; two lists with one root. No program in sight. -/
import Derived.Test.YtjnnhhengpinmaaGreatDoorGenA
namespace Go.Proofs.YtjnnhhengpinmaaGreatDoor
open Go

/-- two different strings of two lists have the same digest -/
def hitD (A B : List ByteArray) : Bool := A.any fun a => B.any fun b => decide (a ≠ b) && decide (sha a = sha b)
def NoHit (A B : List ByteArray) : Prop := ∀ a ∈ A, ∀ b ∈ B, sha a = sha b → a = b
theorem noHit_of {A B : List ByteArray} (h : hitD A B = false) : NoHit A B := by
  intro a ha b hb e
  apply Classical.byContradiction
  intro hne
  have : hitD A B = true := List.any_eq_true.2 ⟨a, ha, List.any_eq_true.2 ⟨b, hb, by simp [hne, e]⟩⟩
  rw [h] at this; cases this
theorem NoHit.sub {A B C D : List ByteArray} (h : NoHit A B) (h1 : ∀ x ∈ C, x ∈ A) (h2 : ∀ x ∈ D, x ∈ B) : NoHit C D := fun a ha b hb e => h a (h1 a ha) b (h2 b hb) e
/-- the strings that are hashed for the root of a list -/
def hashF : Nat → List ByteArray → List ByteArray
  | 0, _ => [⟨#[]⟩]
  | f + 1, l => if l.length = 0 then [⟨#[]⟩] else if l.length = 1 then [cat 0 [l.headD ⟨#[]⟩]] else hashF f (l.take (lp l.length)) ++ hashF f (l.drop (lp l.length)) ++ [cat 1 [rootD (l.take (lp l.length)), rootD (l.drop (lp l.length))]]
def hashD (l : List ByteArray) : List ByteArray := hashF l.length l
theorem hashF_fuel : ∀ (f g : Nat) (l : List ByteArray), l.length ≤ f → l.length ≤ g → hashF f l = hashF g l := by
  intro f
  induction f with
  | zero =>
    intro g l hf _
    have h0 : l.length = 0 := by omega
    cases g with
    | zero => rfl
    | succ g => rw [hashF, hashF, if_pos h0]
  | succ f ih =>
    intro g l hf hg
    cases g with
    | zero =>
      have h0 : l.length = 0 := by omega
      rw [hashF, hashF, if_pos h0]
    | succ g =>
      rw [hashF, hashF]
      by_cases h0 : l.length = 0
      · rw [if_pos h0, if_pos h0]
      · rw [if_neg h0, if_neg h0]
        by_cases h1 : l.length = 1
        · rw [if_pos h1, if_pos h1]
        · rw [if_neg h1, if_neg h1]
          have hs := lp_spec l.length (by omega)
          have hp := lp_pos l.length
          rw [ih g (l.take (lp l.length)) (by rw [List.length_take]; omega) (by rw [List.length_take]; omega), ih g (l.drop (lp l.length)) (by rw [List.length_drop]; omega) (by rw [List.length_drop]; omega)]
theorem hashD_nil : hashD [] = [⟨#[]⟩] := rfl
theorem hashD_one (x : ByteArray) : hashD [x] = [cat 0 [x]] := by
  unfold hashD
  rw [show [x].length = 0 + 1 from rfl, hashF, if_neg (by simp), if_pos (by simp)]; rfl
theorem hashD_split (l : List ByteArray) (h : 2 ≤ l.length) : hashD l = hashD (l.take (lp l.length)) ++ hashD (l.drop (lp l.length)) ++ [cat 1 [rootD (l.take (lp l.length)), rootD (l.drop (lp l.length))]] := by
  have hs := lp_spec l.length h
  have hp := lp_pos l.length
  unfold hashD
  obtain ⟨f, hf⟩ : ∃ f, l.length = f + 1 := ⟨l.length - 1, by omega⟩
  conv => lhs; rw [hf, hashF]
  rw [if_neg (by omega), if_neg (by omega)]
  rw [hashF_fuel f (l.take (lp l.length)).length _ (by rw [List.length_take]; omega) (Nat.le_refl _), hashF_fuel f (l.drop (lp l.length)).length _ (by rw [List.length_drop]; omega) (Nat.le_refl _)]
/-- the same root and no two different strings with one digest: the same list -/
theorem noHit_tree : ∀ (n : Nat) (a b : List ByteArray), a.length = n → b.length = n → rootD a = rootD b → NoHit (hashD a) (hashD b) → a = b := by
  intro n
  induction n using Nat.strongRecOn with
  | _ n ih =>
    intro a b ha hb he hn
    by_cases h0 : n = 0
    · rw [List.eq_nil_of_length_eq_zero (ha.trans h0), List.eq_nil_of_length_eq_zero (hb.trans h0)]
    by_cases h1 : n = 1
    · obtain ⟨x, rfl⟩ := List.length_eq_one_iff.1 (ha.trans h1)
      obtain ⟨y, rfl⟩ := List.length_eq_one_iff.1 (hb.trans h1)
      rw [rootD_one, rootD_one] at he
      rw [hashD_one, hashD_one] at hn
      rw [cat1_inj (hn _ List.mem_cons_self _ List.mem_cons_self he)]
    · have h2a : 2 ≤ a.length := by omega
      have h2b : 2 ≤ b.length := by omega
      have hs := lp_spec a.length h2a
      have hp := lp_pos a.length
      have hlab : lp a.length = lp b.length := by rw [ha, hb]
      rw [rootD_split a h2a, rootD_split b h2b, ← hlab] at he
      rw [hashD_split a h2a, hashD_split b h2b, ← hlab] at hn
      have hc := hn _ (List.mem_append_right _ List.mem_cons_self) _ (List.mem_append_right _ List.mem_cons_self) he
      obtain ⟨e1, e2⟩ := cat2_inj hc (by rw [rootD_size, rootD_size])
      have i1 := ih (lp a.length) (by omega) _ _ (by rw [List.length_take]; omega) (by rw [List.length_take]; omega) e1 (hn.sub (fun x hx => List.mem_append_left _ (List.mem_append_left _ hx)) (fun x hx => List.mem_append_left _ (List.mem_append_left _ hx)))
      have i2 := ih (n - lp a.length) (by omega) _ _ (by rw [List.length_drop]; omega) (by rw [List.length_drop]; omega) e2 (hn.sub (fun x hx => List.mem_append_left _ (List.mem_append_right _ hx)) (fun x hx => List.mem_append_left _ (List.mem_append_right _ hx)))
      rw [← List.take_append_drop (lp a.length) a, ← List.take_append_drop (lp a.length) b, i1, i2]
end Go.Proofs.YtjnnhhengpinmaaGreatDoor
