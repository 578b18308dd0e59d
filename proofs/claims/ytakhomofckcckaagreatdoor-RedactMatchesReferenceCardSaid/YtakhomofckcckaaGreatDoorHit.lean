/- Two lists of leaves with one root: the strings that are hashed for them. No program in sight. -/
import Derived.Test.YtakhomofckcckaaGreatDoorRfZ
namespace Go.Proofs.YtakhomofckcckaaGreatDoor
open Go

/-- two different strings of two lists have the same digest -/
def hitD (A B : List ByteArray) : Bool := A.any fun a => B.any fun b => decide (a ≠ b) && decide (sha a = sha b)
def NoHit (A B : List ByteArray) : Prop := ∀ a ∈ A, ∀ b ∈ B, sha a = sha b → a = b
theorem noHit_of {A B : List ByteArray} (h : hitD A B = false) : NoHit A B := by
  intro a ha b hb e
  apply Classical.byContradiction
  intro hne
  have : hitD A B = true := List.any_eq_true.2 ⟨a, ha, List.any_eq_true.2 ⟨b, hb, by simp [hne, e]⟩⟩
  rw [h] at this; cases this
theorem NoHit.sub {A B C D : List ByteArray} (h : NoHit A B) (h1 : ∀ x ∈ C, x ∈ A) (h2 : ∀ x ∈ D, x ∈ B) : NoHit C D := fun a ha b hb e => h a (h1 a ha) b (h2 b hb) e
/-- the strings that are hashed for the root of a list -/
def hashF : Nat → List ByteArray → List ByteArray
  | 0, _ => [⟨#[]⟩]
  | f + 1, l => if l.length = 0 then [⟨#[]⟩] else if l.length = 1 then [cat 0 [l.headD ⟨#[]⟩]] else hashF f (l.take (lp l.length)) ++ hashF f (l.drop (lp l.length)) ++ [cat 1 [rootD (l.take (lp l.length)), rootD (l.drop (lp l.length))]]
def hashD (l : List ByteArray) : List ByteArray := hashF l.length l
theorem hashF_fuel : ∀ (f g : Nat) (l : List ByteArray), l.length ≤ f → l.length ≤ g → hashF f l = hashF g l := by
  intro f
  induction f with
  | zero =>
    intro g l hf _
    have h0 : l.length = 0 := by omega
    cases g with
    | zero => rfl
    | succ g => rw [hashF, hashF, if_pos h0]
  | succ f ih =>
    intro g l hf hg
    cases g with
    | zero =>
      have h0 : l.length = 0 := by omega
      rw [hashF, hashF, if_pos h0]
    | succ g =>
      rw [hashF, hashF]
      by_cases h0 : l.length = 0
      · rw [if_pos h0, if_pos h0]
      · rw [if_neg h0, if_neg h0]
        by_cases h1 : l.length = 1
        · rw [if_pos h1, if_pos h1]
        · rw [if_neg h1, if_neg h1]
          have hs := lp_spec l.length (by omega)
          have hp := lp_pos l.length
          rw [ih g (l.take (lp l.length)) (by rw [List.length_take]; omega) (by rw [List.length_take]; omega), ih g (l.drop (lp l.length)) (by rw [List.length_drop]; omega) (by rw [List.length_drop]; omega)]
theorem hashD_nil : hashD [] = [⟨#[]⟩] := rfl
theorem hashD_one (x : ByteArray) : hashD [x] = [cat 0 [x]] := by
  unfold hashD
  rw [show [x].length = 0 + 1 from rfl, hashF, if_neg (by simp), if_pos (by simp)]; rfl
theorem hashD_split (l : List ByteArray) (h : 2 ≤ l.length) : hashD l = hashD (l.take (lp l.length)) ++ hashD (l.drop (lp l.length)) ++ [cat 1 [rootD (l.take (lp l.length)), rootD (l.drop (lp l.length))]] := by
  have hs := lp_spec l.length h
  have hp := lp_pos l.length
  unfold hashD
  obtain ⟨f, hf⟩ : ∃ f, l.length = f + 1 := ⟨l.length - 1, by omega⟩
  conv => lhs; rw [hf, hashF]
  rw [if_neg (by omega), if_neg (by omega)]
  rw [hashF_fuel f (l.take (lp l.length)).length _ (by rw [List.length_take]; omega) (Nat.le_refl _), hashF_fuel f (l.drop (lp l.length)).length _ (by rw [List.length_drop]; omega) (Nat.le_refl _)]
/-- the same root and no two different strings with one digest: the same list -/
theorem noHit_tree : ∀ (n : Nat) (a b : List ByteArray), a.length = n → b.length = n → rootD a = rootD b → NoHit (hashD a) (hashD b) → a = b := by
  intro n
  induction n using Nat.strongRecOn with
  | _ n ih =>
    intro a b ha hb he hn
    by_cases h0 : n = 0
    · rw [List.eq_nil_of_length_eq_zero (ha.trans h0), List.eq_nil_of_length_eq_zero (hb.trans h0)]
    by_cases h1 : n = 1
    · obtain ⟨x, rfl⟩ := List.length_eq_one_iff.1 (ha.trans h1)
      obtain ⟨y, rfl⟩ := List.length_eq_one_iff.1 (hb.trans h1)
      rw [rootD_one, rootD_one] at he
      rw [hashD_one, hashD_one] at hn
      rw [cat1_inj (hn _ List.mem_cons_self _ List.mem_cons_self he)]
    · have h2a : 2 ≤ a.length := by omega
      have h2b : 2 ≤ b.length := by omega
      have hs := lp_spec a.length h2a
      have hp := lp_pos a.length
      have hlab : lp a.length = lp b.length := by rw [ha, hb]
      rw [rootD_split a h2a, rootD_split b h2b, ← hlab] at he
      rw [hashD_split a h2a, hashD_split b h2b, ← hlab] at hn
      have hc := hn _ (List.mem_append_right _ List.mem_cons_self) _ (List.mem_append_right _ List.mem_cons_self) he
      obtain ⟨e1, e2⟩ := cat2_inj hc (by rw [rootD_size, rootD_size])
      have i1 := ih (lp a.length) (by omega) _ _ (by rw [List.length_take]; omega) (by rw [List.length_take]; omega) e1 (hn.sub (fun x hx => List.mem_append_left _ (List.mem_append_left _ hx)) (fun x hx => List.mem_append_left _ (List.mem_append_left _ hx)))
      have i2 := ih (n - lp a.length) (by omega) _ _ (by rw [List.length_drop]; omega) (by rw [List.length_drop]; omega) e2 (hn.sub (fun x hx => List.mem_append_left _ (List.mem_append_right _ hx)) (fun x hx => List.mem_append_left _ (List.mem_append_right _ hx)))
      rw [← List.take_append_drop (lp a.length) a, ← List.take_append_drop (lp a.length) b, i1, i2]
/-- the strings that are hashed for the root of leaves -/
def hashesD (l : List Lf) : List ByteArray := hashD (l.map valueD) ++ [cat 0 [numB l.length], cat 1 [leafD (numB l.length), rootD (l.map valueD)]] ++ (l.filter Lf.shown).map textD
def backN (b : ByteArray) : Nat := (b.data.toList.getD 0 0).toNat % 128 / 2 + (b.data.toList.getD 1 0).toNat * 64
theorem numB_back : ∀ n, n < 65 → backN (numB n) = n := by decide +kernel
theorem numB_one : ∀ n, n < 8 → (numB n).size = 1 := by decide +kernel
theorem numB_inj {n m : Nat} (hn : n < 65) (hm : m < 65) (h : numB n = numB m) : n = m := by
  rw [← numB_back n hn, ← numB_back m hm, h]
theorem ba_inj {a b c d : ByteArray} (h : a ++ b = c ++ d) (hs : a.size = c.size) : a = c ∧ b = d := by
  have h1 := congrArg (fun x : ByteArray => x.data.toList) h
  simp only [ByteArray.data_append, Array.toList_append] at h1
  obtain ⟨h2, h3⟩ := List.append_inj h1 (by simpa using hs)
  exact ⟨ByteArray.ext (Array.toList_inj.1 h2), ByteArray.ext (Array.toList_inj.1 h3)⟩
theorem text_inj {x y : Lf} (hx : leafB x = true) (hy : leafB y = true) (sx : x.shown = true) (sy : y.shown = true) (h : textD x = textD y) : x.salt = y.salt ∧ x.mark = y.mark ∧ x.text = y.text := by
  obtain ⟨_, a2, _, a4, a5⟩ := leafB_shown hx sx
  obtain ⟨_, b2, _, b4, b5⟩ := leafB_shown hy sy
  unfold textD at h
  have n1 := numB_one x.mark.toNat (by omega)
  have n2 := numB_one y.mark.toNat (by omega)
  obtain ⟨h1, h2⟩ := ba_inj h (by simp only [ByteArray.size_append]; omega)
  obtain ⟨h3, h4⟩ := ba_inj h1 (by simp only [ByteArray.size_append]; omega)
  obtain ⟨_, h5⟩ := ba_inj h3 rfl
  have h6 := numB_inj (by omega) (by omega) h4
  exact ⟨h5, by omega, h2⟩
/-- one root and no two different strings with one digest: as many leaves, and the same texts -/
theorem noHit_texts {a b : List Lf} (ha : listB a = true) (hb : listB b = true) (he : rtD a = rtD b) (hn : NoHit (hashesD a) (hashesD b)) :
    a.length = b.length ∧ ∀ (i : Nat) (x y : Lf), a[i]? = some x → b[i]? = some y → x.shown = true → y.shown = true → x.salt = y.salt ∧ x.mark = y.mark ∧ x.text = y.text := by
  unfold rtD at he
  rw [if_pos ha, if_pos hb] at he
  have mem1 : ∀ l : List Lf, cat 1 [leafD (numB l.length), rootD (l.map valueD)] ∈ hashesD l := fun l => by unfold hashesD; simp
  have mem0 : ∀ l : List Lf, cat 0 [numB l.length] ∈ hashesD l := fun l => by unfold hashesD; simp
  have memT : ∀ (l : List Lf) (x : Lf), x ∈ l → x.shown = true → textD x ∈ hashesD l := fun l x hx hs => by
    unfold hashesD
    exact List.mem_append_right _ (List.mem_map.2 ⟨x, List.mem_filter.2 ⟨hx, hs⟩, rfl⟩)
  obtain ⟨e1, e2⟩ := cat2_inj (hn _ (mem1 a) _ (mem1 b) he) (by rw [leafD_size, leafD_size])
  have e3 := cat1_inj (hn _ (mem0 a) _ (mem0 b) e1)
  obtain ⟨la, aa⟩ := listB_all ha
  obtain ⟨lb, ab⟩ := listB_all hb
  have e4 : a.length = b.length := numB_inj (by omega) (by omega) e3
  refine ⟨e4, fun i x y hx hy sx sy => ?_⟩
  have e5 : a.map valueD = b.map valueD := noHit_tree a.length _ _ (by rw [List.length_map]) (by rw [List.length_map, e4]) e2 (hn.sub (fun x hx => by unfold hashesD; simp [hx]) (fun x hx => by unfold hashesD; simp [hx]))
  have e6 : valueD x = valueD y := by
    have h := congrArg (fun l => l[i]?) e5
    simp only [List.getElem?_map, hx, hy, Option.map_some, Option.some.injEq] at h
    exact h
  unfold valueD at e6
  rw [if_pos sx, if_pos sy] at e6
  have mx := List.mem_of_getElem? hx
  have my := List.mem_of_getElem? hy
  exact text_inj (aa x mx) (ab y my) sx sy (hn _ (memT a x mx sx) _ (memT b y my sy) e6)
/-- the law of RedactBinding -/
theorem binds_hit {a b : List Lf} (ha : listB a = true) (hb : listB b = true) (he : rtD a = rtD b) (hd : a.length ≠ b.length ∨ ∃ (i : Nat) (x y : Lf), a[i]? = some x ∧ b[i]? = some y ∧ x.shown = true ∧ y.shown = true ∧ ¬ (x.text = y.text ∧ x.mark = y.mark)) : hitD (hashesD a) (hashesD b) = true := by
  cases h : hitD (hashesD a) (hashesD b) with
  | true => rfl
  | false =>
    obtain ⟨h1, h2⟩ := noHit_texts ha hb he (noHit_of h)
    rcases hd with hd | ⟨i, x, y, hx, hy, sx, sy, hne⟩
    · exact absurd h1 hd
    · obtain ⟨_, e2, e3⟩ := h2 i x y hx hy sx sy
      exact absurd ⟨e3, e2⟩ hne
/-- the law of RedactSalts -/
theorem salts_hit {l : List Lf} {k : Nat} {x : Lf} {s : ByteArray} (hl : listB l = true) (hx : l[k]? = some x) (sx : x.shown = true) (ho : listB (l.set k ⟨x.shown, x.text, x.mark, s, x.digest⟩) = true) (he : rtD l = rtD (l.set k ⟨x.shown, x.text, x.mark, s, x.digest⟩)) (hs : s ≠ x.salt) :
    hitD (hashesD l) (hashesD (l.set k ⟨x.shown, x.text, x.mark, s, x.digest⟩)) = true := by
  cases h : hitD (hashesD l) (hashesD (l.set k ⟨x.shown, x.text, x.mark, s, x.digest⟩)) with
  | true => rfl
  | false =>
    obtain ⟨_, h2⟩ := noHit_texts hl ho he (noHit_of h)
    have hk := (List.getElem?_eq_some_iff.1 hx).1
    exact absurd (h2 k x ⟨x.shown, x.text, x.mark, s, x.digest⟩ hx (by rw [List.getElem?_set_self hk]) sx sx).1.symm hs
end Go.Proofs.YtakhomofckcckaaGreatDoor
