/- ManifestProved, the plain law: what Prove gives for a package of streams is accepted, at its place alone. -/
import Derived.Test.YtjnnhhengpinmaaGreatDoorNG
import Derived.Test.YtjnnhhengpinmaaGreatDoorNF
import Derived.Test.YtjnnhhengpinmaaGreatDoorNH
import Derived.Test.YtjnnhhengpinmaaGreatDoorNO
import Derived.Test.YtjnnhhengpinmaaGreatDoorNS
import Derived.Test.YtjnnhhengpinmaaGreatDoorMB
import Derived.Test.YtjnnhhengpinmaaGreatDoorNA
namespace Go.Proofs.YtjnnhhengpinmaaGreatDoor
section
open Go Go.RowKit Go.Shelf

theorem path_inj : ∀ i, i < 12 → ∀ j, j < 12 → pathOf i = pathOf j → i = j := by decide +kernel
theorem mad_idx {l : List ByteArray} {i : Nat} (hi : i < madN l) : idxP (madE l) (pathOf i) = some i := by
  have h12 := (madN_pos l).2
  obtain ⟨f, s, he, -⟩ := madE_at hi
  refine idx_yes he rfl (fun j y hj hy => ?_)
  obtain ⟨f', s', he', -⟩ := madE_at (l := l) (i := j) (by omega)
  obtain rfl := Option.some.inj (he'.symm.trans hy)
  exact fun e => by have := path_inj j (by omega) i (by omega) e; omega
theorem mad_absent {l : List ByteArray} {p : ByteArray} (hp : p.size ≠ 3) : idxP (madE l) p = none := by
  refine idx_no (fun i y hy e => ?_)
  have hi := (List.getElem?_eq_some_iff.1 hy).1
  rw [madE_len] at hi
  obtain ⟨f, s, he, -, -, -, -, hm⟩ := madE_at hi
  obtain rfl := Option.some.inj (he.symm.trans hy)
  exact hp (by rw [← e]; exact (mad_sizes l).2.2 _ (List.mem_of_getElem? hm))
theorem valid_parts {id ver : Int} {l : List En} (h : validD id ver l = true) : headB id ver l.length = true ∧ ∀ x ∈ l, entB x = true := by
  refine ⟨?_, (valid_head h).2.2.2.2⟩
  unfold validD at h
  simp only [Bool.and_eq_true] at h
  exact h.1
theorem verD_lenX {l : List ByteArray} {k : Nat} {s : ByteArray} (r : ByteArray) (q : List ByteArray) (h : l[k]? = some s) (hq : q.length ≠ (proofD l k).length) : verD r l.length k s q = false := by
  unfold verD
  have : valR s q.reverse l.length k ≠ some r := fun e => by
    have := valR_len e (proof_val _ l k s (Nat.le_refl _) h)
    rw [List.length_reverse, List.length_reverse] at this
    exact hq this
  rw [show ((l.length : Int)).toNat = l.length from rfl, show ((k : Int)).toNat = k from rfl, decide_eq_false this, Bool.and_false]
theorem verD_okX (l : List ByteArray) (k : Nat) (s : ByteArray) (h : l[k]? = some s) : verD (rootD l) l.length k s (proofD l k) = true := by
  have hk : k < l.length := (List.getElem?_eq_some_iff.1 h).1
  unfold verD
  rw [decide_eq_true (show (0 : Int) ≤ (k : Int) by omega), decide_eq_true (show (k : Int) < (l.length : Int) by omega), allD_iff.2 (proof_all _ l k (Nat.le_refl _))]
  rw [show ((l.length : Int)).toNat = l.length from rfl, show ((k : Int)).toNat = k from rfl, proof_val _ l k s (Nat.le_refl _) h]
  simp
theorem verD_outX (r : ByteArray) (n i : Int) (s : ByteArray) (q : List ByteArray) (h : i < 0 ∨ n ≤ i) : verD r n i s q = false := by
  unfold verD
  rcases h with h | h
  · rw [decide_eq_false (show ¬ 0 ≤ i by omega)]; simp
  · rw [decide_eq_false (show ¬ i < n by omega)]; simp
/-- a valid package's entry at i with what Prove gives -/
theorem prove_law {id ver : Int} {l : List En} (hV : validD id ver l = true) {i : Nat} {x : En} (hx : l[i]? = some x) :
    verM (rootP id ver l) id ver l.length i x (prP l (some i)) = true ∧ (∀ j : Int, j < 0 ∨ (l.length : Int) ≤ j → verM (rootP id ver l) id ver l.length j x (prP l (some i)) = false) ∧
      verM (rootP id ver l) id ver l.length i x ((prP l (some i)).drop 1) = false ∧ verM ⟨#[]⟩ id ver l.length i x (prP l (some i)) = false := by
  obtain ⟨hH, hE⟩ := valid_parts hV
  have hL : (l.map lineD)[i]? = some (lineD x) := by rw [List.getElem?_map, hx]; rfl
  have hn : (l.map lineD).length = l.length := List.length_map _
  have hR : rootP id ver l = boundD id ver l.length (rootD (l.map lineD)) := by unfold rootP; rw [if_pos hV]
  have e0 := hE x (List.mem_of_getElem? hx)
  refine ⟨?_, fun j hj => ?_, ?_, ?_⟩
  · unfold verM prP
    rw [hH, e0, hR]
    have := verD_okX _ _ _ hL
    rw [hn] at this
    simp [this]
  · unfold verM
    rw [verD_outX _ _ _ _ _ hj]
    simp
  · unfold verM prP
    simp only [List.drop_succ_cons, List.drop_zero]
    cases hq : proofD (l.map lineD) i with
    | nil => simp
    | cons y r =>
      have := verD_lenX y r hL (by rw [hq]; simp)
      rw [hn] at this
      simp [this]
  · unfold verM
    have : ¬ ((⟨#[]⟩ : ByteArray) = boundD id ver l.length ((prP l (some i)).getD 0 ⟨#[]⟩)) := fun e => by
      have h1 := congrArg ByteArray.size e
      rw [boundD_size] at h1
      cases h1
    rw [decide_eq_false this]
    simp
theorem prP_len (l : List En) (i : Nat) : (prP l (some i)).length = (proofD (l.map lineD) i).length + 1 := rfl
theorem prP_sizes (l : List En) (o : Option Nat) : ∀ y ∈ prP l o, y.size = 32 := by
  intro y hy
  cases o with
  | none => cases hy
  | some i =>
    rcases List.mem_cons.1 hy with rfl | hy
    · exact rootD_size _
    · exact proof_all _ _ _ (Nat.le_refl _) y hy
end
section
open Go Go.RowKit Go.Shelf

theorem given_mem {Z : List (ByteArray × ByteArray)} {p s : ByteArray} (h : givenD Z p = some s) : (p, s) ∈ Z := by
  unfold givenD at h
  obtain ⟨z, hz, rfl⟩ := Option.map_eq_some_iff.1 h
  have h1 := List.find?_some hz
  have h2 := List.mem_of_find?_eq_some hz
  have e := of_decide_eq_true h1
  rw [← e]; exact h2
/-- each key has one value -/
def FunZ (Z : List (ByteArray × ByteArray)) : Prop := ∀ p s t, (p, s) ∈ Z → (p, t) ∈ Z → s = t
theorem given_fun {Z : List (ByteArray × ByteArray)} (h : FunZ Z) {p s : ByteArray} (hm : (p, s) ∈ Z) : givenD Z p = some s := by
  cases hg : givenD Z p with
  | none => exact absurd rfl (given_none.1 hg (p, s) hm)
  | some t => rw [h p t s (given_mem hg) hm]
theorem given_key (Y : List (ByteArray × ByteArray)) (p : ByteArray) : (∃ z ∈ Y, z.1 = p) ↔ givenD Y p ≠ none := by
  rw [Ne, given_none]
  constructor
  · rintro ⟨z, hz, e⟩ h; exact h z hz e
  · intro h
    apply Classical.byContradiction
    intro hn
    exact h (fun z hz e => hn ⟨z, hz, e⟩)
/-- Check's answer depends on what is given for each path alone -/
theorem chk_congr {L : List En} {Z Y : List (ByteArray × ByteArray)} (h : ∀ p, givenD Z p = givenD Y p) : chkD L Z = chkD L Y := by
  refine chk_eq (chk_asc L Z) (fun p => ?_)
  rw [chk_mem, given_key, given_key, h]
  have hb : ∀ x, badE Z x = badE Y x := fun x => by unfold badE; rw [h]
  simp only [hb]
theorem fun_congr {Z Y : List (ByteArray × ByteArray)} (hf : FunZ Z) (hm : ∀ p s, (p, s) ∈ Y ↔ (p, s) ∈ Z) (p : ByteArray) : givenD Y p = givenD Z p := by
  have hf' : FunZ Y := fun p s t h1 h2 => hf p s t ((hm _ _).1 h1) ((hm _ _).1 h2)
  cases h : givenD Z p with
  | some s => exact given_fun hf' ((hm _ _).2 (given_mem h))
  | none => exact given_none.2 (fun z hz => given_none.1 h z ((hm z.1 z.2).1 hz))
theorem given_app {Z Y : List (ByteArray × ByteArray)} (h : ∀ y ∈ Y, ∃ z ∈ Z, z.1 = y.1) (p : ByteArray) : givenD (Z ++ Y) p = givenD Z p := by
  unfold givenD
  rw [List.find?_append]
  cases hz : Z.find? fun z => decide (z.1 = p) with
  | some z => rfl
  | none =>
    have : Y.find? (fun z => decide (z.1 = p)) = none := by
      rw [List.find?_eq_none] at hz ⊢
      intro y hy e
      obtain ⟨z, hz1, hz2⟩ := h y hy
      exact hz z hz1 (by rw [hz2]; exact e)
    rw [this]; rfl
theorem mem_zip (A B : List ByteArray) (p s : ByteArray) : (p, s) ∈ A.zip B ↔ ∃ i : Nat, A[i]? = some p ∧ B[i]? = some s := by
  rw [List.mem_iff_getElem?]
  constructor
  · rintro ⟨i, h⟩; exact ⟨i, List.getElem?_zip_eq_some.1 h⟩
  · rintro ⟨i, h⟩; exact ⟨i, List.getElem?_zip_eq_some.2 h⟩
/-- what Check gives for a made package -/
theorem mad_chk {l : List ByteArray} {id ver I J : Int} {n : Nat} {E : List En} {P S : List ByteArray} (h : MadF l id ver I J n E P S) (Z : List (ByteArray × ByteArray)) (R : List ByteArray) (hR : AscL R)
    (hb : ∀ i f s, i < n → S[i]? = some s → (badE Z (mkEn (pathOf i) f s) = true ↔ pathOf i ∈ R))
    (hk : ∀ p, (∃ z ∈ Z, z.1 = p) → (∀ i, i < n → p ≠ pathOf i) → p ∈ R)
    (hr : ∀ p ∈ R, (∃ i, i < n ∧ p = pathOf i) ∨ ((∃ z ∈ Z, z.1 = p) ∧ ∀ i, i < n → p ≠ pathOf i)) : checkD I J E Z = R := by
  have hx : ∀ x ∈ E, ∃ i f s, i < n ∧ S[i]? = some s ∧ x = mkEn (pathOf i) f s := by
    intro x hx
    obtain ⟨i, hi⟩ := List.getElem?_of_mem hx
    have hi' := (List.getElem?_eq_some_iff.1 hi).1
    rw [h.eLen] at hi'
    obtain ⟨f, s, he, -, -, -, hs, -⟩ := h.at_ hi'
    rw [hi] at he
    exact ⟨i, f, s, hi', hs, Option.some.inj he⟩
  unfold checkD
  rw [if_pos h.valid]
  refine (chk_eq hR (fun p => ⟨fun hp => ?_, ?_⟩)).symm
  · rcases hr p hp with ⟨i, hi, rfl⟩ | ⟨h1, h2⟩
    · obtain ⟨f, s, he, -, -, -, hs, -⟩ := h.at_ hi
      exact .inl ⟨_, List.mem_of_getElem? he, (hb i f s hi hs).2 hp, rfl⟩
    · refine .inr ⟨h1, fun x hxE e => ?_⟩
      obtain ⟨i, f, s, hi, -, rfl⟩ := hx x hxE
      exact h2 i hi e.symm
  · rintro (⟨x, hxE, hbx, e⟩ | ⟨h1, h2⟩)
    · obtain ⟨i, f, s, hi, hs, rfl⟩ := hx x hxE
      have := (hb i f s hi hs).1 hbx
      rw [← e]; exact this
    · refine hk p h1 (fun i hi e => ?_)
      obtain ⟨f, s, he, -⟩ := h.at_ hi
      exact h2 _ (List.mem_of_getElem? he) e.symm
theorem bad_some {Z : List (ByteArray × ByteArray)} {p s t : ByteArray} {f : Int} (h : givenD Z p = some t) : badE Z (mkEn p f s) = !(decide ((t.size : Int) = (s.size : Int)) && decide (sha t = sha s)) := by
  unfold badE mkEn; simp only; rw [h]
theorem bad_none {Z : List (ByteArray × ByteArray)} {p s : ByteArray} {f : Int} (h : givenD Z p = none) : badE Z (mkEn p f s) = true := by
  unfold badE mkEn; simp only; rw [h]
theorem bad_own {Z : List (ByteArray × ByteArray)} {p s : ByteArray} {f : Int} (h : givenD Z p = some s) : badE Z (mkEn p f s) = false := by
  rw [bad_some h]; simp
/-- the paths' places -/
theorem MadF.path {l : List ByteArray} {id ver I J : Int} {n : Nat} {E : List En} {P S : List ByteArray} (h : MadF l id ver I J n E P S) {i : Nat} {p : ByteArray} (hp : P[i]? = some p) : i < n ∧ p = pathOf i := by
  have hi := (List.getElem?_eq_some_iff.1 hp).1
  rw [h.pLen] at hi
  obtain ⟨f, s, -, -, -, -, -, hq⟩ := h.at_ hi
  rw [hp] at hq
  exact ⟨hi, Option.some.inj hq⟩
theorem MadF.same {l : List ByteArray} {id ver I J : Int} {n : Nat} {E : List En} {P S : List ByteArray} (h : MadF l id ver I J n E P S) {i j : Nat} {p : ByteArray} (hp : P[i]? = some p) (hq : P[j]? = some p) : i = j := by
  obtain ⟨h1, e1⟩ := h.path hp
  obtain ⟨h2, e2⟩ := h.path hq
  have := h.bounds
  exact path_inj i (by omega) j (by omega) (e1.symm.trans e2)
theorem MadF.funZ {l : List ByteArray} {id ver I J : Int} {n : Nat} {E : List En} {P S : List ByteArray} (h : MadF l id ver I J n E P S) (T : List ByteArray) : FunZ (P.zip T) := by
  intro p s t h1 h2
  obtain ⟨i, hi, hs⟩ := (mem_zip _ _ _ _).1 h1
  obtain ⟨j, hj, ht⟩ := (mem_zip _ _ _ _).1 h2
  obtain rfl := h.same hi hj
  exact Option.some.inj (hs.symm.trans ht)
theorem MadF.key {l : List ByteArray} {id ver I J : Int} {n : Nat} {E : List En} {P S : List ByteArray} (h : MadF l id ver I J n E P S) {T : List ByteArray} {p : ByteArray} (hk : ∃ z ∈ P.zip T, z.1 = p) : ∃ i, i < n ∧ p = pathOf i := by
  obtain ⟨⟨q, s⟩, hz, rfl⟩ := hk
  obtain ⟨i, hi, -⟩ := (mem_zip _ _ _ _).1 hz
  obtain ⟨h1, h2⟩ := h.path hi
  exact ⟨i, h1, h2⟩
theorem MadF.pAt {l : List ByteArray} {id ver I J : Int} {n : Nat} {E : List En} {P S : List ByteArray} (h : MadF l id ver I J n E P S) {i : Nat} (hi : i < n) : P[i]? = some (pathOf i) := by
  obtain ⟨f, s, -, -, -, -, -, hq⟩ := h.at_ hi
  exact hq
theorem ascL_one (x : ByteArray) : AscL [x] := by unfold AscL; simp
/-- nothing is wrong with the streams themselves -/
theorem fix_a {l : List ByteArray} {id ver I J : Int} {n : Nat} {E : List En} {P S : List ByteArray} (h : MadF l id ver I J n E P S) : checkD I J E (P.zip S) = [] := by
  refine mad_chk h _ [] List.Pairwise.nil (fun i f s hi hs => ?_) (fun p hp hn => ?_) (fun p hp => by cases hp)
  · rw [bad_own (given_fun (h.funZ S) ((mem_zip _ _ _ _).2 ⟨i, h.pAt hi, hs⟩))]
    simp
  · obtain ⟨i, hi, e⟩ := h.key hp
    exact absurd e (hn i hi)
theorem cut_zip {A B : List ByteArray} (hl : A.length = B.length) (k : Nat) (p s : ByteArray) : (p, s) ∈ (A.take k ++ A.drop (k + 1)).zip (B.take k ++ B.drop (k + 1)) ↔ ∃ i : Nat, i ≠ k ∧ A[i]? = some p ∧ B[i]? = some s := by
  rw [List.zip_append (by rw [List.length_take, List.length_take, hl]), List.mem_append, mem_zip, mem_zip]
  constructor
  · rintro (⟨i, h1, h2⟩ | ⟨i, h1, h2⟩)
    · rw [List.getElem?_take] at h1 h2
      by_cases hik : i < k
      · rw [if_pos hik] at h1 h2
        exact ⟨i, by omega, h1, h2⟩
      · rw [if_neg hik] at h1; cases h1
    · rw [List.getElem?_drop] at h1 h2
      exact ⟨k + 1 + i, by omega, h1, h2⟩
  · rintro ⟨i, hne, h1, h2⟩
    by_cases hik : i < k
    · exact .inl ⟨i, by rw [List.getElem?_take, if_pos hik]; exact h1, by rw [List.getElem?_take, if_pos hik]; exact h2⟩
    · refine .inr ⟨i - (k + 1), ?_, ?_⟩
      · rw [List.getElem?_drop, show k + 1 + (i - (k + 1)) = i by omega]; exact h1
      · rw [List.getElem?_drop, show k + 1 + (i - (k + 1)) = i by omega]; exact h2
/-- a stream that is missing is named -/
theorem fix_b {l : List ByteArray} {id ver I J : Int} {n : Nat} {E : List En} {P S : List ByteArray} (h : MadF l id ver I J n E P S) {k : Nat} (hk : k < n) :
    checkD I J E ((P.take k ++ P.drop (k + 1)).zip (S.take k ++ S.drop (k + 1))) = [pathOf k] := by
  have hl : P.length = S.length := by rw [h.pLen, h.sLen]
  have hf : FunZ ((P.take k ++ P.drop (k + 1)).zip (S.take k ++ S.drop (k + 1))) := fun p s t h1 h2 => by
    obtain ⟨i, -, h1⟩ := (cut_zip hl k _ _).1 h1
    obtain ⟨j, -, h2⟩ := (cut_zip hl k _ _).1 h2
    exact h.funZ S p s t ((mem_zip _ _ _ _).2 ⟨i, h1⟩) ((mem_zip _ _ _ _).2 ⟨j, h2⟩)
  refine mad_chk h _ _ (ascL_one _) (fun i f s hi hs => ?_) (fun p hp hn => ?_) (fun p hp => ?_)
  · by_cases hik : i = k
    · subst hik
      rw [bad_none (given_none.2 ?_)]
      · simp
      · rintro ⟨p, t⟩ hz e
        obtain ⟨j, hne, h1, -⟩ := (cut_zip hl i _ _).1 hz
        subst e
        exact hne (h.same h1 (h.pAt hi))
    · rw [bad_own (given_fun hf ((cut_zip hl k _ _).2 ⟨i, hik, h.pAt hi, hs⟩))]
      have := h.bounds
      simp only [Bool.false_eq_true, List.mem_singleton, false_iff]
      exact fun e => hik (path_inj i (by omega) k (by omega) e)
  · obtain ⟨⟨q, s⟩, hz, rfl⟩ := hp
    obtain ⟨j, -, h1, -⟩ := (cut_zip hl k _ _).1 hz
    obtain ⟨hj, e⟩ := h.path h1
    exact absurd e (hn j hj)
  · rw [List.mem_singleton] at hp
    exact .inl ⟨k, hk, hp⟩
/-- a stream in addition is named -/
theorem fix_c {l : List ByteArray} {id ver I J : Int} {n : Nat} {E : List En} {P S : List ByteArray} (h : MadF l id ver I J n E P S) {m : ByteArray} (hm : m.size ≠ 3) (o : ByteArray) :
    checkD I J E ((P ++ [m]).zip (S ++ [o])) = [m] := by
  have hl : P.length = S.length := by rw [h.pLen, h.sLen]
  rw [List.zip_append hl]
  have hmp : ∀ i, m ≠ pathOf i := fun i e => hm (by rw [e]; rfl)
  have hz : ∀ p, p ≠ m → givenD (P.zip S ++ [m].zip [o]) p = givenD (P.zip S) p := fun p hp => by
    unfold givenD
    rw [List.find?_append]
    cases (P.zip S).find? fun z => decide (z.1 = p) with
    | some z => rfl
    | none =>
      have : ([m].zip [o]).find? (fun z => decide (z.1 = p)) = none := by
        rw [List.find?_eq_none]
        intro y hy e
        obtain rfl := List.mem_singleton.1 hy
        exact hp (of_decide_eq_true e).symm
      rw [this]; rfl
  refine mad_chk h _ _ (ascL_one _) (fun i f s hi hs => ?_) (fun p hp hn => ?_) (fun p hp => ?_)
  · have hg : givenD (P.zip S ++ [m].zip [o]) (pathOf i) = some s := by
      rw [hz _ (fun e => hmp i e.symm)]
      exact given_fun (h.funZ S) ((mem_zip _ _ _ _).2 ⟨i, h.pAt hi, hs⟩)
    rw [bad_own hg]
    simp only [Bool.false_eq_true, List.mem_singleton, false_iff]
    exact fun e => hmp i e.symm
  · obtain ⟨z, hz1, rfl⟩ := hp
    rcases List.mem_append.1 hz1 with hz1 | hz1
    · obtain ⟨i, hi, e⟩ := h.key ⟨z, hz1, rfl⟩
      exact absurd e (hn i hi)
    · obtain rfl := List.mem_singleton.1 hz1
      exact List.mem_singleton.2 rfl
  · rw [List.mem_singleton] at hp
    subst hp
    exact .inr ⟨⟨(p, o), List.mem_append_right _ (List.mem_singleton.2 rfl), rfl⟩, fun i _ => hmp i⟩
/-- a stream that is another one is named, unless it has the same length and digest -/
theorem fix_d {l : List ByteArray} {id ver I J : Int} {n : Nat} {E : List En} {P S : List ByteArray} (h : MadF l id ver I J n E P S) {k : Nat} {s o : ByteArray} (hk : S[k]? = some s) :
    checkD I J E (P.zip (S.set k o)) = if o.size = s.size ∧ sha o = sha s then [] else [pathOf k] := by
  have hkn : k < n := by rw [← h.sLen]; exact (List.getElem?_eq_some_iff.1 hk).1
  have hat : ∀ i t, i < n → S[i]? = some t → i ≠ k → givenD (P.zip (S.set k o)) (pathOf i) = some t := fun i t hi hs hne =>
    given_fun (h.funZ _) ((mem_zip _ _ _ _).2 ⟨i, h.pAt hi, by rw [List.getElem?_set_ne (fun e => hne e.symm)]; exact hs⟩)
  have hatk : givenD (P.zip (S.set k o)) (pathOf k) = some o :=
    given_fun (h.funZ _) ((mem_zip _ _ _ _).2 ⟨k, h.pAt hkn, by rw [List.getElem?_set_self (by rw [h.sLen]; exact hkn)]⟩)
  have hbk : ∀ f, badE (P.zip (S.set k o)) (mkEn (pathOf k) f s) = !decide (o.size = s.size ∧ sha o = sha s) := fun f => by
    rw [bad_some hatk, Bool.decide_and]
    congr 2
    simp only [decide_eq_decide]; omega
  have hnm : ∀ i, i < n → i ≠ k → pathOf i ≠ pathOf k := fun i hi hne e => by
    have := h.bounds
    exact hne (path_inj i (by omega) k (by omega) e)
  split
  · rename_i hc
    refine mad_chk h _ [] List.Pairwise.nil (fun i f t hi hs => ?_) (fun p hp hn => ?_) (fun p hp => by cases hp)
    · by_cases hik : i = k
      · subst hik
        obtain rfl := Option.some.inj (hk.symm.trans hs)
        rw [hbk, decide_eq_true hc]; simp
      · rw [bad_own (hat i t hi hs hik)]; simp
    · obtain ⟨i, hi, e⟩ := h.key hp
      exact absurd e (hn i hi)
  · rename_i hc
    refine mad_chk h _ _ (ascL_one _) (fun i f t hi hs => ?_) (fun p hp hn => ?_) (fun p hp => ?_)
    · by_cases hik : i = k
      · subst hik
        obtain rfl := Option.some.inj (hk.symm.trans hs)
        rw [hbk, decide_eq_false hc]; simp
      · rw [bad_own (hat i t hi hs hik)]
        simp only [Bool.false_eq_true, List.mem_singleton, false_iff]
        exact hnm i hi hik
    · obtain ⟨i, hi, e⟩ := h.key hp
      exact absurd e (hn i hi)
    · rw [List.mem_singleton] at hp
      exact .inl ⟨k, hkn, hp⟩
/-- two elements exchanged -/
def swapL (a : List ByteArray) (x y : Nat) : List ByteArray := (a.set x (a.getD y ⟨#[]⟩)).set y (a.getD x ⟨#[]⟩)
theorem swapL_len (a : List ByteArray) (x y : Nat) : (swapL a x y).length = a.length := by simp [swapL]
def swI (x y i : Nat) : Nat := if i = y then x else if i = x then y else i
theorem swI_inv (x y i : Nat) : swI x y (swI x y i) = i := by
  unfold swI
  by_cases h1 : i = y
  · rw [if_pos h1]
    by_cases h2 : x = y
    · rw [if_pos h2]; omega
    · rw [if_neg h2, if_pos rfl, h1]
  · rw [if_neg h1]
    by_cases h2 : i = x
    · rw [if_pos h2, if_pos rfl, h2]
    · rw [if_neg h2, if_neg h1, if_neg h2]
theorem swapL_get {a : List ByteArray} {x y : Nat} (hx : x < a.length) (hy : y < a.length) (i : Nat) : (swapL a x y)[i]? = a[swI x y i]? := by
  unfold swapL swI
  by_cases h1 : i = y
  · subst h1
    rw [if_pos rfl, List.getElem?_set_self (by rw [List.length_set]; exact hy), List.getD_eq_getElem?_getD, List.getElem?_eq_getElem hx]; rfl
  · rw [if_neg h1, List.getElem?_set_ne (fun e => h1 e.symm)]
    by_cases h2 : i = x
    · subst h2
      rw [if_pos rfl, List.getElem?_set_self hx, List.getD_eq_getElem?_getD, List.getElem?_eq_getElem hy]; rfl
    · rw [if_neg h2, List.getElem?_set_ne (fun e => h2 e.symm)]
theorem swapL_zip {a b : List ByteArray} (hl : a.length = b.length) {x y : Nat} (hx : x < a.length) (hy : y < a.length) (p s : ByteArray) : (p, s) ∈ (swapL a x y).zip (swapL b x y) ↔ (p, s) ∈ a.zip b := by
  rw [mem_zip, mem_zip]
  constructor
  · rintro ⟨i, h1, h2⟩
    rw [swapL_get hx hy] at h1
    rw [swapL_get (by omega) (by omega)] at h2
    exact ⟨_, h1, h2⟩
  · rintro ⟨i, h1, h2⟩
    refine ⟨swI x y i, ?_, ?_⟩
    · rw [swapL_get hx hy, swI_inv]; exact h1
    · rw [swapL_get (by omega) (by omega), swI_inv]; exact h2
/-- two lists that are exchanged together -/
structure OrdI (A B a b : List ByteArray) : Prop where
  len : a.length = A.length
  len2 : b.length = A.length
  same : ∀ p s, (p, s) ∈ a.zip b ↔ (p, s) ∈ A.zip B
theorem OrdI.start {A B : List ByteArray} (h : A.length = B.length) : OrdI A B A B := ⟨rfl, h.symm, fun _ _ => Iff.rfl⟩
theorem OrdI.swap {A B a b : List ByteArray} (h : OrdI A B a b) {x y : Nat} (hx : x < A.length) (hy : y < A.length) : OrdI A B (swapL a x y) (swapL b x y) :=
  ⟨by rw [swapL_len, h.len], by rw [swapL_len, h.len2], fun p s => by rw [swapL_zip (by rw [h.len, h.len2]) (by rw [h.len]; exact hx) (by rw [h.len]; exact hy)]; exact h.same p s⟩
theorem order_law {A B a b : List ByteArray} (h : OrdI A B a b) (hf : FunZ (A.zip B)) (I J : Int) (E : List En) (T : List ByteArray) :
    checkD I J E (a.zip b) = checkD I J E (A.zip B) ∧ checkD I J E ((a ++ a).zip (b ++ T)) = checkD I J E (A.zip B) := by
  have h1 := chk_congr (L := E) (fun_congr hf h.same)
  have hl : a.length = b.length := by rw [h.len, h.len2]
  have h2 : chkD E ((a ++ a).zip (b ++ T)) = chkD E (a.zip b) := by
    rw [List.zip_append hl]
    refine chk_congr (given_app (fun y hy => ?_))
    obtain ⟨p, s⟩ := y
    obtain ⟨i, hi, -⟩ := (mem_zip _ _ _ _).1 hy
    have hib : i < b.length := by rw [← hl]; exact (List.getElem?_eq_some_iff.1 hi).1
    exact ⟨(p, b[i]), (mem_zip _ _ _ _).2 ⟨i, hi, List.getElem?_eq_getElem hib⟩, rfl⟩
  unfold checkD
  rw [h2, h1]
  exact ⟨rfl, rfl⟩
/-- the further streams' paths -/
def letP (k : Nat) : List ByteArray := (List.range k).map fun i => (⟨#[UInt8.ofNat (112 + i)]⟩ : ByteArray)
theorem letP_len (k : Nat) : (letP k).length = k := by simp [letP]
theorem letP_step (k : Nat) : letP (k + 1) = letP k ++ [(⟨#[UInt8.ofNat (112 + k)]⟩ : ByteArray)] := by unfold letP; rw [List.range_succ]; simp
theorem let_inj : ∀ i, i < 5 → ∀ j, j < 5 → (⟨#[UInt8.ofNat (112 + i)]⟩ : ByteArray) = ⟨#[UInt8.ofNat (112 + j)]⟩ → i = j := by decide +kernel
theorem letP_get {k i : Nat} {p : ByteArray} (h : (letP k)[i]? = some p) : i < k ∧ p = ⟨#[UInt8.ofNat (112 + i)]⟩ := by
  have hi := (List.getElem?_eq_some_iff.1 h).1
  rw [letP_len] at hi
  unfold letP at h
  rw [List.getElem?_map, List.getElem?_range hi] at h
  exact ⟨hi, (Option.some.inj h).symm⟩
theorem ord_fun {l : List ByteArray} {id ver I J : Int} {n : Nat} {E : List En} {P S : List ByteArray} (h : MadF l id ver I J n E P S) (k : Nat) (hk : k ≤ 5) (T : List ByteArray) : FunZ ((P ++ letP k).zip (S ++ T)) := by
  intro p s t h1 h2
  obtain ⟨i, hi, hs⟩ := (mem_zip _ _ _ _).1 h1
  obtain ⟨j, hj, ht⟩ := (mem_zip _ _ _ _).1 h2
  have hij : i = j := by
    by_cases hin : i < n
    · rw [List.getElem?_append_left (by rw [h.pLen]; exact hin)] at hi
      obtain ⟨-, ei⟩ := h.path hi
      by_cases hjn : j < n
      · rw [List.getElem?_append_left (by rw [h.pLen]; exact hjn)] at hj
        exact h.same hi hj
      · rw [List.getElem?_append_right (by rw [h.pLen]; omega)] at hj
        obtain ⟨-, ej⟩ := letP_get hj
        have := congrArg ByteArray.size (ei.symm.trans ej)
        cases this
    · rw [List.getElem?_append_right (by rw [h.pLen]; omega)] at hi
      obtain ⟨h1, ei⟩ := letP_get hi
      by_cases hjn : j < n
      · rw [List.getElem?_append_left (by rw [h.pLen]; exact hjn)] at hj
        obtain ⟨-, ej⟩ := h.path hj
        have := congrArg ByteArray.size (ei.symm.trans ej)
        cases this
      · rw [List.getElem?_append_right (by rw [h.pLen]; omega)] at hj
        obtain ⟨h2, ej⟩ := letP_get hj
        have := let_inj _ (by omega) _ (by omega) (ei.symm.trans ej)
        rw [h.pLen] at this
        omega
  subst hij
  exact Option.some.inj (hs.symm.trans ht)
end
section
open Go Go.RowKit Go.Shelf

/-- the parts of a slice of strings -/
theorem strs_parts {p : Option Addr} {n c : Nat} {L : List ByteArray} {w : World} (h : StrsAt (.slice p n c) L w) (hn : L.length = n) (h0 : 0 < n) : ∃ g off, p = some ⟨g, off, none⟩ ∧ n ≤ c ∧ c ≤ maxLen ∧ (∀ j x, L[j]? = some x → w.cell? ⟨g, off + j, none⟩ = some (.string x)) ∧
    ∀ k, k ≤ n → StrsAt (.slice (some ⟨g, off, none⟩) k c) (L.take k) w ∧ ∃ o1, StrsAt (.slice (some ⟨g, o1, none⟩) (n - k) (c - k)) (L.drop k) w ∧ ((c = k ∧ o1 = off) ∨ (c ≠ k ∧ o1 = off + k)) := by
  rcases h with ⟨_, h1⟩ | ⟨g, off, cap, he, h1, h2, hc⟩
  · rw [h1] at hn; simp at hn; omega
  · injection he with e1 e2 e3
    subst e1 e3
    rw [hn] at h1
    refine ⟨g, off, rfl, h1, h2, hc, fun k hk => ⟨.inr ⟨g, off, c, by rw [List.length_take, hn, Nat.min_eq_left hk], by rw [List.length_take]; omega, h2, fun j x hj => ?_⟩, ?_⟩⟩
    · rw [List.getElem?_take] at hj
      split at hj
      · exact hc j x hj
      · cases hj
    · by_cases hck : c = k
      · refine ⟨off, .inr ⟨g, off, c - k, by rw [List.length_drop, hn], by rw [List.length_drop]; omega, by omega, fun j x hj => ?_⟩, .inl ⟨hck, rfl⟩⟩
        have := (List.getElem?_eq_some_iff.1 hj).1
        rw [List.length_drop] at this; omega
      · refine ⟨off + k, .inr ⟨g, off + k, c - k, by rw [List.length_drop, hn], by rw [List.length_drop]; omega, by omega, fun j x hj => ?_⟩, .inr ⟨hck, rfl⟩⟩
        rw [List.getElem?_drop] at hj
        rw [Nat.add_assoc]; exact hc _ x hj
/-- Check's answer, under names -/
theorem chk_to {I J : Int} {E : List En} {v vp vs : Value} {A T R : List ByteArray} {m : Nat} (w : World) (hv : Rws 4 enC v E w) (hE : E.length ≤ 1000) (hEp : ∀ x ∈ E, x.path.size ≤ 9223372036854775807) (hp : StrsAt vp A w) (hs : StrsAt vs T w) (hA : A.length ≤ 10000) (hA2 : ∀ x ∈ A, x.size ≤ 1000) (hT2 : ∀ x ∈ T, x.size ≤ 1000) (hT : Tab w)
    (hR : checkD I J E (A.zip T) = R) (hm : R.length = m) :
    Calls Tryz.prog 30 #[.agg #[.int .i64 I, .int .i64 J, v], vp, vs] w fun e w' => ∃ p c, e = .returned (.slice p m c) ∧ OwnL w.heap.size R (.slice p m c) w' ∧ Gr w w' := by
  refine (check_any I J v vp vs E A T w hv hp hs (by omega) hA hEp (fun x hx => Nat.le_trans (hA2 x hx) (by decide)) (fun x hx => ⟨Nat.le_trans (hT2 x hx) (by decide), Nat.le_trans (hT2 x hx) (by decide)⟩) hT).mono ?_
  rintro e w' ⟨u, rfl, ho, hg⟩
  rw [hR] at ho
  obtain ⟨p, c, rfl⟩ := ho.strs.shape
  rw [hm] at ho ⊢
  exact ⟨p, c, rfl, ho, hg⟩
theorem sC_set (L : List ByteArray) (k : Nat) (x : ByteArray) : sC (L.set k x) = (sC L).set k (.string x) := by
  unfold sC; rw [List.map_set]
/-- a store of one string into a list of one's own -/
theorem ownL_put {B g off n c : Nat} {L : List ByteArray} {w : World} (h : OwnL B L (.slice (some ⟨g, off, none⟩) n c) w) (k : Nat) (hk : k < L.length) (x : ByteArray) :
    OwnL B (L.set k x) (.slice (some ⟨g, off, none⟩) n c) (w.setCell ⟨g, off + k, none⟩ (.string x)) := by
  have hn : L.length = n := by
    rcases h.2 with ⟨he, h0⟩ | ⟨g', off', cap', he, -⟩
    · cases he
    · injection he with e1 e2 e3; exact e2.symm
  subst hn
  have := Own.put1 h k (by simpa [sC] using hk) (.string x)
  unfold OwnL
  rw [sC_set, List.length_set]; exact this
theorem ownL_shape {B : Nat} {L : List ByteArray} {v : Value} {n : Nat} {w : World} (h : OwnL B L v w) (hn : L.length = n) (h0 : 0 < n) : ∃ g off c, v = .slice (some ⟨g, off, none⟩) n c ∧ B ≤ g ∧ n ≤ c ∧ c ≤ maxLen := by
  subst hn
  rcases h.2 with ⟨_, h1⟩ | ⟨g, off, cap, he, h1, h2, h3, -⟩
  · omega
  · exact ⟨g, off, cap, he, h1, h2, h3⟩
theorem ownL_cell {B g off n c : Nat} {L : List ByteArray} {w : World} (h : OwnL B L (.slice (some ⟨g, off, none⟩) n c) w) {k : Nat} {x : ByteArray} (hx : L[k]? = some x) : w.cell? ⟨g, off + k, none⟩ = some (.string x) := by
  rcases h.2 with ⟨he, _⟩ | ⟨g', off', cap', he, _, _, _, hc, _⟩
  · cases he
  · injection he with e1 e2 e3
    injection e1 with e1
    injection e1 with e1 e4
    subst e1 e4
    exact hc k _ (by rw [sC, List.getElem?_map, hx]; rfl)
theorem ownL_free {B g off n c : Nat} {L : List ByteArray} {w : World} (h : OwnL B L (.slice (some ⟨g, off, none⟩) n c) w) {k : Nat} (hk : k < n) : w.frozen? ⟨g, off + k, none⟩ = false := by
  rcases h.2 with ⟨he, _⟩ | ⟨g', off', cap', he, _, h2, _, _, hc⟩
  · cases he
  · injection he with e1 e2 e3
    injection e1 with e1
    injection e1 with e1 e4
    subst e1 e4 e3
    exact (hc k (by omega)).2
theorem strs_cell {g off n c : Nat} {L : List ByteArray} {w : World} (h : StrsAt (.slice (some ⟨g, off, none⟩) n c) L w) {k : Nat} {x : ByteArray} (hx : L[k]? = some x) : w.cell? ⟨g, off + k, none⟩ = some (.string x) := by
  rcases h with ⟨he, _⟩ | ⟨g', off', cap', he, _, _, hc⟩
  · cases he
  · injection he with e1 e2 e3
    injection e1 with e1
    injection e1 with e1 e4
    subst e1 e4
    exact hc k _ hx
theorem one_parts {B : Nat} {p : Option Addr} {c : Nat} {x : ByteArray} {w : World} (h : OwnL B [x] (.slice p 1 c) w) : ∃ g off, p = some ⟨g, off, none⟩ ∧ 1 ≤ c ∧ w.cell? ⟨g, off, none⟩ = some (.string x) := by
  obtain ⟨g, off, rfl, h1, -, h2, -⟩ := strs_parts h.strs rfl (by decide)
  exact ⟨g, off, rfl, h1, h2 0 _ rfl⟩
theorem cutD_small (s : ByteArray) (n : Nat) : (s.extract 0 (min s.size n)).size ≤ n := by
  rw [ByteArray.size_extract]; omega
end
section
open Go Go.RowKit Go.Shelf
attribute [local go_sem] gAt gUpon
attribute [local simp] Gr.refl Gr.alloc

theorem cnt_le : ∀ (L : List ByteArray) (s : ByteArray), cntL L s ≤ L.length := by
  intro L s
  induction L with
  | nil => exact Nat.le_refl _
  | cons y L ih =>
    rw [cntL_cons, List.length_cons]
    split <;> omega
theorem cnt_at : ∀ {L : List ByteArray} {s : ByteArray} {j : Nat}, j < cntL L s → ∃ x, L[j]? = some x ∧ ltB x s = true := by
  intro L s
  induction L with
  | nil => intro j h; exact absurd h (Nat.not_lt_zero _)
  | cons y L ih =>
    intro j h
    rw [cntL_cons] at h
    by_cases hy : ltB y s = true
    · rw [if_pos hy] at h
      cases j with
      | zero => exact ⟨y, rfl, hy⟩
      | succ j => exact ih (by omega)
    · rw [if_neg hy] at h
      exact absurd h (Nat.not_lt_zero _)
theorem cnt_stop : ∀ {L : List ByteArray} {s x : ByteArray}, L[cntL L s]? = some x → ltB x s = false := by
  intro L s
  induction L with
  | nil => intro x h; cases h
  | cons y L ih =>
    intro x h
    rw [cntL_cons] at h
    by_cases hy : ltB y s = true
    · rw [if_pos hy, List.getElem?_cons_succ] at h
      exact ih h
    · rw [if_neg hy, List.getElem?_cons_zero] at h
      obtain rfl := Option.some.inj h
      simpa using hy
set_option maxRecDepth 100000 in
set_option maxHeartbeats 2000000 in
theorem addR_core (g off n c : Nat) (L : List ByteArray) (s : ByteArray) (w : World) (hv : StrsAt (.slice (some ⟨g, off, none⟩) n c) L w) (hn : L.length = n) (hl : L.length ≤ 999998) :
    Calls Tryz.prog 61 #[.slice (some ⟨g, off, none⟩) n c, .string s] w fun e w' => ∃ u, e = .returned u ∧ StrsAt u (addL L s) w' ∧ Gr w w' := by
  obtain ⟨hnc, hcell, hcut⟩ : n ≤ c ∧ (∀ (j : Nat) x, L[j]? = some x → w.cell? ⟨g, off + j, none⟩ = some (.string x)) ∧ ∀ k, k ≤ n → StrsAt (.slice (some ⟨g, off, none⟩) k c) (L.take k) w ∧ ∃ o1, StrsAt (.slice (some ⟨g, o1, none⟩) (n - k) (c - k)) (L.drop k) w ∧ ((c = k ∧ o1 = off) ∨ (c ≠ k ∧ o1 = off + k)) := by
    rcases hv with ⟨he, _⟩ | ⟨g', off', cap, he, h1, h2, hc⟩
    · cases he
    · injection he with e1 e2 e3
      injection e1 with e1
      injection e1 with e1 e4
      subst e1 e3 e4
      rw [hn] at h1
      refine ⟨h1, hc, fun k hk => ⟨.inr ⟨g, off, c, by rw [List.length_take, hn, Nat.min_eq_left hk], by rw [List.length_take]; omega, h2, fun j x hj => ?_⟩, ?_⟩⟩
      · rw [List.getElem?_take] at hj
        split at hj
        · exact hc j x hj
        · cases hj
      · by_cases hck : c = k
        · refine ⟨off, .inr ⟨g, off, c - k, by rw [List.length_drop, hn], by rw [List.length_drop]; omega, by omega, fun j x hj => ?_⟩, .inl ⟨hck, rfl⟩⟩
          have := (List.getElem?_eq_some_iff.1 hj).1
          rw [List.length_drop] at this; omega
        · refine ⟨off + k, .inr ⟨g, off + k, c - k, by rw [List.length_drop, hn], by rw [List.length_drop]; omega, by omega, fun j x hj => ?_⟩, .inr ⟨hck, rfl⟩⟩
          rw [List.getElem?_drop] at hj
          rw [Nat.add_assoc]; exact hc _ x hj
  have HV := Lib.hid hv
  have HCell := Lib.hid hcell
  have HCut := Lib.hid hcut
  have hcl := cnt_le L s
  clear hv hcell hcut
  go_enter Tryz.func61, Tryz.ntmps61
  go_wp2_with fail
  go_loopw [5] (fun v5 W => ∃ k : Nat, k ≤ cntL L s ∧ v5 = .int .i64 (k : Int) ∧ Hid (Gr w W)) (fun v5 _ => cntL L s - (intOf v5).toNat)
  case atStart => exact ⟨0, Nat.zero_le _, rfl, Lib.hid (Gr.refl _)⟩
  case round =>
    obtain ⟨k, hk, rfl, HG⟩ := hrel
    by_cases hlt : k < cntL L s
    · obtain ⟨x, hx, hxs⟩ := cnt_at hlt
      have hkl := (List.getElem?_eq_some_iff.1 hx).1
      have t1 : decide (k < n) = true := decide_eq_true (by omega)
      have t1' : decide ((k : Int) < (n : Int)) = true := decide_eq_true (by omega)
      have t2 : Op.bytesLess x.toList s.toList = true := hxs
      have hc := HG.out.cell (HCell.out k x hx)
      have i0 : (0 : Int) ≤ (k : Int) := by omega
      have i1 : (k : Int) < (n : Int) := by omega
      go_wp2_with fail
      go_roundw
      case rel => exact ⟨k + 1, by omega, by go_num, HG⟩
      case measure => simp [intOf]; omega
    · have hke : k = cntL L s := by omega
      by_cases hkl : k < n
      · obtain ⟨x, hx⟩ : ∃ x, L[k]? = some x := ⟨_, List.getElem?_eq_getElem (by omega)⟩
        have hst : ltB x s = false := by rw [hke] at hx; exact cnt_stop hx
        have t1 : decide (k < n) = true := decide_eq_true (by omega)
        have t1' : decide ((k : Int) < (n : Int)) = true := decide_eq_true (by omega)
        have t2 : Op.bytesLess x.toList s.toList = false := hst
        have hc := HG.out.cell (HCell.out k x hx)
        have i0 : (0 : Int) ≤ (k : Int) := by omega
        have i1 : (k : Int) < (n : Int) := by omega
        by_cases hxs : x = s
        · have t3 : (x.toList == s.toList) = true := by rw [beq_str]; exact decide_eq_true hxs
          have HR : Hid (addL L s = L) := Lib.hid (by unfold addL; rw [← hke, hx, if_pos (by rw [hxs])])
          clear hst hke hx hcl hlt hkl hxs
          go_wp2_with fail
          go_ret
          exact ⟨_, rfl, by rw [HR.out]; exact HV.out.gr HG.out, HG.out⟩
        · have t3 : (x.toList == s.toList) = false := by rw [beq_str]; exact decide_eq_false hxs
          have HAd : Hid (addL L s = L.take k ++ s :: L.drop k) := Lib.hid (by unfold addL; rw [← hke, hx, if_neg (by simpa using hxs)])
          obtain ⟨hTk, o1, hDr, ho1⟩ := HCut.out k (by omega)
          have HTk := Lib.hid hTk
          have HDr := Lib.hid hDr
          have HO1x := Lib.hid ho1
          have i2 : (k : Int) ≤ (c : Int) := by omega
          have i3 : (k : Int) ≤ (n : Int) := by omega
          have i4 : (n : Int) ≤ (c : Int) := by omega
          clear hst hTk hDr ho1 HCut HCell HV hx hke hcl hlt
          have HNil : Hid (OwnL w.heap.size [] (.slice none 0 0) wr) := Lib.hid (Own.nil _ _ _)
          have HTw := Lib.hid (HTk.out.gr HG.out)
          go_wp2_with ((with_reducible show wpList _ _ _ (⟨some 38, _, _, _, _, _⟩ :: _) _ _); refine append_strs rfl (.tmp 34) (.tmp 37) rfl rfl HNil.out rfl HTw.out ?b1 HG.out.size ?_)
          case b1 => rw [List.length_take]; simp; omega
          intro v1 w1 hown hchg
          have hg1 : Gr w w1 := gr_step HG.out (Gr.refl _) hchg (fun g e => by cases e)
          try rw [List.nil_append] at hown
          have HO1 := Lib.hid hown
          have HG1 := Lib.hid hg1
          clear hown hchg hg1 HTk HG HNil HTw
          go_wp2_with ((with_reducible show wpList _ _ _ (⟨some 42, _, _, _, _, _⟩ :: _) _ _); refine append_strs (L := L.take k) (M := [s]) rfl (.tmp 39) (.tmp 41) rfl rfl (HO1.out.gr (Gr.alloc _ _)) rfl (strs_new w1 [s] (by rw [List.length_singleton]; unfold maxLen; omega)).strs ?b1 (HG1.out.trans (Gr.alloc _ _)).size ?_)
          case b1 => rw [List.length_take, List.length_singleton]; omega
          intro v2 w2 hown hchg
          have hg2 : Gr w w2 := gr_step (HG1.out.trans (Gr.alloc _ _)) (Gr.refl _) hchg (fun g e => Own.ge HO1.out e)
          obtain ⟨L2, hL2⟩ : ∃ z, L.take k ++ [s] = z := ⟨_, rfl⟩
          have hl2 : L2.length = k + 1 := by rw [← hL2, List.length_append, List.length_take, List.length_singleton]; omega
          have HL2 := Lib.hid hl2
          rw [hL2] at hown
          have HR : Hid (addL L s = L2 ++ L.drop k) := Lib.hid (by rw [HAd.out, ← hL2]; simp)
          have HO2 := Lib.hid hown
          have HG2 := Lib.hid hg2
          clear hown hchg hg2 HO1 HG1 hL2 HAd hl2
          rcases HO1x.out with ⟨e1, e2⟩ | ⟨e1, e2⟩
          · exfalso; omega
          · rw [e2] at HDr
            clear e2 HO1x
            go_wp2_with ((with_reducible show wpList _ _ _ (⟨some 47, _, _, _, _, _⟩ :: _) _ _); refine append_strs (L := L2) (M := L.drop k) rfl (.tmp 43) (.tmp 46) rfl rfl HO2.out rfl (HDr.out.gr HG2.out) ?b1 HG2.out.size ?_)
            case b1 => rw [List.length_drop, HL2.out]; omega
            intro v3 w3 hown hchg
            have HG3 := Lib.hid (gr_step HG2.out (Gr.refl _) hchg (fun g e => Own.ge HO2.out e))
            have HO3 := Lib.hid hown.strs
            clear hown hchg HO2 HG2 HDr
            go_wp2_with fail
            go_ret
            exact ⟨_, rfl, by rw [HR.out]; exact HO3.out, HG3.out⟩
      · have t1 : decide (k < n) = false := decide_eq_false (by omega)
        have t1' : decide ((k : Int) < (n : Int)) = false := decide_eq_false (by omega)
        have HAd : Hid (addL L s = L.take k ++ s :: L.drop k) := Lib.hid (by unfold addL; rw [← hke, if_neg (by rw [List.getElem?_eq_none (by omega)]; simp)])
        obtain ⟨hTk, o1, hDr, ho1⟩ := HCut.out k (by omega)
        have HTk := Lib.hid hTk
        have HDr := Lib.hid hDr
        have HO1x := Lib.hid ho1
        have i0 : (0 : Int) ≤ (k : Int) := by omega
        have i2 : (k : Int) ≤ (c : Int) := by omega
        have i3 : (k : Int) ≤ (n : Int) := by omega
        have i4 : (n : Int) ≤ (c : Int) := by omega
        clear hTk hDr ho1 HCut HCell HV hke hcl hlt
        obtain rfl : k = n := by omega
        have HNil : Hid (OwnL w.heap.size [] (.slice none 0 0) wr) := Lib.hid (Own.nil _ _ _)
        have HTw := Lib.hid (HTk.out.gr HG.out)
        go_wp2_with ((with_reducible show wpList _ _ _ (⟨some 38, _, _, _, _, _⟩ :: _) _ _); refine append_strs rfl (.tmp 34) (.tmp 37) rfl rfl HNil.out rfl HTw.out ?b1 HG.out.size ?_)
        case b1 => rw [List.length_take]; simp; omega
        intro v1 w1 hown hchg
        have hg1 : Gr w w1 := gr_step HG.out (Gr.refl _) hchg (fun g e => by cases e)
        try rw [List.nil_append] at hown
        have HO1 := Lib.hid hown
        have HG1 := Lib.hid hg1
        clear hown hchg hg1 HTk HG HNil HTw
        go_wp2_with ((with_reducible show wpList _ _ _ (⟨some 42, _, _, _, _, _⟩ :: _) _ _); refine append_strs (L := L.take k) (M := [s]) rfl (.tmp 39) (.tmp 41) rfl rfl (HO1.out.gr (Gr.alloc _ _)) rfl (strs_new w1 [s] (by rw [List.length_singleton]; unfold maxLen; omega)).strs ?b1 (HG1.out.trans (Gr.alloc _ _)).size ?_)
        case b1 => rw [List.length_take, List.length_singleton]; omega
        intro v2 w2 hown hchg
        have hg2 : Gr w w2 := gr_step (HG1.out.trans (Gr.alloc _ _)) (Gr.refl _) hchg (fun g e => Own.ge HO1.out e)
        obtain ⟨L2, hL2⟩ : ∃ z, L.take k ++ [s] = z := ⟨_, rfl⟩
        have hl2 : L2.length = k + 1 := by rw [← hL2, List.length_append, List.length_take, List.length_singleton]; omega
        have HL2 := Lib.hid hl2
        rw [hL2] at hown
        have HR : Hid (addL L s = L2 ++ L.drop k) := Lib.hid (by rw [HAd.out, ← hL2]; simp)
        have HO2 := Lib.hid hown
        have HG2 := Lib.hid hg2
        clear hown hchg hg2 HO1 HG1 hL2 HAd hl2
        rcases HO1x.out with ⟨e1, e2⟩ | ⟨e1, e2⟩
        · rw [e2, e1] at HDr
          subst e1
          clear e2 HO1x
          rw [Nat.sub_self] at HDr
          go_wp2_with ((with_reducible show wpList _ _ _ (⟨some 47, _, _, _, _, _⟩ :: _) _ _); refine append_strs (L := L2) (M := L.drop c) rfl (.tmp 43) (.tmp 46) rfl rfl HO2.out rfl (HDr.out.gr HG2.out) ?b1 HG2.out.size ?_)
          case b1 => rw [List.length_drop, HL2.out]; omega
          intro v3 w3 hown hchg
          have HG3 := Lib.hid (gr_step HG2.out (Gr.refl _) hchg (fun g e => Own.ge HO2.out e))
          have HO3 := Lib.hid hown.strs
          clear hown hchg HO2 HG2 HDr
          go_wp2_with fail
          go_ret
          exact ⟨_, rfl, by rw [HR.out]; exact HO3.out, HG3.out⟩
        · rw [e2, Nat.sub_self] at HDr
          clear e2 HO1x
          go_wp2_with ((with_reducible show wpList _ _ _ (⟨some 47, _, _, _, _, _⟩ :: _) _ _); refine append_strs (L := L2) (M := L.drop k) rfl (.tmp 43) (.tmp 46) rfl rfl HO2.out rfl (HDr.out.gr HG2.out) ?b1 HG2.out.size ?_)
          case b1 => rw [List.length_drop, HL2.out]; omega
          intro v3 w3 hown hchg
          have HG3 := Lib.hid (gr_step HG2.out (Gr.refl _) hchg (fun g e => Own.ge HO2.out e))
          have HO3 := Lib.hid hown.strs
          clear hown hchg HO2 HG2 HDr
          go_wp2_with fail
          go_ret
          exact ⟨_, rfl, by rw [HR.out]; exact HO3.out, HG3.out⟩
set_option maxRecDepth 100000 in
set_option maxHeartbeats 2000000 in
theorem addR_nil (s : ByteArray) (w : World) :
    Calls Tryz.prog 61 #[.slice none 0 0, .string s] w fun e w' => ∃ u, e = .returned u ∧ StrsAt u [s] w' ∧ Gr w w' := by
  go_enter Tryz.func61, Tryz.ntmps61
  go_wp2_with fail
  go_loopw [5] (fun v5 W => v5 = .int .i64 0 ∧ Hid (Gr w W)) (fun _ _ => 0)
  case atStart => exact ⟨rfl, Lib.hid (Gr.refl _)⟩
  case round =>
    obtain ⟨rfl, HG⟩ := hrel
    have HNil : Hid (OwnL w.heap.size [] (.slice none 0 0) wr) := Lib.hid (Own.nil _ _ _)
    have HTw : Hid (StrsAt (.slice none 0 0) [] wr) := Lib.hid (.inl ⟨rfl, rfl⟩)
    go_wp2_with ((with_reducible show wpList _ _ _ (⟨some 38, _, _, _, _, _⟩ :: _) _ _); refine append_strs rfl (.tmp 34) (.tmp 37) rfl rfl HNil.out rfl HTw.out ?b1 HG.out.size ?_)
    case b1 => simp
    intro v1 w1 hown hchg
    have HG1 := Lib.hid (gr_step HG.out (Gr.refl _) hchg (fun g e => by cases e))
    have HO1 : Hid (OwnL w.heap.size [] v1 w1) := Lib.hid hown
    clear hown hchg HNil HTw HG
    go_wp2_with ((with_reducible show wpList _ _ _ (⟨some 42, _, _, _, _, _⟩ :: _) _ _); refine append_strs (L := []) (M := [s]) rfl (.tmp 39) (.tmp 41) rfl rfl (HO1.out.gr (Gr.alloc _ _)) rfl (strs_new w1 [s] (by rw [List.length_singleton]; unfold maxLen; omega)).strs ?b1 (HG1.out.trans (Gr.alloc _ _)).size ?_)
    case b1 => simp
    intro v2 w2 hown hchg
    have HG2 := Lib.hid (gr_step (HG1.out.trans (Gr.alloc _ _)) (Gr.refl _) hchg (fun g e => Own.ge HO1.out e))
    have HO2 : Hid (OwnL w.heap.size [s] v2 w2) := Lib.hid hown
    have HTw2 : Hid (StrsAt (.slice none 0 0) [] w2) := Lib.hid (.inl ⟨rfl, rfl⟩)
    clear hown hchg HO1 HG1
    go_wp2_with ((with_reducible show wpList _ _ _ (⟨some 47, _, _, _, _, _⟩ :: _) _ _); refine append_strs (L := [s]) (M := []) rfl (.tmp 43) (.tmp 46) rfl rfl HO2.out rfl HTw2.out ?b1 HG2.out.size ?_)
    case b1 => simp
    intro v3 w3 hown hchg
    have HG3 := Lib.hid (gr_step HG2.out (Gr.refl _) hchg (fun g e => Own.ge HO2.out e))
    have HO3 : Hid (OwnL w.heap.size [s] v3 w3) := Lib.hid hown
    clear hown hchg HO2 HG2 HTw2
    go_wp2_with fail
    go_ret
    exact ⟨_, rfl, HO3.out.strs, HG3.out⟩
theorem addR_any (v : Value) (L : List ByteArray) (s : ByteArray) (w : World) (hv : StrsAt v L w) (hl : L.length ≤ 999998) :
    Calls Tryz.prog 61 #[v, .string s] w fun e w' => ∃ u, e = .returned u ∧ StrsAt u (addL L s) w' ∧ Gr w w' := by
  rcases hv with ⟨rfl, rfl⟩ | ⟨g, off, cap, rfl, h1, h2, h3⟩
  · exact addR_nil s w
  · exact addR_core g off L.length cap L s w (.inr ⟨g, off, cap, rfl, h1, h2, h3⟩) rfl hl
end
section
open Go Go.RowKit Go.Shelf
attribute [local go_sem] gAt gUpon
attribute [local simp] Gr.refl Gr.alloc

theorem given_first : ∀ {Z : List (ByteArray × ByteArray)} {k : Nat} {p t : ByteArray}, Z[k]? = some (p, t) → (∀ j z, j < k → Z[j]? = some z → z.1 ≠ p) → givenD Z p = some t := by
  intro Z
  induction Z with
  | nil => intro k p t h; cases h
  | cons z Z ih =>
    intro k p t h hn
    unfold givenD
    rw [List.find?_cons]
    cases k with
    | zero =>
      obtain rfl := Option.some.inj h
      simp
    | succ k =>
      have h0 := hn 0 z (by omega) rfl
      rw [decide_eq_false h0]
      exact ih (by simpa using h) (fun j y hj hy => hn (j + 1) y (by omega) (by simpa using hy))
/-- the answer behind the first i entries -/
def fA (Z : List (ByteArray × ByteArray)) (l : List En) (i : Nat) : List ByteArray := (l.take i).foldl (fun out x => if badE Z x then addL out x.path else out) []
theorem fA_step {Z : List (ByteArray × ByteArray)} {l : List En} {i : Nat} {x : En} (h : l[i]? = some x) : fA Z l (i + 1) = if badE Z x then addL (fA Z l i) x.path else fA Z l i := by
  unfold fA
  rw [List.take_add_one, h, List.foldl_append]; rfl
def knowD (l : List En) (p : ByteArray) : Bool := l.any fun x => decide (x.path = p)
/-- the answer behind the first j paths -/
def fB (Z : List (ByteArray × ByteArray)) (l : List En) (j : Nat) : List ByteArray := ((Z.map (·.1)).take j).foldl (fun out p => if knowD l p then out else addL out p) (fA Z l l.length)
theorem fB_step {Z : List (ByteArray × ByteArray)} {l : List En} {j : Nat} {p t : ByteArray} (h : Z[j]? = some (p, t)) : fB Z l (j + 1) = if knowD l p then fB Z l j else addL (fB Z l j) p := by
  unfold fB
  rw [List.take_add_one, List.getElem?_map, h, List.foldl_append]; rfl
theorem fB_end {id ver : Int} {Z : List (ByteArray × ByteArray)} {l : List En} (hB : validD id ver l = true) : checkD id ver l Z = fB Z l Z.length := by
  unfold checkD fB chkD fA knowD
  rw [if_pos hB, List.take_of_length_le (l := l) (Nat.le_refl _), List.take_of_length_le (l := Z.map (·.1)) (by rw [List.length_map]; exact Nat.le_refl _)]
theorem fA_len (Z : List (ByteArray × ByteArray)) (l : List En) (i : Nat) : (fA Z l i).length ≤ l.length := by
  have : ∀ (L : List En) (out : List ByteArray), (L.foldl (fun out x => if badE Z x then addL out x.path else out) out).length ≤ out.length + L.length := by
    intro L
    induction L with
    | nil => intro out; simp
    | cons x L ih =>
      intro out
      rw [List.foldl_cons, List.length_cons]
      refine Nat.le_trans (ih _) ?_
      have h1 : (addL out x.path).length ≤ out.length + 1 := by
        unfold addL
        split
        · omega
        · simp only [List.length_append, List.length_take, List.length_cons, List.length_drop]; omega
      split <;> omega
  have h := this (l.take i) []
  unfold fA
  rw [List.length_take] at h
  simp only [List.length_nil] at h
  omega
theorem fB_len (Z : List (ByteArray × ByteArray)) (l : List En) (j : Nat) : (fB Z l j).length ≤ l.length + Z.length := by
  have : ∀ (L : List ByteArray) (out : List ByteArray), (L.foldl (fun out p => if knowD l p then out else addL out p) out).length ≤ out.length + L.length := by
    intro L
    induction L with
    | nil => intro out; simp
    | cons x L ih =>
      intro out
      rw [List.foldl_cons, List.length_cons]
      refine Nat.le_trans (ih _) ?_
      have h1 : (addL out x).length ≤ out.length + 1 := by
        unfold addL
        split
        · omega
        · simp only [List.length_append, List.length_take, List.length_cons, List.length_drop]; omega
      split <;> omega
  have h := this ((Z.map (·.1)).take j) (fA Z l l.length)
  have h2 := fA_len Z l l.length
  unfold fB
  rw [List.length_take, List.length_map] at h
  omega
theorem zip_at {A B : List ByteArray} {k : Nat} (h : k < (A.zip B).length) : ∃ p t, (A.zip B)[k]? = some (p, t) ∧ A[k]? = some p ∧ B[k]? = some t := by
  obtain ⟨p, t⟩ := (A.zip B)[k]'h
  have hz : (A.zip B)[k]? = some ((A.zip B)[k]'h) := List.getElem?_eq_getElem h
  have := List.getElem?_zip_eq_some.1 hz
  exact ⟨_, _, hz, this.1, this.2⟩
set_option maxRecDepth 100000 in
set_option maxHeartbeats 4000000 in
theorem checkR_any (id ver : Int) (v vp vs : Value) (l : List En) (ps ss : List ByteArray) (w : World) (hv : Rws 4 enC v l w) (hp : StrsAt vp ps w) (hs : StrsAt vs ss w) (hl : l.length ≤ 1000) (hlp : ps.length ≤ 10000)
    (hpl : ∀ x ∈ l, x.path.size ≤ 9223372036854775807) (hss : ∀ x ∈ ss, x.size ≤ 140737488354000) :
    Calls Tryz.prog 31 #[.agg #[.int .i64 id, .int .i64 ver, v], vp, vs] w fun e w' => ∃ u, e = .returned u ∧ StrsAt u (checkD id ver l (ps.zip ss)) w' ∧ Gr w w' := by
  obtain ⟨pv, cv, rfl⟩ := hv.shape
  obtain ⟨pp, cp, rfl⟩ := hp.shape
  obtain ⟨pq, cs, rfl⟩ := hs.shape
  obtain ⟨B, hB⟩ : ∃ B, validD id ver l = B := ⟨_, rfl⟩
  have HVa := Lib.hid (fun (y : World) (hg : Gr w y) => validR_any id ver _ l y (hv.gr hg) (by omega) hpl)
  rw [hB] at HVa
  have HB := Lib.hid hB
  have HV := Lib.hid (And.intro hv (And.intro hp hs))
  have HSs := Lib.hid hss
  obtain ⟨Z, hZ⟩ : ∃ Z, ps.zip ss = Z := ⟨_, rfl⟩
  rw [hZ]
  obtain ⟨m, hm⟩ : ∃ m, Z.length = m := ⟨_, rfl⟩
  have hmm : min (ps.length : Int) (ss.length : Int) = (m : Int) := by rw [← hm, ← hZ, List.length_zip]; omega
  have hm1 : m ≤ ps.length ∧ m ≤ ss.length := by rw [← hm, ← hZ, List.length_zip]; omega
  have HZ := Lib.hid (And.intro hZ hm)
  clear hv hp hs hB hss hpl hZ hm
  go_enter Tryz.func31, Tryz.ntmps31
  go_upto_region 1 with fail
  obtain ⟨bx, hbx⟩ : ∃ z, w.heap.size = z := ⟨_, rfl⟩
  have hrow := heap_alloc_new w (.cells #[.int .i64 id, .int .i64 ver, .slice pv l.length cv] 24)
  rw [hbx] at hrow
  simp only [hbx]
  have HG0 := Lib.hid (Gr.alloc w (.cells #[.int .i64 id, .int .i64 ver, .slice pv l.length cv] 24))
  have HR0 := Lib.hid hrow
  clear hrow hbx
  generalize w.alloc (.cells #[.int .i64 id, .int .i64 ver, .slice pv l.length cv] 24) = w0 at *
  obtain ⟨k0, k1, k2⟩ := row3 HR0.out
  go_wp2_with fail
  clear k0 k1 k2
  refine (HVa.out w0 HG0.out).mono ?_
  rintro e w1 ⟨rfl, hg1⟩
  have HG1 := Lib.hid (HG0.out.trans hg1)
  have HR1 := Lib.hid (hg1.block HR0.out)
  clear hg1 HG0 HR0 HVa
  cases B with
  | false =>
    go_wp2_with fail
    go_ret
    exact ⟨_, rfl, by unfold checkD; rw [HB.out]; exact .inl ⟨rfl, rfl⟩, HG1.out⟩
  | true =>
  have HEnd := Lib.hid (fB_end (Z := Z) HB.out)
  rw [HZ.out.2] at HEnd
  clear HB
  obtain ⟨n, hn⟩ : ∃ n, l.length = n := ⟨_, rfl⟩
  rw [hn] at HR1 hl HV ⊢
  have Hn := Lib.hid hn
  clear hn
  go_wp2_with fail
  go_loopw [8, 9, 10, 11, 12] (fun v8 v9 _ _ _ W => ∃ (i : Nat) (u : Value), i ≤ n ∧ u = v8 ∧ v9 = .int .i64 (i : Int) ∧ Hid (StrsAt u (fA Z l i) W) ∧ Hid (Gr w1 W)) (fun _ v9 _ _ _ _ => n - (intOf v9).toNat)
  case atStart => exact ⟨0, _, by omega, rfl, rfl, Lib.hid (.inl ⟨rfl, rfl⟩), Lib.hid (Gr.refl _)⟩
  case round =>
    obtain ⟨i, u, hi, rfl, rfl, HO, HG⟩ := hrel
    by_cases hlt : i < n
    · have ht : decide (i < n) = true := decide_eq_true hlt
      have ht' : decide ((i : Int) < (n : Int)) = true := decide_eq_true (by omega)
      obtain ⟨x, hx⟩ : ∃ x, l[i]? = some x := ⟨_, List.getElem?_eq_getElem (by rw [Hn.out]; exact hlt)⟩
      obtain ⟨ge, oe, rfl, hce⟩ := (HV.out.1.gr (HG1.out.trans HG.out)).at2 Hn.out hx
      have e0 : wr.cell? ⟨ge, oe + i * 4, none⟩ = some (.string x.path) := hce 0 _ rfl
      have e1 : wr.cell? ⟨ge, oe + i * 4 + 1, none⟩ = some (.int .i64 x.fmt) := hce 1 _ rfl
      have e2 : wr.cell? ⟨ge, oe + i * 4 + 2, none⟩ = some (.int .i64 x.len) := hce 2 _ rfl
      have e3 : wr.cell? ⟨ge, oe + i * 4 + 3, none⟩ = some (.string x.dig) := hce 3 _ rfl
      have HSt := Lib.hid (fA_step (Z := Z) hx)
      have hol : (fA Z l i).length ≤ 1000 := by have := fA_len Z l i; rw [Hn.out] at this; omega
      obtain ⟨xp, xf, xl, xd⟩ := x
      simp only at e0 e1 e2 e3
      have i0 : (0 : Int) ≤ (i : Int) := by omega
      have i1 : (i : Int) < (n : Int) := by omega
      obtain ⟨k0, k1, k2⟩ := row3 (HG.out.block HR1.out)
      clear hx hce
      go_upto_region 9 with fail
      clear k0 k1 k2 e0 e1 e2 e3
      obtain ⟨bn, hbn⟩ : ∃ z, wr.heap.size = z := ⟨_, rfl⟩
      have hrow := heap_alloc_new wr (.cells #[.string xp, .int .i64 xf, .int .i64 xl, .string xd] 28)
      rw [hbn] at hrow
      simp only [hbn]
      have hga := Gr.alloc wr (.cells #[.string xp, .int .i64 xf, .int .i64 xl, .string xd] 28)
      have HX := Lib.hid hrow
      have HGa := Lib.hid (HG.out.trans hga)
      have HOa := Lib.hid (HO.out.gr hga)
      clear hrow hga hbn HO HG
      generalize wr.alloc (.cells #[.string xp, .int .i64 xf, .int .i64 xl, .string xd] 28) = wa at HX HGa HOa ⊢
      go_wp2_with fail
      go_loopw [8, 11, 12] (fun v8 v11 v12 W => ∃ (k : Nat) (F : Bool) (u : Value), k ≤ m ∧ u = v8 ∧ v11 = .bool F ∧ v12 = .int .i64 (k : Int) ∧ Hid (Gr wa W) ∧ Hid (StrsAt u (if F then fA Z l (i + 1) else fA Z l i) W) ∧ Hid (F = false → ∀ j z, j < k → Z[j]? = some z → z.1 ≠ xp)) (fun _ _ v12 _ => m - (intOf v12).toNat)
      case atStart => exact ⟨0, false, _, by omega, rfl, rfl, rfl, Lib.hid (Gr.refl _), HOa, Lib.hid (fun _ j z h => absurd h (Nat.not_lt_zero _))⟩
      clear HOa
      case round =>
        obtain ⟨k, F, u9, hk, rfl, rfl, rfl, HGw, HOw, HNo⟩ := hrel
        obtain ⟨wo, hwo⟩ : ∃ z, z = wr := ⟨_, rfl⟩
        subst hwo
        cases F with
        | true =>
          have HO9 : Hid (StrsAt u9 (fA Z l (i + 1)) wo) := Lib.hid HOw.out
          have HG9 := Lib.hid (HGa.out.trans HGw.out)
          clear HOw HGw HNo HX HGa
          by_cases hkm : k < m
          · have t1 : decide (k < m) = true := decide_eq_true hkm
            have t1' : decide ((k : Int) < (m : Int)) = true := decide_eq_true (by omega)
            go_wp2_with fail
            go_roundw
            case rel => exact ⟨i + 1, _, by omega, rfl, by go_num, HO9, HG9⟩
            case measure => simp [intOf]; omega
          · have t1 : decide (k < m) = false := decide_eq_false hkm
            have t1' : decide ((k : Int) < (m : Int)) = false := decide_eq_false (by omega)
            go_wp2_with fail
            go_roundw
            case rel => exact ⟨i + 1, _, by omega, rfl, by go_num, HO9, HG9⟩
            case measure => simp [intOf]; omega
        | false =>
          have HO9 : Hid (StrsAt u9 (fA Z l i) wo) := Lib.hid HOw.out
          clear HOw
          by_cases hkm : k < m
          · have t1 : decide (k < m) = true := decide_eq_true hkm
            have t1' : decide ((k : Int) < (m : Int)) = true := decide_eq_true (by omega)
            obtain ⟨p, t, hz, hpk, htk⟩ : ∃ p t, Z[k]? = some (p, t) ∧ ps[k]? = some p ∧ ss[k]? = some t := by
              have := zip_at (A := ps) (B := ss) (k := k) (by rw [HZ.out.1, HZ.out.2]; exact hkm)
              rw [HZ.out.1] at this; exact this
            have hts := HSs.out t (List.mem_of_getElem? htk)
            obtain ⟨gp, op, rfl, hcp⟩ := (HV.out.2.1.gr ((HG1.out.trans HGa.out).trans HGw.out)).at2 hpk
            obtain ⟨gs, os, rfl, hcs⟩ := (HV.out.2.2.gr ((HG1.out.trans HGa.out).trans HGw.out)).at2 htk
            have HZk := Lib.hid hz
            have HXw := Lib.hid (HGw.out.block HX.out)
            have Hcs := Lib.hid hcs
            clear hpk htk hz
            have i2 : (0 : Int) ≤ (k : Int) := by omega
            have i3 : (k : Int) < (ps.length : Int) := by omega
            have i4 : (k : Int) < (ss.length : Int) := by omega
            have C0 : ∀ q : GrS wo.drew, q.w.cell? ⟨gp, op + k, none⟩ = some (.string p) := fun q => q.h.cell (w := wo.drew) hcp
            have C1 : ∀ q : GrS wo.drew, q.w.cell? ⟨bn, 0, none⟩ = some (.string xp) := fun q => q.h.cell (w := wo.drew) (row4 HXw.out).1
            clear hcp hcs
            by_cases hpx : p = xp
            · have t2 : (p.toList == xp.toList) = true := by rw [beq_str]; exact decide_eq_true hpx
              have HGi := Lib.hid (given_first (Z := Z) (k := k) (p := xp) (t := t) (by rw [HZk.out, hpx]) (HNo.out rfl))
              clear hpx
              go_upto_region 13 with fail
              refine region_grow 7 115 (by kernel_rfl) rfl (by kernel_rfl) rfl rfl ?_
              simp only [List.take_succ_cons, List.take_zero, List.drop_succ_cons, List.drop_zero]
              refine seg 7 rfl rfl rfl rfl ?_
              simp only [List.take_succ_cons, List.take_zero, List.drop_succ_cons, List.drop_zero]
              repeat (go_big_quiet_step (fail))
              refine wpQuiet_nil ?_
              intro _
              refine grow_end0 rfl rfl ?_
              intro wb hG
              have hgb := (Gr.drew wo).trans hG
              have HGb := Lib.hid (HGw.out.trans hgb)
              have HOb := Lib.hid (HO9.out.gr hgb)
              have HXb := Lib.hid (hgb.block HXw.out)
              have Hcb := Lib.hid (hgb.cell Hcs.out)
              clear hG hgb C0 C1 HGw HO9 HXw Hcs HNo
              obtain ⟨BE, hBE⟩ : ∃ z, badE Z ⟨xp, xf, xl, xd⟩ = z := ⟨_, rfl⟩
              have hBd : BE = !(decide ((t.size : Int) = xl) && decide (sha t = xd)) := by rw [← hBE]; unfold badE; simp only; rw [HGi.out]
              rw [hBE] at HSt
              have D0 : ∀ q : GrS wb.drew, q.w.cell? ⟨gs, os + k, none⟩ = some (.string t) := fun q => q.h.cell (w := wb.drew) Hcb.out
              have D1 : ∀ q : GrS wb.drew, q.w.cell? ⟨bn, 2, none⟩ = some (.int .i64 xl) := fun q => q.h.cell (w := wb.drew) (row4 HXb.out).2.2.1
              have D2 : ∀ q : GrS wb.drew, q.w.cell? ⟨bn, 3, none⟩ = some (.string xd) := fun q => q.h.cell (w := wb.drew) (row4 HXb.out).2.2.2
              have HSm : Hid (∀ y, _) := Lib.hid (fun y => sumR_any t y hts)
              obtain ⟨ht9, hht⟩ : ∃ z, sha t = z := ⟨_, rfl⟩
              rw [hht] at HSm hBd
              clear hht hBE HGi
              by_cases hsz : (t.size : Int) = xl
              · have t3 : ((t.size : Int) != xl) = false := by rw [hsz]; simp
                by_cases hsh : ht9 = xd
                · have t4 : (ht9.toList == xd.toList) = true := by rw [beq_str, decide_eq_true hsh]
                  obtain rfl : BE = false := by rw [hBd, decide_eq_true hsz, decide_eq_true hsh]; rfl
                  clear hBd hsz hsh
                  go_upto_region 15 with fail
                  refine region_grow 18 115 (by kernel_rfl) rfl (by kernel_rfl) rfl rfl ?_
                  simp only [List.take_succ_cons, List.take_zero, List.drop_succ_cons, List.drop_zero]
                  refine seg 13 rfl rfl rfl rfl ?_
                  simp only [List.take_succ_cons, List.take_zero, List.drop_succ_cons, List.drop_zero]
                  repeat (go_big_quiet_step (fail))
                  refine wpQuiet_nil ?_
                  intro _
                  refine grow_det (v := .string ht9) rfl rfl rfl rfl rfl ?_ ?_
                  · intro w1 hG
                    go_simp
                    refine (HSm.out w1).mono ?_
                    rintro e w' ⟨rfl, hb⟩
                    exact ⟨rfl, hb⟩
                  simp only [Act.put, List.setIfInBounds_toArray, List.set_cons_zero, List.set_cons_succ]
                  refine seg 4 rfl rfl rfl rfl ?_
                  simp only [List.take_succ_cons, List.take_zero, List.drop_succ_cons, List.drop_zero]
                  repeat (go_big_quiet_step (fail))
                  refine wpQuiet_nil ?_
                  intro _
                  refine grow_end0 rfl rfl ?_
                  intro wd hG
                  have hgd := (Gr.drew wb).trans hG
                  have HGd := Lib.hid (HGb.out.trans hgd)
                  have HOd : Hid (StrsAt u9 (if true = true then fA Z l (i + 1) else fA Z l i) wd) := Lib.hid (by
                    have e : fA Z l (i + 1) = fA Z l i := by rw [HSt.out]; rfl
                    show StrsAt u9 (fA Z l (i + 1)) wd
                    rw [e]; exact HOb.out.gr hgd)
                  clear hG hgd D0 D1 D2 HGb HOb HXb Hcb HSm HSt
                  go_wp2_with fail
                  go_roundw
                  case rel => exact ⟨k + 1, true, _, by omega, rfl, rfl, by go_num, HGd, HOd, Lib.hid (fun h => by cases h)⟩
                  case measure => simp [intOf]; omega
                · have t4 : (ht9.toList == xd.toList) = false := by rw [beq_str, decide_eq_false hsh]
                  obtain rfl : BE = true := by rw [hBd, decide_eq_false hsh]; simp
                  clear hBd hsz hsh
                  go_upto_region 15 with fail
                  refine region_grow 18 115 (by kernel_rfl) rfl (by kernel_rfl) rfl rfl ?_
                  simp only [List.take_succ_cons, List.take_zero, List.drop_succ_cons, List.drop_zero]
                  refine seg 13 rfl rfl rfl rfl ?_
                  simp only [List.take_succ_cons, List.take_zero, List.drop_succ_cons, List.drop_zero]
                  repeat (go_big_quiet_step (fail))
                  refine wpQuiet_nil ?_
                  intro _
                  refine grow_det (v := .string ht9) rfl rfl rfl rfl rfl ?_ ?_
                  · intro w1 hG
                    go_simp
                    refine (HSm.out w1).mono ?_
                    rintro e w' ⟨rfl, hb⟩
                    exact ⟨rfl, hb⟩
                  simp only [Act.put, List.setIfInBounds_toArray, List.set_cons_zero, List.set_cons_succ]
                  refine seg 4 rfl rfl rfl rfl ?_
                  simp only [List.take_succ_cons, List.take_zero, List.drop_succ_cons, List.drop_zero]
                  repeat (go_big_quiet_step (fail))
                  refine wpQuiet_nil ?_
                  intro _
                  refine grow_end0 rfl rfl ?_
                  intro wd hG
                  have hgd := (Gr.drew wb).trans hG
                  have HGd := Lib.hid (HGb.out.trans hgd)
                  have HAd := Lib.hid (addR_any u9 (fA Z l i) xp wd (HOb.out.gr hgd) (by omega))
                  have HXd := Lib.hid (hgd.block HXb.out)
                  clear hG hgd D0 D1 D2 HGb HOb HXb Hcb HSm
                  obtain ⟨q0, q1, q2, q3⟩ := row4 HXd.out
                  go_wp2_with fail
                  clear q0 q1 q2 q3
                  refine HAd.out.mono ?_
                  rintro e wz ⟨u8, rfl, ho, hg⟩
                  have HO8 : Hid (StrsAt u8 (if true = true then fA Z l (i + 1) else fA Z l i) wz) := Lib.hid (by
                    show StrsAt u8 (fA Z l (i + 1)) wz
                    rw [HSt.out]; exact ho)
                  have HG8 := Lib.hid (HGd.out.trans hg)
                  clear ho hg HAd HSt HGd HXd
                  go_wp2_with fail
                  go_roundw
                  case rel => exact ⟨k + 1, true, _, by omega, rfl, rfl, by go_num, HG8, HO8, Lib.hid (fun h => by cases h)⟩
                  case measure => simp [intOf]; omega
              · have t3 : ((t.size : Int) != xl) = true := by rw [bne_iff_ne]; exact hsz
                obtain rfl : BE = true := by rw [hBd, decide_eq_false hsz]; simp
                clear hBd hsz
                go_upto_region 15 with fail
                refine region_grow 18 115 (by kernel_rfl) rfl (by kernel_rfl) rfl rfl ?_
                simp only [List.take_succ_cons, List.take_zero, List.drop_succ_cons, List.drop_zero]
                refine seg 13 rfl rfl rfl rfl ?_
                simp only [List.take_succ_cons, List.take_zero, List.drop_succ_cons, List.drop_zero]
                repeat (go_big_quiet_step (fail))
                refine wpQuiet_nil ?_
                intro _
                refine grow_skip rfl rfl rfl rfl ?_
                simp only [Act.put, List.setIfInBounds_toArray, List.set_cons_zero, List.set_cons_succ]
                refine seg 4 rfl rfl rfl rfl ?_
                simp only [List.take_succ_cons, List.take_zero, List.drop_succ_cons, List.drop_zero]
                repeat (go_big_quiet_step (fail))
                refine wpQuiet_nil ?_
                intro _
                refine grow_end0 rfl rfl ?_
                intro wd hG
                have hgd := (Gr.drew wb).trans hG
                have HGd := Lib.hid (HGb.out.trans hgd)
                have HAd := Lib.hid (addR_any u9 (fA Z l i) xp wd (HOb.out.gr hgd) (by omega))
                have HXd := Lib.hid (hgd.block HXb.out)
                clear hG hgd D0 D1 D2 HGb HOb HXb Hcb HSm
                obtain ⟨q0, q1, q2, q3⟩ := row4 HXd.out
                go_wp2_with fail
                clear q0 q1 q2 q3
                refine HAd.out.mono ?_
                rintro e wz ⟨u8, rfl, ho, hg⟩
                have HO8 : Hid (StrsAt u8 (if true = true then fA Z l (i + 1) else fA Z l i) wz) := Lib.hid (by
                  show StrsAt u8 (fA Z l (i + 1)) wz
                  rw [HSt.out]; exact ho)
                have HG8 := Lib.hid (HGd.out.trans hg)
                clear ho hg HAd HSt HGd HXd
                go_wp2_with fail
                go_roundw
                case rel => exact ⟨k + 1, true, _, by omega, rfl, rfl, by go_num, HG8, HO8, Lib.hid (fun h => by cases h)⟩
                case measure => simp [intOf]; omega
            · have t2 : (p.toList == xp.toList) = false := by rw [beq_str]; exact decide_eq_false hpx
              have HNo2 : Hid (false = false → ∀ j z, j < k + 1 → Z[j]? = some z → z.1 ≠ xp) := Lib.hid (fun _ j z hj hz => by
                by_cases hjk : j < k
                · exact HNo.out rfl j z hjk hz
                · obtain rfl : j = k := by omega
                  rw [HZk.out] at hz
                  cases hz; exact hpx)
              clear hpx
              go_upto_region 13 with fail
              refine region_grow 7 115 (by kernel_rfl) rfl (by kernel_rfl) rfl rfl ?_
              simp only [List.take_succ_cons, List.take_zero, List.drop_succ_cons, List.drop_zero]
              refine seg 7 rfl rfl rfl rfl ?_
              simp only [List.take_succ_cons, List.take_zero, List.drop_succ_cons, List.drop_zero]
              repeat (go_big_quiet_step (fail))
              refine wpQuiet_nil ?_
              intro _
              refine grow_end0 rfl rfl ?_
              intro wb hG
              have hgb := (Gr.drew wo).trans hG
              have HGb := Lib.hid (HGw.out.trans hgb)
              have HOb : Hid (StrsAt u9 (if false = true then fA Z l (i + 1) else fA Z l i) wb) := Lib.hid (HO9.out.gr hgb)
              clear hG hgb C0 C1 HGw HO9 HXw Hcs HNo HZk
              go_wp2_with fail
              go_roundw
              case rel => exact ⟨k + 1, false, _, by omega, rfl, rfl, by go_num, HGb, HOb, HNo2⟩
              case measure => simp [intOf]; omega
          · have t1 : decide (k < m) = false := decide_eq_false hkm
            have t1' : decide ((k : Int) < (m : Int)) = false := decide_eq_false (by omega)
            have HBd : Hid (badE Z ⟨xp, xf, xl, xd⟩ = true) := Lib.hid (by
              unfold badE
              simp only
              rw [given_none.2 (fun z hz => by
                obtain ⟨j, hj⟩ := List.getElem?_of_mem hz
                exact HNo.out rfl j z (by have := (List.getElem?_eq_some_iff.1 hj).1; rw [HZ.out.2] at this; omega) hj)])
            have HXw := Lib.hid (HGw.out.block HX.out)
            have HAd := Lib.hid (fun (y : World) (hg : Gr wo y) => addR_any u9 (fA Z l i) xp y (HO9.out.gr hg) (by omega))
            have HG9 := Lib.hid (HGa.out.trans HGw.out)
            rw [HBd.out, if_pos rfl] at HSt
            clear HNo HX HGw HGa HBd
            obtain ⟨q0, q1, q2, q3⟩ := row4 HXw.out
            go_wp2_with fail
            clear q0 q1 q2 q3
            refine (HAd.out _ (Gr.refl _)).mono ?_
            rintro e wz ⟨u8, rfl, ho, hg⟩
            have HO8 : Hid (StrsAt u8 (fA Z l (i + 1)) wz) := Lib.hid (by rw [HSt.out]; exact ho)
            have HG8 := Lib.hid (HG9.out.trans hg)
            clear ho hg HAd HSt HO9 HG9 HXw
            go_wp2_with fail
            go_roundw
            case rel => exact ⟨i + 1, _, by omega, rfl, by go_num, HO8, HG8⟩
            case measure => simp [intOf]; omega
    · have ht : decide (i < n) = false := decide_eq_false hlt
      have ht' : decide ((i : Int) < (n : Int)) = false := decide_eq_false (by omega)
      have HO0 : Hid (StrsAt u (fB Z l 0) wr) := Lib.hid (by
        have e : fB Z l 0 = fA Z l i := by
          unfold fB
          rw [Hn.out, show i = n by omega]; rfl
        rw [e]; exact HO.out)
      obtain ⟨wo, hwo⟩ : ∃ z, z = wr := ⟨_, rfl⟩
      subst hwo
      obtain ⟨k0, k1, k2⟩ := row3 (HG.out.block HR1.out)
      go_wp2_with fail
      clear k0 k1 k2 HO
      go_loopw [8, 13, 14, 15] (fun v8 v13 _ _ W => ∃ (j : Nat) (u : Value), j ≤ m ∧ u = v8 ∧ v13 = .int .i64 (j : Int) ∧ Hid (StrsAt u (fB Z l j) W) ∧ Hid (Gr w1 W)) (fun _ v13 _ _ _ => m - (intOf v13).toNat)
      case atStart => exact ⟨0, _, by omega, rfl, rfl, HO0, HG⟩
      clear HO0 HG
      case round =>
        obtain ⟨j, u9, hj, rfl, rfl, HO, HG⟩ := hrel
        by_cases hjm : j < m
        · have t1 : decide (j < m) = true := decide_eq_true hjm
          have t1' : decide ((j : Int) < (m : Int)) = true := decide_eq_true (by omega)
          obtain ⟨p, t, hz, hpk, -⟩ : ∃ p t, Z[j]? = some (p, t) ∧ ps[j]? = some p ∧ ss[j]? = some t := by
            have := zip_at (A := ps) (B := ss) (k := j) (by rw [HZ.out.1, HZ.out.2]; exact hjm)
            rw [HZ.out.1] at this; exact this
          obtain ⟨gp, op, rfl, hcp⟩ := (HV.out.2.1.gr (HG1.out.trans HG.out)).at2 hpk
          have HSt := Lib.hid (fB_step (l := l) hz)
          have Hcp := Lib.hid hcp
          have hol : (fB Z l j).length ≤ 11000 := by have := fB_len Z l j; rw [Hn.out, HZ.out.2] at this; omega
          obtain ⟨wp, hwp⟩ : ∃ z, z = wr := ⟨_, rfl⟩
          subst hwp
          clear hz hpk hcp
          go_wp2_with fail
          go_loopw [14, 15] (fun v14 v15 W => ∃ (i : Nat) (F : Bool), i ≤ n ∧ v14 = .bool F ∧ v15 = .int .i64 (i : Int) ∧ Hid (Gr wp W) ∧ Hid (F = knowD (l.take i) p)) (fun _ v15 _ => n - (intOf v15).toNat)
          case atStart => exact ⟨0, false, by omega, rfl, rfl, Lib.hid (Gr.refl _), Lib.hid rfl⟩
          case round =>
            obtain ⟨i, F, hi, rfl, rfl, HGw, HF⟩ := hrel
            by_cases hlt : i < n
            · have ht : decide (i < n) = true := decide_eq_true hlt
              have ht' : decide ((i : Int) < (n : Int)) = true := decide_eq_true (by omega)
              obtain ⟨x, hx⟩ : ∃ x, l[i]? = some x := ⟨_, List.getElem?_eq_getElem (by rw [Hn.out]; exact hlt)⟩
              obtain ⟨ge, oe, rfl, hce⟩ := (HV.out.1.gr ((HG1.out.trans HG.out).trans HGw.out)).at2 Hn.out hx
              have hk : knowD (l.take (i + 1)) p = (knowD (l.take i) p || decide (x.path = p)) := by
                unfold knowD
                rw [List.take_add_one, hx, List.any_append]; simp
              have HK := Lib.hid hk
              have K2 : ∀ q : GrS wr.drew, q.w.cell? ⟨bx, 2, none⟩ = some (.slice (some ⟨ge, oe, none⟩) n cv) := fun q => q.h.cell (w := wr.drew) (row3 ((HG.out.trans HGw.out).block HR1.out)).2.2
              have K3 : ∀ q : GrS wr.drew, q.w.cell? ⟨ge, oe + i * 4, none⟩ = some (.string x.path) := fun q => q.h.cell (w := wr.drew) (hce 0 _ rfl)
              have K4 : ∀ q : GrS wr.drew, q.w.cell? ⟨gp, op + j, none⟩ = some (.string p) := fun q => q.h.cell (w := wr.drew) (HGw.out.cell Hcp.out)
              have i0 : (0 : Int) ≤ (i : Int) := by omega
              have i1 : (i : Int) < (n : Int) := by omega
              have i2 : (0 : Int) ≤ (j : Int) := by omega
              have i3 : (j : Int) < (ps.length : Int) := by omega
              obtain ⟨k0, k1, k2⟩ := row3 ((HG.out.trans HGw.out).block HR1.out)
              clear hx hce hk
              cases F with
              | true =>
                go_upto_region 26 with fail
                clear k0 k1 k2
                refine region_grow 14 115 (by kernel_rfl) rfl (by kernel_rfl) rfl rfl ?_
                simp only [List.take_succ_cons, List.take_zero, List.drop_succ_cons, List.drop_zero]
                refine seg 14 rfl rfl rfl rfl ?_
                simp only [List.take_succ_cons, List.take_zero, List.drop_succ_cons, List.drop_zero]
                repeat (go_big_quiet_step (fail))
                refine wpQuiet_nil ?_
                intro _
                refine grow_end0 rfl rfl ?_
                intro wb hG
                have HGb := Lib.hid (HGw.out.trans ((Gr.drew wr).trans hG))
                have HFb : Hid (true = knowD (l.take (i + 1)) p) := Lib.hid (by rw [HK.out, ← HF.out]; rfl)
                clear hG K2 K3 K4 HGw HF HK
                go_wp2_with fail
                go_roundw
                case rel => exact ⟨i + 1, true, by omega, rfl, by go_num, HGb, HFb⟩
                case measure => simp [intOf]; omega
              | false =>
                obtain ⟨C, hC⟩ : ∃ C, decide (x.path = p) = C := ⟨_, rfl⟩
                have t2 : (x.path.toList == p.toList) = C := by rw [beq_str, hC]
                have HFb : Hid (C = knowD (l.take (i + 1)) p) := Lib.hid (by rw [HK.out, ← HF.out, hC]; rfl)
                clear hC
                go_upto_region 26 with fail
                clear k0 k1 k2
                refine region_grow 14 115 (by kernel_rfl) rfl (by kernel_rfl) rfl rfl ?_
                simp only [List.take_succ_cons, List.take_zero, List.drop_succ_cons, List.drop_zero]
                refine seg 14 rfl rfl rfl rfl ?_
                simp only [List.take_succ_cons, List.take_zero, List.drop_succ_cons, List.drop_zero]
                repeat (go_big_quiet_step (fail))
                refine wpQuiet_nil ?_
                intro _
                refine grow_end0 rfl rfl ?_
                intro wb hG
                have HGb := Lib.hid (HGw.out.trans ((Gr.drew wr).trans hG))
                clear hG K2 K3 K4 HGw HF HK
                go_wp2_with fail
                go_roundw
                case rel => exact ⟨i + 1, C, by omega, rfl, by go_num, HGb, HFb⟩
                case measure => simp [intOf]; omega
            · have ht : decide (i < n) = false := decide_eq_false hlt
              have ht' : decide ((i : Int) < (n : Int)) = false := decide_eq_false (by omega)
              have HF2 : Hid (F = knowD l p) := Lib.hid (by rw [HF.out, List.take_of_length_le (by rw [Hn.out]; omega)])
              have HG9 := Lib.hid (HG.out.trans HGw.out)
              have HO9 := Lib.hid (HO.out.gr HGw.out)
              have hcp := HGw.out.cell Hcp.out
              obtain ⟨k0, k1, k2⟩ := row3 (HG9.out.block HR1.out)
              have i2 : (0 : Int) ≤ (j : Int) := by omega
              have i3 : (j : Int) < (ps.length : Int) := by omega
              have HAd := Lib.hid (addR_any u9 (fB Z l j) p wr HO9.out (by omega))
              clear HF HG HO HGw
              cases F with
              | true =>
                have HO8 : Hid (StrsAt u9 (fB Z l (j + 1)) wr) := Lib.hid (by rw [HSt.out, ← HF2.out]; exact HO9.out)
                clear HO9 HAd HSt HF2
                go_wp2_with fail
                clear k0 k1 k2 hcp
                go_roundw
                case rel => exact ⟨j + 1, _, by omega, rfl, by go_num, HO8, HG9⟩
                case measure => simp [intOf]; omega
              | false =>
                go_wp2_with fail
                clear k0 k1 k2 hcp
                refine HAd.out.mono ?_
                rintro e wz ⟨u8, rfl, ho, hg⟩
                have HO8 : Hid (StrsAt u8 (fB Z l (j + 1)) wz) := Lib.hid (by rw [HSt.out, ← HF2.out]; exact ho)
                have HG8 := Lib.hid (HG9.out.trans hg)
                clear ho hg HAd HSt HF2 HO9 HG9
                go_wp2_with fail
                go_roundw
                case rel => exact ⟨j + 1, _, by omega, rfl, by go_num, HO8, HG8⟩
                case measure => simp [intOf]; omega
        · have t1 : decide (j < m) = false := decide_eq_false hjm
          have t1' : decide ((j : Int) < (m : Int)) = false := decide_eq_false (by omega)
          have HO9 : Hid (StrsAt u9 (checkD id ver l Z) wr) := Lib.hid (by
            rw [HEnd.out]
            obtain rfl : j = m := by omega
            exact HO.out)
          have HG9 := Lib.hid (HG1.out.trans HG.out)
          clear HO HG
          go_wp2_with fail
          go_ret
          exact ⟨_, rfl, HO9.out, HG9.out⟩
end
end Go.Proofs.YtjnnhhengpinmaaGreatDoor
