/- ManifestProved, the plain law: what Prove gives for a package of streams is accepted, at its place alone. -/
import Derived.Test.YtjnnhhengpinmaaGreatDoorNG
import Derived.Test.YtjnnhhengpinmaaGreatDoorVeA
import Derived.Test.YtjnnhhengpinmaaGreatDoorNF
import Derived.Test.YtjnnhhengpinmaaGreatDoorNH
import Derived.Test.YtjnnhhengpinmaaGreatDoorNO
import Derived.Test.YtjnnhhengpinmaaGreatDoorNS
import Derived.Test.YtjnnhhengpinmaaGreatDoorMB
namespace Go.Proofs.YtjnnhhengpinmaaGreatDoor
section
open Go Go.RowKit Go.Shelf

theorem path_inj : ∀ i, i < 12 → ∀ j, j < 12 → pathOf i = pathOf j → i = j := by decide +kernel
theorem mad_idx {l : List ByteArray} {i : Nat} (hi : i < madN l) : idxP (madE l) (pathOf i) = some i := by
  have h12 := (madN_pos l).2
  obtain ⟨f, s, he, -⟩ := madE_at hi
  refine idx_yes he rfl (fun j y hj hy => ?_)
  obtain ⟨f', s', he', -⟩ := madE_at (l := l) (i := j) (by omega)
  obtain rfl := Option.some.inj (he'.symm.trans hy)
  exact fun e => by have := path_inj j (by omega) i (by omega) e; omega
theorem mad_absent {l : List ByteArray} {p : ByteArray} (hp : p.size ≠ 3) : idxP (madE l) p = none := by
  refine idx_no (fun i y hy e => ?_)
  have hi := (List.getElem?_eq_some_iff.1 hy).1
  rw [madE_len] at hi
  obtain ⟨f, s, he, -, -, -, -, hm⟩ := madE_at hi
  obtain rfl := Option.some.inj (he.symm.trans hy)
  exact hp (by rw [← e]; exact (mad_sizes l).2.2 _ (List.mem_of_getElem? hm))
theorem valid_parts {id ver : Int} {l : List En} (h : validD id ver l = true) : headB id ver l.length = true ∧ ∀ x ∈ l, entB x = true := by
  refine ⟨?_, (valid_head h).2.2.2.2⟩
  unfold validD at h
  simp only [Bool.and_eq_true] at h
  exact h.1
theorem verD_lenX {l : List ByteArray} {k : Nat} {s : ByteArray} (r : ByteArray) (q : List ByteArray) (h : l[k]? = some s) (hq : q.length ≠ (proofD l k).length) : verD r l.length k s q = false := by
  unfold verD
  have : valR s q.reverse l.length k ≠ some r := fun e => by
    have := valR_len e (proof_val _ l k s (Nat.le_refl _) h)
    rw [List.length_reverse, List.length_reverse] at this
    exact hq this
  rw [show ((l.length : Int)).toNat = l.length from rfl, show ((k : Int)).toNat = k from rfl, decide_eq_false this, Bool.and_false]
theorem verD_okX (l : List ByteArray) (k : Nat) (s : ByteArray) (h : l[k]? = some s) : verD (rootD l) l.length k s (proofD l k) = true := by
  have hk : k < l.length := (List.getElem?_eq_some_iff.1 h).1
  unfold verD
  rw [decide_eq_true (show (0 : Int) ≤ (k : Int) by omega), decide_eq_true (show (k : Int) < (l.length : Int) by omega), allD_iff.2 (proof_all _ l k (Nat.le_refl _))]
  rw [show ((l.length : Int)).toNat = l.length from rfl, show ((k : Int)).toNat = k from rfl, proof_val _ l k s (Nat.le_refl _) h]
  simp
theorem verD_outX (r : ByteArray) (n i : Int) (s : ByteArray) (q : List ByteArray) (h : i < 0 ∨ n ≤ i) : verD r n i s q = false := by
  unfold verD
  rcases h with h | h
  · rw [decide_eq_false (show ¬ 0 ≤ i by omega)]; simp
  · rw [decide_eq_false (show ¬ i < n by omega)]; simp
/-- a valid package's entry at i with what Prove gives -/
theorem prove_law {id ver : Int} {l : List En} (hV : validD id ver l = true) {i : Nat} {x : En} (hx : l[i]? = some x) :
    verM (rootP id ver l) id ver l.length i x (prP l (some i)) = true ∧ (∀ j : Int, j < 0 ∨ (l.length : Int) ≤ j → verM (rootP id ver l) id ver l.length j x (prP l (some i)) = false) ∧
      verM (rootP id ver l) id ver l.length i x ((prP l (some i)).drop 1) = false ∧ verM ⟨#[]⟩ id ver l.length i x (prP l (some i)) = false := by
  obtain ⟨hH, hE⟩ := valid_parts hV
  have hL : (l.map lineD)[i]? = some (lineD x) := by rw [List.getElem?_map, hx]; rfl
  have hn : (l.map lineD).length = l.length := List.length_map _
  have hR : rootP id ver l = boundD id ver l.length (rootD (l.map lineD)) := by unfold rootP; rw [if_pos hV]
  have e0 := hE x (List.mem_of_getElem? hx)
  refine ⟨?_, fun j hj => ?_, ?_, ?_⟩
  · unfold verM prP
    rw [hH, e0, hR]
    have := verD_okX _ _ _ hL
    rw [hn] at this
    simp [this]
  · unfold verM
    rw [verD_outX _ _ _ _ _ hj]
    simp
  · unfold verM prP
    simp only [List.drop_succ_cons, List.drop_zero]
    cases hq : proofD (l.map lineD) i with
    | nil => simp
    | cons y r =>
      have := verD_lenX y r hL (by rw [hq]; simp)
      rw [hn] at this
      simp [this]
  · unfold verM
    have : ¬ ((⟨#[]⟩ : ByteArray) = boundD id ver l.length ((prP l (some i)).getD 0 ⟨#[]⟩)) := fun e => by
      have h1 := congrArg ByteArray.size e
      rw [boundD_size] at h1
      cases h1
    rw [decide_eq_false this]
    simp
theorem prP_len (l : List En) (i : Nat) : (prP l (some i)).length = (proofD (l.map lineD) i).length + 1 := rfl
theorem prP_sizes (l : List En) (o : Option Nat) : ∀ y ∈ prP l o, y.size = 32 := by
  intro y hy
  cases o with
  | none => cases hy
  | some i =>
    rcases List.mem_cons.1 hy with rfl | hy
    · exact rootD_size _
    · exact proof_all _ _ _ (Nat.le_refl _) y hy
end
section
open Go Go.RowKit Go.Shelf

theorem given_mem {Z : List (ByteArray × ByteArray)} {p s : ByteArray} (h : givenD Z p = some s) : (p, s) ∈ Z := by
  unfold givenD at h
  obtain ⟨z, hz, rfl⟩ := Option.map_eq_some_iff.1 h
  have h1 := List.find?_some hz
  have h2 := List.mem_of_find?_eq_some hz
  have e := of_decide_eq_true h1
  rw [← e]; exact h2
/-- each key has one value -/
def FunZ (Z : List (ByteArray × ByteArray)) : Prop := ∀ p s t, (p, s) ∈ Z → (p, t) ∈ Z → s = t
theorem given_fun {Z : List (ByteArray × ByteArray)} (h : FunZ Z) {p s : ByteArray} (hm : (p, s) ∈ Z) : givenD Z p = some s := by
  cases hg : givenD Z p with
  | none => exact absurd rfl (given_none.1 hg (p, s) hm)
  | some t => rw [h p t s (given_mem hg) hm]
theorem given_key (Y : List (ByteArray × ByteArray)) (p : ByteArray) : (∃ z ∈ Y, z.1 = p) ↔ givenD Y p ≠ none := by
  rw [Ne, given_none]
  constructor
  · rintro ⟨z, hz, e⟩ h; exact h z hz e
  · intro h
    apply Classical.byContradiction
    intro hn
    exact h (fun z hz e => hn ⟨z, hz, e⟩)
/-- Check's answer depends on what is given for each path alone -/
theorem chk_congr {L : List En} {Z Y : List (ByteArray × ByteArray)} (h : ∀ p, givenD Z p = givenD Y p) : chkD L Z = chkD L Y := by
  refine chk_eq (chk_asc L Z) (fun p => ?_)
  rw [chk_mem, given_key, given_key, h]
  have hb : ∀ x, badE Z x = badE Y x := fun x => by unfold badE; rw [h]
  simp only [hb]
theorem fun_congr {Z Y : List (ByteArray × ByteArray)} (hf : FunZ Z) (hm : ∀ p s, (p, s) ∈ Y ↔ (p, s) ∈ Z) (p : ByteArray) : givenD Y p = givenD Z p := by
  have hf' : FunZ Y := fun p s t h1 h2 => hf p s t ((hm _ _).1 h1) ((hm _ _).1 h2)
  cases h : givenD Z p with
  | some s => exact given_fun hf' ((hm _ _).2 (given_mem h))
  | none => exact given_none.2 (fun z hz => given_none.1 h z ((hm z.1 z.2).1 hz))
theorem given_app {Z Y : List (ByteArray × ByteArray)} (h : ∀ y ∈ Y, ∃ z ∈ Z, z.1 = y.1) (p : ByteArray) : givenD (Z ++ Y) p = givenD Z p := by
  unfold givenD
  rw [List.find?_append]
  cases hz : Z.find? fun z => decide (z.1 = p) with
  | some z => rfl
  | none =>
    have : Y.find? (fun z => decide (z.1 = p)) = none := by
      rw [List.find?_eq_none] at hz ⊢
      intro y hy e
      obtain ⟨z, hz1, hz2⟩ := h y hy
      exact hz z hz1 (by rw [hz2]; exact e)
    rw [this]; rfl
theorem mem_zip (A B : List ByteArray) (p s : ByteArray) : (p, s) ∈ A.zip B ↔ ∃ i : Nat, A[i]? = some p ∧ B[i]? = some s := by
  rw [List.mem_iff_getElem?]
  constructor
  · rintro ⟨i, h⟩; exact ⟨i, List.getElem?_zip_eq_some.1 h⟩
  · rintro ⟨i, h⟩; exact ⟨i, List.getElem?_zip_eq_some.2 h⟩
/-- what Check gives for a made package -/
theorem mad_chk {l : List ByteArray} {id ver I J : Int} {n : Nat} {E : List En} {P S : List ByteArray} (h : MadF l id ver I J n E P S) (Z : List (ByteArray × ByteArray)) (R : List ByteArray) (hR : AscL R)
    (hb : ∀ i f s, i < n → S[i]? = some s → (badE Z (mkEn (pathOf i) f s) = true ↔ pathOf i ∈ R))
    (hk : ∀ p, (∃ z ∈ Z, z.1 = p) → (∀ i, i < n → p ≠ pathOf i) → p ∈ R)
    (hr : ∀ p ∈ R, (∃ i, i < n ∧ p = pathOf i) ∨ ((∃ z ∈ Z, z.1 = p) ∧ ∀ i, i < n → p ≠ pathOf i)) : checkD I J E Z = R := by
  have hx : ∀ x ∈ E, ∃ i f s, i < n ∧ S[i]? = some s ∧ x = mkEn (pathOf i) f s := by
    intro x hx
    obtain ⟨i, hi⟩ := List.getElem?_of_mem hx
    have hi' := (List.getElem?_eq_some_iff.1 hi).1
    rw [h.eLen] at hi'
    obtain ⟨f, s, he, -, -, -, hs, -⟩ := h.at_ hi'
    rw [hi] at he
    exact ⟨i, f, s, hi', hs, Option.some.inj he⟩
  unfold checkD
  rw [if_pos h.valid]
  refine (chk_eq hR (fun p => ⟨fun hp => ?_, ?_⟩)).symm
  · rcases hr p hp with ⟨i, hi, rfl⟩ | ⟨h1, h2⟩
    · obtain ⟨f, s, he, -, -, -, hs, -⟩ := h.at_ hi
      exact .inl ⟨_, List.mem_of_getElem? he, (hb i f s hi hs).2 hp, rfl⟩
    · refine .inr ⟨h1, fun x hxE e => ?_⟩
      obtain ⟨i, f, s, hi, -, rfl⟩ := hx x hxE
      exact h2 i hi e.symm
  · rintro (⟨x, hxE, hbx, e⟩ | ⟨h1, h2⟩)
    · obtain ⟨i, f, s, hi, hs, rfl⟩ := hx x hxE
      have := (hb i f s hi hs).1 hbx
      rw [← e]; exact this
    · refine hk p h1 (fun i hi e => ?_)
      obtain ⟨f, s, he, -⟩ := h.at_ hi
      exact h2 _ (List.mem_of_getElem? he) e.symm
theorem bad_some {Z : List (ByteArray × ByteArray)} {p s t : ByteArray} {f : Int} (h : givenD Z p = some t) : badE Z (mkEn p f s) = !(decide ((t.size : Int) = (s.size : Int)) && decide (sha t = sha s)) := by
  unfold badE mkEn; simp only; rw [h]
theorem bad_none {Z : List (ByteArray × ByteArray)} {p s : ByteArray} {f : Int} (h : givenD Z p = none) : badE Z (mkEn p f s) = true := by
  unfold badE mkEn; simp only; rw [h]
theorem bad_own {Z : List (ByteArray × ByteArray)} {p s : ByteArray} {f : Int} (h : givenD Z p = some s) : badE Z (mkEn p f s) = false := by
  rw [bad_some h]; simp
/-- the paths' places -/
theorem MadF.path {l : List ByteArray} {id ver I J : Int} {n : Nat} {E : List En} {P S : List ByteArray} (h : MadF l id ver I J n E P S) {i : Nat} {p : ByteArray} (hp : P[i]? = some p) : i < n ∧ p = pathOf i := by
  have hi := (List.getElem?_eq_some_iff.1 hp).1
  rw [h.pLen] at hi
  obtain ⟨f, s, -, -, -, -, -, hq⟩ := h.at_ hi
  rw [hp] at hq
  exact ⟨hi, Option.some.inj hq⟩
theorem MadF.same {l : List ByteArray} {id ver I J : Int} {n : Nat} {E : List En} {P S : List ByteArray} (h : MadF l id ver I J n E P S) {i j : Nat} {p : ByteArray} (hp : P[i]? = some p) (hq : P[j]? = some p) : i = j := by
  obtain ⟨h1, e1⟩ := h.path hp
  obtain ⟨h2, e2⟩ := h.path hq
  have := h.bounds
  exact path_inj i (by omega) j (by omega) (e1.symm.trans e2)
theorem MadF.funZ {l : List ByteArray} {id ver I J : Int} {n : Nat} {E : List En} {P S : List ByteArray} (h : MadF l id ver I J n E P S) (T : List ByteArray) : FunZ (P.zip T) := by
  intro p s t h1 h2
  obtain ⟨i, hi, hs⟩ := (mem_zip _ _ _ _).1 h1
  obtain ⟨j, hj, ht⟩ := (mem_zip _ _ _ _).1 h2
  obtain rfl := h.same hi hj
  exact Option.some.inj (hs.symm.trans ht)
theorem MadF.key {l : List ByteArray} {id ver I J : Int} {n : Nat} {E : List En} {P S : List ByteArray} (h : MadF l id ver I J n E P S) {T : List ByteArray} {p : ByteArray} (hk : ∃ z ∈ P.zip T, z.1 = p) : ∃ i, i < n ∧ p = pathOf i := by
  obtain ⟨⟨q, s⟩, hz, rfl⟩ := hk
  obtain ⟨i, hi, -⟩ := (mem_zip _ _ _ _).1 hz
  obtain ⟨h1, h2⟩ := h.path hi
  exact ⟨i, h1, h2⟩
theorem MadF.pAt {l : List ByteArray} {id ver I J : Int} {n : Nat} {E : List En} {P S : List ByteArray} (h : MadF l id ver I J n E P S) {i : Nat} (hi : i < n) : P[i]? = some (pathOf i) := by
  obtain ⟨f, s, -, -, -, -, -, hq⟩ := h.at_ hi
  exact hq
theorem ascL_one (x : ByteArray) : AscL [x] := by unfold AscL; simp
/-- nothing is wrong with the streams themselves -/
theorem fix_a {l : List ByteArray} {id ver I J : Int} {n : Nat} {E : List En} {P S : List ByteArray} (h : MadF l id ver I J n E P S) : checkD I J E (P.zip S) = [] := by
  refine mad_chk h _ [] List.Pairwise.nil (fun i f s hi hs => ?_) (fun p hp hn => ?_) (fun p hp => by cases hp)
  · rw [bad_own (given_fun (h.funZ S) ((mem_zip _ _ _ _).2 ⟨i, h.pAt hi, hs⟩))]
    simp
  · obtain ⟨i, hi, e⟩ := h.key hp
    exact absurd e (hn i hi)
theorem cut_zip {A B : List ByteArray} (hl : A.length = B.length) (k : Nat) (p s : ByteArray) : (p, s) ∈ (A.take k ++ A.drop (k + 1)).zip (B.take k ++ B.drop (k + 1)) ↔ ∃ i : Nat, i ≠ k ∧ A[i]? = some p ∧ B[i]? = some s := by
  rw [List.zip_append (by rw [List.length_take, List.length_take, hl]), List.mem_append, mem_zip, mem_zip]
  constructor
  · rintro (⟨i, h1, h2⟩ | ⟨i, h1, h2⟩)
    · rw [List.getElem?_take] at h1 h2
      by_cases hik : i < k
      · rw [if_pos hik] at h1 h2
        exact ⟨i, by omega, h1, h2⟩
      · rw [if_neg hik] at h1; cases h1
    · rw [List.getElem?_drop] at h1 h2
      exact ⟨k + 1 + i, by omega, h1, h2⟩
  · rintro ⟨i, hne, h1, h2⟩
    by_cases hik : i < k
    · exact .inl ⟨i, by rw [List.getElem?_take, if_pos hik]; exact h1, by rw [List.getElem?_take, if_pos hik]; exact h2⟩
    · refine .inr ⟨i - (k + 1), ?_, ?_⟩
      · rw [List.getElem?_drop, show k + 1 + (i - (k + 1)) = i by omega]; exact h1
      · rw [List.getElem?_drop, show k + 1 + (i - (k + 1)) = i by omega]; exact h2
/-- a stream that is missing is named -/
theorem fix_b {l : List ByteArray} {id ver I J : Int} {n : Nat} {E : List En} {P S : List ByteArray} (h : MadF l id ver I J n E P S) {k : Nat} (hk : k < n) :
    checkD I J E ((P.take k ++ P.drop (k + 1)).zip (S.take k ++ S.drop (k + 1))) = [pathOf k] := by
  have hl : P.length = S.length := by rw [h.pLen, h.sLen]
  have hf : FunZ ((P.take k ++ P.drop (k + 1)).zip (S.take k ++ S.drop (k + 1))) := fun p s t h1 h2 => by
    obtain ⟨i, -, h1⟩ := (cut_zip hl k _ _).1 h1
    obtain ⟨j, -, h2⟩ := (cut_zip hl k _ _).1 h2
    exact h.funZ S p s t ((mem_zip _ _ _ _).2 ⟨i, h1⟩) ((mem_zip _ _ _ _).2 ⟨j, h2⟩)
  refine mad_chk h _ _ (ascL_one _) (fun i f s hi hs => ?_) (fun p hp hn => ?_) (fun p hp => ?_)
  · by_cases hik : i = k
    · subst hik
      rw [bad_none (given_none.2 ?_)]
      · simp
      · rintro ⟨p, t⟩ hz e
        obtain ⟨j, hne, h1, -⟩ := (cut_zip hl i _ _).1 hz
        subst e
        exact hne (h.same h1 (h.pAt hi))
    · rw [bad_own (given_fun hf ((cut_zip hl k _ _).2 ⟨i, hik, h.pAt hi, hs⟩))]
      have := h.bounds
      simp only [Bool.false_eq_true, List.mem_singleton, false_iff]
      exact fun e => hik (path_inj i (by omega) k (by omega) e)
  · obtain ⟨⟨q, s⟩, hz, rfl⟩ := hp
    obtain ⟨j, -, h1, -⟩ := (cut_zip hl k _ _).1 hz
    obtain ⟨hj, e⟩ := h.path h1
    exact absurd e (hn j hj)
  · rw [List.mem_singleton] at hp
    exact .inl ⟨k, hk, hp⟩
/-- a stream in addition is named -/
theorem fix_c {l : List ByteArray} {id ver I J : Int} {n : Nat} {E : List En} {P S : List ByteArray} (h : MadF l id ver I J n E P S) {m : ByteArray} (hm : m.size ≠ 3) (o : ByteArray) :
    checkD I J E ((P ++ [m]).zip (S ++ [o])) = [m] := by
  have hl : P.length = S.length := by rw [h.pLen, h.sLen]
  rw [List.zip_append hl]
  have hmp : ∀ i, m ≠ pathOf i := fun i e => hm (by rw [e]; rfl)
  have hz : ∀ p, p ≠ m → givenD (P.zip S ++ [m].zip [o]) p = givenD (P.zip S) p := fun p hp => by
    unfold givenD
    rw [List.find?_append]
    cases (P.zip S).find? fun z => decide (z.1 = p) with
    | some z => rfl
    | none =>
      have : ([m].zip [o]).find? (fun z => decide (z.1 = p)) = none := by
        rw [List.find?_eq_none]
        intro y hy e
        obtain rfl := List.mem_singleton.1 hy
        exact hp (of_decide_eq_true e).symm
      rw [this]; rfl
  refine mad_chk h _ _ (ascL_one _) (fun i f s hi hs => ?_) (fun p hp hn => ?_) (fun p hp => ?_)
  · have hg : givenD (P.zip S ++ [m].zip [o]) (pathOf i) = some s := by
      rw [hz _ (fun e => hmp i e.symm)]
      exact given_fun (h.funZ S) ((mem_zip _ _ _ _).2 ⟨i, h.pAt hi, hs⟩)
    rw [bad_own hg]
    simp only [Bool.false_eq_true, List.mem_singleton, false_iff]
    exact fun e => hmp i e.symm
  · obtain ⟨z, hz1, rfl⟩ := hp
    rcases List.mem_append.1 hz1 with hz1 | hz1
    · obtain ⟨i, hi, e⟩ := h.key ⟨z, hz1, rfl⟩
      exact absurd e (hn i hi)
    · obtain rfl := List.mem_singleton.1 hz1
      exact List.mem_singleton.2 rfl
  · rw [List.mem_singleton] at hp
    subst hp
    exact .inr ⟨⟨(p, o), List.mem_append_right _ (List.mem_singleton.2 rfl), rfl⟩, fun i _ => hmp i⟩
/-- a stream that is another one is named, unless it has the same length and digest -/
theorem fix_d {l : List ByteArray} {id ver I J : Int} {n : Nat} {E : List En} {P S : List ByteArray} (h : MadF l id ver I J n E P S) {k : Nat} {s o : ByteArray} (hk : S[k]? = some s) :
    checkD I J E (P.zip (S.set k o)) = if o.size = s.size ∧ sha o = sha s then [] else [pathOf k] := by
  have hkn : k < n := by rw [← h.sLen]; exact (List.getElem?_eq_some_iff.1 hk).1
  have hat : ∀ i t, i < n → S[i]? = some t → i ≠ k → givenD (P.zip (S.set k o)) (pathOf i) = some t := fun i t hi hs hne =>
    given_fun (h.funZ _) ((mem_zip _ _ _ _).2 ⟨i, h.pAt hi, by rw [List.getElem?_set_ne (fun e => hne e.symm)]; exact hs⟩)
  have hatk : givenD (P.zip (S.set k o)) (pathOf k) = some o :=
    given_fun (h.funZ _) ((mem_zip _ _ _ _).2 ⟨k, h.pAt hkn, by rw [List.getElem?_set_self (by rw [h.sLen]; exact hkn)]⟩)
  have hbk : ∀ f, badE (P.zip (S.set k o)) (mkEn (pathOf k) f s) = !decide (o.size = s.size ∧ sha o = sha s) := fun f => by
    rw [bad_some hatk, Bool.decide_and]
    congr 2
    simp only [decide_eq_decide]; omega
  have hnm : ∀ i, i < n → i ≠ k → pathOf i ≠ pathOf k := fun i hi hne e => by
    have := h.bounds
    exact hne (path_inj i (by omega) k (by omega) e)
  split
  · rename_i hc
    refine mad_chk h _ [] List.Pairwise.nil (fun i f t hi hs => ?_) (fun p hp hn => ?_) (fun p hp => by cases hp)
    · by_cases hik : i = k
      · subst hik
        obtain rfl := Option.some.inj (hk.symm.trans hs)
        rw [hbk, decide_eq_true hc]; simp
      · rw [bad_own (hat i t hi hs hik)]; simp
    · obtain ⟨i, hi, e⟩ := h.key hp
      exact absurd e (hn i hi)
  · rename_i hc
    refine mad_chk h _ _ (ascL_one _) (fun i f t hi hs => ?_) (fun p hp hn => ?_) (fun p hp => ?_)
    · by_cases hik : i = k
      · subst hik
        obtain rfl := Option.some.inj (hk.symm.trans hs)
        rw [hbk, decide_eq_false hc]; simp
      · rw [bad_own (hat i t hi hs hik)]
        simp only [Bool.false_eq_true, List.mem_singleton, false_iff]
        exact hnm i hi hik
    · obtain ⟨i, hi, e⟩ := h.key hp
      exact absurd e (hn i hi)
    · rw [List.mem_singleton] at hp
      exact .inl ⟨k, hkn, hp⟩
/-- two elements exchanged -/
def swapL (a : List ByteArray) (x y : Nat) : List ByteArray := (a.set x (a.getD y ⟨#[]⟩)).set y (a.getD x ⟨#[]⟩)
theorem swapL_len (a : List ByteArray) (x y : Nat) : (swapL a x y).length = a.length := by simp [swapL]
def swI (x y i : Nat) : Nat := if i = y then x else if i = x then y else i
theorem swI_inv (x y i : Nat) : swI x y (swI x y i) = i := by
  unfold swI
  by_cases h1 : i = y
  · rw [if_pos h1]
    by_cases h2 : x = y
    · rw [if_pos h2]; omega
    · rw [if_neg h2, if_pos rfl, h1]
  · rw [if_neg h1]
    by_cases h2 : i = x
    · rw [if_pos h2, if_pos rfl, h2]
    · rw [if_neg h2, if_neg h1, if_neg h2]
theorem swapL_get {a : List ByteArray} {x y : Nat} (hx : x < a.length) (hy : y < a.length) (i : Nat) : (swapL a x y)[i]? = a[swI x y i]? := by
  unfold swapL swI
  by_cases h1 : i = y
  · subst h1
    rw [if_pos rfl, List.getElem?_set_self (by rw [List.length_set]; exact hy), List.getD_eq_getElem?_getD, List.getElem?_eq_getElem hx]; rfl
  · rw [if_neg h1, List.getElem?_set_ne (fun e => h1 e.symm)]
    by_cases h2 : i = x
    · subst h2
      rw [if_pos rfl, List.getElem?_set_self hx, List.getD_eq_getElem?_getD, List.getElem?_eq_getElem hy]; rfl
    · rw [if_neg h2, List.getElem?_set_ne (fun e => h2 e.symm)]
theorem swapL_zip {a b : List ByteArray} (hl : a.length = b.length) {x y : Nat} (hx : x < a.length) (hy : y < a.length) (p s : ByteArray) : (p, s) ∈ (swapL a x y).zip (swapL b x y) ↔ (p, s) ∈ a.zip b := by
  rw [mem_zip, mem_zip]
  constructor
  · rintro ⟨i, h1, h2⟩
    rw [swapL_get hx hy] at h1
    rw [swapL_get (by omega) (by omega)] at h2
    exact ⟨_, h1, h2⟩
  · rintro ⟨i, h1, h2⟩
    refine ⟨swI x y i, ?_, ?_⟩
    · rw [swapL_get hx hy, swI_inv]; exact h1
    · rw [swapL_get (by omega) (by omega), swI_inv]; exact h2
/-- two lists that are exchanged together -/
structure OrdI (A B a b : List ByteArray) : Prop where
  len : a.length = A.length
  len2 : b.length = A.length
  same : ∀ p s, (p, s) ∈ a.zip b ↔ (p, s) ∈ A.zip B
theorem OrdI.start {A B : List ByteArray} (h : A.length = B.length) : OrdI A B A B := ⟨rfl, h.symm, fun _ _ => Iff.rfl⟩
theorem OrdI.swap {A B a b : List ByteArray} (h : OrdI A B a b) {x y : Nat} (hx : x < A.length) (hy : y < A.length) : OrdI A B (swapL a x y) (swapL b x y) :=
  ⟨by rw [swapL_len, h.len], by rw [swapL_len, h.len2], fun p s => by rw [swapL_zip (by rw [h.len, h.len2]) (by rw [h.len]; exact hx) (by rw [h.len]; exact hy)]; exact h.same p s⟩
theorem order_law {A B a b : List ByteArray} (h : OrdI A B a b) (hf : FunZ (A.zip B)) (I J : Int) (E : List En) (T : List ByteArray) :
    checkD I J E (a.zip b) = checkD I J E (A.zip B) ∧ checkD I J E ((a ++ a).zip (b ++ T)) = checkD I J E (A.zip B) := by
  have h1 := chk_congr (L := E) (fun_congr hf h.same)
  have hl : a.length = b.length := by rw [h.len, h.len2]
  have h2 : chkD E ((a ++ a).zip (b ++ T)) = chkD E (a.zip b) := by
    rw [List.zip_append hl]
    refine chk_congr (given_app (fun y hy => ?_))
    obtain ⟨p, s⟩ := y
    obtain ⟨i, hi, -⟩ := (mem_zip _ _ _ _).1 hy
    have hib : i < b.length := by rw [← hl]; exact (List.getElem?_eq_some_iff.1 hi).1
    exact ⟨(p, b[i]), (mem_zip _ _ _ _).2 ⟨i, hi, List.getElem?_eq_getElem hib⟩, rfl⟩
  unfold checkD
  rw [h2, h1]
  exact ⟨rfl, rfl⟩
/-- the further streams' paths -/
def letP (k : Nat) : List ByteArray := (List.range k).map fun i => (⟨#[UInt8.ofNat (112 + i)]⟩ : ByteArray)
theorem letP_len (k : Nat) : (letP k).length = k := by simp [letP]
theorem letP_step (k : Nat) : letP (k + 1) = letP k ++ [(⟨#[UInt8.ofNat (112 + k)]⟩ : ByteArray)] := by unfold letP; rw [List.range_succ]; simp
theorem let_inj : ∀ i, i < 5 → ∀ j, j < 5 → (⟨#[UInt8.ofNat (112 + i)]⟩ : ByteArray) = ⟨#[UInt8.ofNat (112 + j)]⟩ → i = j := by decide +kernel
theorem letP_get {k i : Nat} {p : ByteArray} (h : (letP k)[i]? = some p) : i < k ∧ p = ⟨#[UInt8.ofNat (112 + i)]⟩ := by
  have hi := (List.getElem?_eq_some_iff.1 h).1
  rw [letP_len] at hi
  unfold letP at h
  rw [List.getElem?_map, List.getElem?_range hi] at h
  exact ⟨hi, (Option.some.inj h).symm⟩
theorem ord_fun {l : List ByteArray} {id ver I J : Int} {n : Nat} {E : List En} {P S : List ByteArray} (h : MadF l id ver I J n E P S) (k : Nat) (hk : k ≤ 5) (T : List ByteArray) : FunZ ((P ++ letP k).zip (S ++ T)) := by
  intro p s t h1 h2
  obtain ⟨i, hi, hs⟩ := (mem_zip _ _ _ _).1 h1
  obtain ⟨j, hj, ht⟩ := (mem_zip _ _ _ _).1 h2
  have hij : i = j := by
    by_cases hin : i < n
    · rw [List.getElem?_append_left (by rw [h.pLen]; exact hin)] at hi
      obtain ⟨-, ei⟩ := h.path hi
      by_cases hjn : j < n
      · rw [List.getElem?_append_left (by rw [h.pLen]; exact hjn)] at hj
        exact h.same hi hj
      · rw [List.getElem?_append_right (by rw [h.pLen]; omega)] at hj
        obtain ⟨-, ej⟩ := letP_get hj
        have := congrArg ByteArray.size (ei.symm.trans ej)
        cases this
    · rw [List.getElem?_append_right (by rw [h.pLen]; omega)] at hi
      obtain ⟨h1, ei⟩ := letP_get hi
      by_cases hjn : j < n
      · rw [List.getElem?_append_left (by rw [h.pLen]; exact hjn)] at hj
        obtain ⟨-, ej⟩ := h.path hj
        have := congrArg ByteArray.size (ei.symm.trans ej)
        cases this
      · rw [List.getElem?_append_right (by rw [h.pLen]; omega)] at hj
        obtain ⟨h2, ej⟩ := letP_get hj
        have := let_inj _ (by omega) _ (by omega) (ei.symm.trans ej)
        rw [h.pLen] at this
        omega
  subst hij
  exact Option.some.inj (hs.symm.trans ht)
end
section
open Go Go.RowKit Go.Shelf

/-- the parts of a slice of strings -/
theorem strs_parts {p : Option Addr} {n c : Nat} {L : List ByteArray} {w : World} (h : StrsAt (.slice p n c) L w) (hn : L.length = n) (h0 : 0 < n) : ∃ g off, p = some ⟨g, off, none⟩ ∧ n ≤ c ∧ c ≤ maxLen ∧ (∀ j x, L[j]? = some x → w.cell? ⟨g, off + j, none⟩ = some (.string x)) ∧
    ∀ k, k ≤ n → StrsAt (.slice (some ⟨g, off, none⟩) k c) (L.take k) w ∧ ∃ o1, StrsAt (.slice (some ⟨g, o1, none⟩) (n - k) (c - k)) (L.drop k) w ∧ ((c = k ∧ o1 = off) ∨ (c ≠ k ∧ o1 = off + k)) := by
  rcases h with ⟨_, h1⟩ | ⟨g, off, cap, he, h1, h2, hc⟩
  · rw [h1] at hn; simp at hn; omega
  · injection he with e1 e2 e3
    subst e1 e3
    rw [hn] at h1
    refine ⟨g, off, rfl, h1, h2, hc, fun k hk => ⟨.inr ⟨g, off, c, by rw [List.length_take, hn, Nat.min_eq_left hk], by rw [List.length_take]; omega, h2, fun j x hj => ?_⟩, ?_⟩⟩
    · rw [List.getElem?_take] at hj
      split at hj
      · exact hc j x hj
      · cases hj
    · by_cases hck : c = k
      · refine ⟨off, .inr ⟨g, off, c - k, by rw [List.length_drop, hn], by rw [List.length_drop]; omega, by omega, fun j x hj => ?_⟩, .inl ⟨hck, rfl⟩⟩
        have := (List.getElem?_eq_some_iff.1 hj).1
        rw [List.length_drop] at this; omega
      · refine ⟨off + k, .inr ⟨g, off + k, c - k, by rw [List.length_drop, hn], by rw [List.length_drop]; omega, by omega, fun j x hj => ?_⟩, .inr ⟨hck, rfl⟩⟩
        rw [List.getElem?_drop] at hj
        rw [Nat.add_assoc]; exact hc _ x hj
/-- Check's answer, under names -/
theorem chk_to {I J : Int} {E : List En} {v vp vs : Value} {A T R : List ByteArray} {m : Nat} (w : World) (hv : Rws 4 enC v E w) (hE : E.length ≤ 1000) (hEp : ∀ x ∈ E, x.path.size ≤ 9223372036854775807) (hp : StrsAt vp A w) (hs : StrsAt vs T w) (hA : A.length ≤ 10000) (hA2 : ∀ x ∈ A, x.size ≤ 1000) (hT2 : ∀ x ∈ T, x.size ≤ 1000) (hT : Tab w)
    (hR : checkD I J E (A.zip T) = R) (hm : R.length = m) :
    Calls Tryz.prog 30 #[.agg #[.int .i64 I, .int .i64 J, v], vp, vs] w fun e w' => ∃ p c, e = .returned (.slice p m c) ∧ OwnL w.heap.size R (.slice p m c) w' ∧ Gr w w' := by
  refine (check_any I J v vp vs E A T w hv hp hs (by omega) hA hEp (fun x hx => Nat.le_trans (hA2 x hx) (by decide)) (fun x hx => ⟨Nat.le_trans (hT2 x hx) (by decide), Nat.le_trans (hT2 x hx) (by decide)⟩) hT).mono ?_
  rintro e w' ⟨u, rfl, ho, hg⟩
  rw [hR] at ho
  obtain ⟨p, c, rfl⟩ := ho.strs.shape
  rw [hm] at ho ⊢
  exact ⟨p, c, rfl, ho, hg⟩
theorem sC_set (L : List ByteArray) (k : Nat) (x : ByteArray) : sC (L.set k x) = (sC L).set k (.string x) := by
  unfold sC; rw [List.map_set]
/-- a store of one string into a list of one's own -/
theorem ownL_put {B g off n c : Nat} {L : List ByteArray} {w : World} (h : OwnL B L (.slice (some ⟨g, off, none⟩) n c) w) (k : Nat) (hk : k < L.length) (x : ByteArray) :
    OwnL B (L.set k x) (.slice (some ⟨g, off, none⟩) n c) (w.setCell ⟨g, off + k, none⟩ (.string x)) := by
  have hn : L.length = n := by
    rcases h.2 with ⟨he, h0⟩ | ⟨g', off', cap', he, -⟩
    · cases he
    · injection he with e1 e2 e3; exact e2.symm
  subst hn
  have := Own.put1 h k (by simpa [sC] using hk) (.string x)
  unfold OwnL
  rw [sC_set, List.length_set]; exact this
theorem ownL_shape {B : Nat} {L : List ByteArray} {v : Value} {n : Nat} {w : World} (h : OwnL B L v w) (hn : L.length = n) (h0 : 0 < n) : ∃ g off c, v = .slice (some ⟨g, off, none⟩) n c ∧ B ≤ g ∧ n ≤ c ∧ c ≤ maxLen := by
  subst hn
  rcases h.2 with ⟨_, h1⟩ | ⟨g, off, cap, he, h1, h2, h3, -⟩
  · omega
  · exact ⟨g, off, cap, he, h1, h2, h3⟩
theorem ownL_cell {B g off n c : Nat} {L : List ByteArray} {w : World} (h : OwnL B L (.slice (some ⟨g, off, none⟩) n c) w) {k : Nat} {x : ByteArray} (hx : L[k]? = some x) : w.cell? ⟨g, off + k, none⟩ = some (.string x) := by
  rcases h.2 with ⟨he, _⟩ | ⟨g', off', cap', he, _, _, _, hc, _⟩
  · cases he
  · injection he with e1 e2 e3
    injection e1 with e1
    injection e1 with e1 e4
    subst e1 e4
    exact hc k _ (by rw [sC, List.getElem?_map, hx]; rfl)
theorem ownL_free {B g off n c : Nat} {L : List ByteArray} {w : World} (h : OwnL B L (.slice (some ⟨g, off, none⟩) n c) w) {k : Nat} (hk : k < n) : w.frozen? ⟨g, off + k, none⟩ = false := by
  rcases h.2 with ⟨he, _⟩ | ⟨g', off', cap', he, _, h2, _, _, hc⟩
  · cases he
  · injection he with e1 e2 e3
    injection e1 with e1
    injection e1 with e1 e4
    subst e1 e4 e3
    exact (hc k (by omega)).2
theorem strs_cell {g off n c : Nat} {L : List ByteArray} {w : World} (h : StrsAt (.slice (some ⟨g, off, none⟩) n c) L w) {k : Nat} {x : ByteArray} (hx : L[k]? = some x) : w.cell? ⟨g, off + k, none⟩ = some (.string x) := by
  rcases h with ⟨he, _⟩ | ⟨g', off', cap', he, _, _, hc⟩
  · cases he
  · injection he with e1 e2 e3
    injection e1 with e1
    injection e1 with e1 e4
    subst e1 e4
    exact hc k _ hx
theorem one_parts {B : Nat} {p : Option Addr} {c : Nat} {x : ByteArray} {w : World} (h : OwnL B [x] (.slice p 1 c) w) : ∃ g off, p = some ⟨g, off, none⟩ ∧ 1 ≤ c ∧ w.cell? ⟨g, off, none⟩ = some (.string x) := by
  obtain ⟨g, off, rfl, h1, -, h2, -⟩ := strs_parts h.strs rfl (by decide)
  exact ⟨g, off, rfl, h1, h2 0 _ rfl⟩
theorem cutD_small (s : ByteArray) (n : Nat) : (s.extract 0 (min s.size n)).size ≤ n := by
  rw [ByteArray.size_extract]; omega
end
end Go.Proofs.YtjnnhhengpinmaaGreatDoor
