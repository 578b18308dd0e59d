/- ManifestProved, the plain law: what Prove gives for a package of streams is accepted, at its place alone. -/
import Derived.Test.YtaoggehdkddgeaaGreatDoorNG
import Derived.Test.YtaoggehdkddgeaaGreatDoorNF
import Derived.Test.YtaoggehdkddgeaaGreatDoorNH
import Derived.Test.YtaoggehdkddgeaaGreatDoorNO
import Derived.Test.YtaoggehdkddgeaaGreatDoorNS
import Derived.Test.YtaoggehdkddgeaaGreatDoorMB
import Derived.Test.YtaoggehdkddgeaaGreatDoorNA
import Derived.Test.YtaoggehdkddgeaaGreatDoorGNN
section
namespace Go.Proofs.YtaoggehdkddgeaaGreatDoor
section
open Go Go.RowKit Go.Shelf

theorem path_inj : ∀ i, i < 12 → ∀ j, j < 12 → pathOf i = pathOf j → i = j := by decide +kernel
theorem valid_parts {id ver : Int} {l : List En} (h : validD id ver l = true) : headB id ver l.length = true ∧ ∀ x ∈ l, entB x = true := by
  refine ⟨?_, (valid_head h).2.2.2.2⟩
  unfold validD at h
  simp only [Bool.and_eq_true] at h
  exact h.1
theorem verD_lenX {l : List ByteArray} {k : Nat} {s : ByteArray} (r : ByteArray) (q : List ByteArray) (h : l[k]? = some s) (hq : q.length ≠ (proofD l k).length) : verD r l.length k s q = false := by
  unfold verD
  have : valR s q.reverse l.length k ≠ some r := fun e => by
    have := valR_len e (proof_val _ l k s (Nat.le_refl _) h)
    rw [List.length_reverse, List.length_reverse] at this
    exact hq this
  rw [show ((l.length : Int)).toNat = l.length from rfl, show ((k : Int)).toNat = k from rfl, decide_eq_false this, Bool.and_false]
theorem verD_okX (l : List ByteArray) (k : Nat) (s : ByteArray) (h : l[k]? = some s) : verD (rootD l) l.length k s (proofD l k) = true := by
  have hk : k < l.length := (List.getElem?_eq_some_iff.1 h).1
  unfold verD
  rw [decide_eq_true (show (0 : Int) ≤ (k : Int) by omega), decide_eq_true (show (k : Int) < (l.length : Int) by omega), allD_iff.2 (proof_all _ l k (Nat.le_refl _))]
  rw [show ((l.length : Int)).toNat = l.length from rfl, show ((k : Int)).toNat = k from rfl, proof_val _ l k s (Nat.le_refl _) h]
  simp
theorem verD_outX (r : ByteArray) (n i : Int) (s : ByteArray) (q : List ByteArray) (h : i < 0 ∨ n ≤ i) : verD r n i s q = false := by
  unfold verD
  rcases h with h | h
  · rw [decide_eq_false (show ¬ 0 ≤ i by omega)]; simp
  · rw [decide_eq_false (show ¬ i < n by omega)]; simp
/-- a valid package's entry at i with what Prove gives -/
theorem prove_law {id ver : Int} {l : List En} (hV : validD id ver l = true) {i : Nat} {x : En} (hx : l[i]? = some x) :
    verM (rootP id ver l) id ver l.length i x (prP l (some i)) = true ∧ (∀ j : Int, j < 0 ∨ (l.length : Int) ≤ j → verM (rootP id ver l) id ver l.length j x (prP l (some i)) = false) ∧
      verM (rootP id ver l) id ver l.length i x ((prP l (some i)).drop 1) = false ∧ verM ⟨#[]⟩ id ver l.length i x (prP l (some i)) = false := by
  obtain ⟨hH, hE⟩ := valid_parts hV
  have hL : (l.map lineD)[i]? = some (lineD x) := by rw [List.getElem?_map, hx]; rfl
  have hn : (l.map lineD).length = l.length := List.length_map _
  have hR : rootP id ver l = boundD id ver l.length (rootD (l.map lineD)) := by unfold rootP; rw [if_pos hV]
  have e0 := hE x (List.mem_of_getElem? hx)
  refine ⟨?_, fun j hj => ?_, ?_, ?_⟩
  · unfold verM prP
    rw [hH, e0, hR]
    have := verD_okX _ _ _ hL
    rw [hn] at this
    simp [this]
  · unfold verM
    rw [verD_outX _ _ _ _ _ hj]
    simp
  · unfold verM prP
    simp only [List.drop_succ_cons, List.drop_zero]
    cases hq : proofD (l.map lineD) i with
    | nil => simp
    | cons y r =>
      have := verD_lenX y r hL (by rw [hq]; simp)
      rw [hn] at this
      simp [this]
  · unfold verM
    have : ¬ ((⟨#[]⟩ : ByteArray) = boundD id ver l.length ((prP l (some i)).getD 0 ⟨#[]⟩)) := fun e => by
      have h1 := congrArg ByteArray.size e
      rw [boundD_size] at h1
      cases h1
    rw [decide_eq_false this]
    simp
theorem prP_len (l : List En) (i : Nat) : (prP l (some i)).length = (proofD (l.map lineD) i).length + 1 := rfl
theorem prP_sizes (l : List En) (o : Option Nat) : ∀ y ∈ prP l o, y.size = 32 := by
  intro y hy
  cases o with
  | none => cases hy
  | some i =>
    rcases List.mem_cons.1 hy with rfl | hy
    · exact rootD_size _
    · exact proof_all _ _ _ (Nat.le_refl _) y hy
end
section
open Go Go.RowKit Go.Shelf

theorem given_mem {Z : List (ByteArray × ByteArray)} {p s : ByteArray} (h : givenD Z p = some s) : (p, s) ∈ Z := by
  unfold givenD at h
  obtain ⟨z, hz, rfl⟩ := Option.map_eq_some_iff.1 h
  have h1 := List.find?_some hz
  have h2 := List.mem_of_find?_eq_some hz
  have e := of_decide_eq_true h1
  rw [← e]; exact h2
/-- each key has one value -/
def FunZ (Z : List (ByteArray × ByteArray)) : Prop := ∀ p s t, (p, s) ∈ Z → (p, t) ∈ Z → s = t
theorem given_fun {Z : List (ByteArray × ByteArray)} (h : FunZ Z) {p s : ByteArray} (hm : (p, s) ∈ Z) : givenD Z p = some s := by
  cases hg : givenD Z p with
  | none => exact absurd rfl (given_none.1 hg (p, s) hm)
  | some t => rw [h p t s (given_mem hg) hm]
theorem mem_zip (A B : List ByteArray) (p s : ByteArray) : (p, s) ∈ A.zip B ↔ ∃ i : Nat, A[i]? = some p ∧ B[i]? = some s := by
  rw [List.mem_iff_getElem?]
  constructor
  · rintro ⟨i, h⟩; exact ⟨i, List.getElem?_zip_eq_some.1 h⟩
  · rintro ⟨i, h⟩; exact ⟨i, List.getElem?_zip_eq_some.2 h⟩
/-- what Check gives for a made package -/
theorem mad_chk {l : List ByteArray} {id ver I J : Int} {n : Nat} {E : List En} {P S : List ByteArray} (h : MadF l id ver I J n E P S) (Z : List (ByteArray × ByteArray)) (R : List ByteArray) (hR : AscL R)
    (hb : ∀ i f s, i < n → S[i]? = some s → (badE Z (mkEn (pathOf i) f s) = true ↔ pathOf i ∈ R))
    (hk : ∀ p, (∃ z ∈ Z, z.1 = p) → (∀ i, i < n → p ≠ pathOf i) → p ∈ R)
    (hr : ∀ p ∈ R, (∃ i, i < n ∧ p = pathOf i) ∨ ((∃ z ∈ Z, z.1 = p) ∧ ∀ i, i < n → p ≠ pathOf i)) : checkD I J E Z = R := by
  have hx : ∀ x ∈ E, ∃ i f s, i < n ∧ S[i]? = some s ∧ x = mkEn (pathOf i) f s := by
    intro x hx
    obtain ⟨i, hi⟩ := List.getElem?_of_mem hx
    have hi' := (List.getElem?_eq_some_iff.1 hi).1
    rw [h.eLen] at hi'
    obtain ⟨f, s, he, -, -, -, hs, -⟩ := h.at_ hi'
    rw [hi] at he
    exact ⟨i, f, s, hi', hs, Option.some.inj he⟩
  unfold checkD
  rw [if_pos h.valid]
  refine (chk_eq hR (fun p => ⟨fun hp => ?_, ?_⟩)).symm
  · rcases hr p hp with ⟨i, hi, rfl⟩ | ⟨h1, h2⟩
    · obtain ⟨f, s, he, -, -, -, hs, -⟩ := h.at_ hi
      exact .inl ⟨_, List.mem_of_getElem? he, (hb i f s hi hs).2 hp, rfl⟩
    · refine .inr ⟨h1, fun x hxE e => ?_⟩
      obtain ⟨i, f, s, hi, -, rfl⟩ := hx x hxE
      exact h2 i hi e.symm
  · rintro (⟨x, hxE, hbx, e⟩ | ⟨h1, h2⟩)
    · obtain ⟨i, f, s, hi, hs, rfl⟩ := hx x hxE
      have := (hb i f s hi hs).1 hbx
      rw [← e]; exact this
    · refine hk p h1 (fun i hi e => ?_)
      obtain ⟨f, s, he, -⟩ := h.at_ hi
      exact h2 _ (List.mem_of_getElem? he) e.symm
theorem bad_some {Z : List (ByteArray × ByteArray)} {p s t : ByteArray} {f : Int} (h : givenD Z p = some t) : badE Z (mkEn p f s) = !(decide ((t.size : Int) = (s.size : Int)) && decide (sha t = sha s)) := by
  unfold badE mkEn; simp only; rw [h]
theorem bad_own {Z : List (ByteArray × ByteArray)} {p s : ByteArray} {f : Int} (h : givenD Z p = some s) : badE Z (mkEn p f s) = false := by
  rw [bad_some h]; simp
/-- the paths' places -/
theorem MadF.path {l : List ByteArray} {id ver I J : Int} {n : Nat} {E : List En} {P S : List ByteArray} (h : MadF l id ver I J n E P S) {i : Nat} {p : ByteArray} (hp : P[i]? = some p) : i < n ∧ p = pathOf i := by
  have hi := (List.getElem?_eq_some_iff.1 hp).1
  rw [h.pLen] at hi
  obtain ⟨f, s, -, -, -, -, -, hq⟩ := h.at_ hi
  rw [hp] at hq
  exact ⟨hi, Option.some.inj hq⟩
theorem MadF.same {l : List ByteArray} {id ver I J : Int} {n : Nat} {E : List En} {P S : List ByteArray} (h : MadF l id ver I J n E P S) {i j : Nat} {p : ByteArray} (hp : P[i]? = some p) (hq : P[j]? = some p) : i = j := by
  obtain ⟨h1, e1⟩ := h.path hp
  obtain ⟨h2, e2⟩ := h.path hq
  have := h.bounds
  exact path_inj i (by omega) j (by omega) (e1.symm.trans e2)
theorem MadF.funZ {l : List ByteArray} {id ver I J : Int} {n : Nat} {E : List En} {P S : List ByteArray} (h : MadF l id ver I J n E P S) (T : List ByteArray) : FunZ (P.zip T) := by
  intro p s t h1 h2
  obtain ⟨i, hi, hs⟩ := (mem_zip _ _ _ _).1 h1
  obtain ⟨j, hj, ht⟩ := (mem_zip _ _ _ _).1 h2
  obtain rfl := h.same hi hj
  exact Option.some.inj (hs.symm.trans ht)
theorem MadF.key {l : List ByteArray} {id ver I J : Int} {n : Nat} {E : List En} {P S : List ByteArray} (h : MadF l id ver I J n E P S) {T : List ByteArray} {p : ByteArray} (hk : ∃ z ∈ P.zip T, z.1 = p) : ∃ i, i < n ∧ p = pathOf i := by
  obtain ⟨⟨q, s⟩, hz, rfl⟩ := hk
  obtain ⟨i, hi, -⟩ := (mem_zip _ _ _ _).1 hz
  obtain ⟨h1, h2⟩ := h.path hi
  exact ⟨i, h1, h2⟩
theorem MadF.pAt {l : List ByteArray} {id ver I J : Int} {n : Nat} {E : List En} {P S : List ByteArray} (h : MadF l id ver I J n E P S) {i : Nat} (hi : i < n) : P[i]? = some (pathOf i) := by
  obtain ⟨f, s, -, -, -, -, -, hq⟩ := h.at_ hi
  exact hq
theorem ascL_one (x : ByteArray) : AscL [x] := by unfold AscL; simp
/-- a stream that is another one is named, unless it has the same length and digest -/
theorem fix_d {l : List ByteArray} {id ver I J : Int} {n : Nat} {E : List En} {P S : List ByteArray} (h : MadF l id ver I J n E P S) {k : Nat} {s o : ByteArray} (hk : S[k]? = some s) :
    checkD I J E (P.zip (S.set k o)) = if o.size = s.size ∧ sha o = sha s then [] else [pathOf k] := by
  have hkn : k < n := by rw [← h.sLen]; exact (List.getElem?_eq_some_iff.1 hk).1
  have hat : ∀ i t, i < n → S[i]? = some t → i ≠ k → givenD (P.zip (S.set k o)) (pathOf i) = some t := fun i t hi hs hne =>
    given_fun (h.funZ _) ((mem_zip _ _ _ _).2 ⟨i, h.pAt hi, by rw [List.getElem?_set_ne (fun e => hne e.symm)]; exact hs⟩)
  have hatk : givenD (P.zip (S.set k o)) (pathOf k) = some o :=
    given_fun (h.funZ _) ((mem_zip _ _ _ _).2 ⟨k, h.pAt hkn, by rw [List.getElem?_set_self (by rw [h.sLen]; exact hkn)]⟩)
  have hbk : ∀ f, badE (P.zip (S.set k o)) (mkEn (pathOf k) f s) = !decide (o.size = s.size ∧ sha o = sha s) := fun f => by
    rw [bad_some hatk, Bool.decide_and]
    congr 2
    simp only [decide_eq_decide]; omega
  have hnm : ∀ i, i < n → i ≠ k → pathOf i ≠ pathOf k := fun i hi hne e => by
    have := h.bounds
    exact hne (path_inj i (by omega) k (by omega) e)
  split
  · rename_i hc
    refine mad_chk h _ [] List.Pairwise.nil (fun i f t hi hs => ?_) (fun p hp hn => ?_) (fun p hp => by cases hp)
    · by_cases hik : i = k
      · subst hik
        obtain rfl := Option.some.inj (hk.symm.trans hs)
        rw [hbk, decide_eq_true hc]; simp
      · rw [bad_own (hat i t hi hs hik)]; simp
    · obtain ⟨i, hi, e⟩ := h.key hp
      exact absurd e (hn i hi)
  · rename_i hc
    refine mad_chk h _ _ (ascL_one _) (fun i f t hi hs => ?_) (fun p hp hn => ?_) (fun p hp => ?_)
    · by_cases hik : i = k
      · subst hik
        obtain rfl := Option.some.inj (hk.symm.trans hs)
        rw [hbk, decide_eq_false hc]; simp
      · rw [bad_own (hat i t hi hs hik)]
        simp only [Bool.false_eq_true, List.mem_singleton, false_iff]
        exact hnm i hi hik
    · obtain ⟨i, hi, e⟩ := h.key hp
      exact absurd e (hn i hi)
    · rw [List.mem_singleton] at hp
      exact .inl ⟨k, hkn, hp⟩
end
section
open Go Go.RowKit Go.Shelf

/-- the parts of a slice of strings -/
theorem strs_parts {p : Option Addr} {n c : Nat} {L : List ByteArray} {w : World} (h : StrsAt (.slice p n c) L w) (hn : L.length = n) (h0 : 0 < n) : ∃ g off, p = some ⟨g, off, none⟩ ∧ n ≤ c ∧ c ≤ maxLen ∧ (∀ j x, L[j]? = some x → w.cell? ⟨g, off + j, none⟩ = some (.string x)) ∧
    ∀ k, k ≤ n → StrsAt (.slice (some ⟨g, off, none⟩) k c) (L.take k) w ∧ ∃ o1, StrsAt (.slice (some ⟨g, o1, none⟩) (n - k) (c - k)) (L.drop k) w ∧ ((c = k ∧ o1 = off) ∨ (c ≠ k ∧ o1 = off + k)) := by
  rcases h with ⟨_, h1⟩ | ⟨g, off, cap, he, h1, h2, hc⟩
  · rw [h1] at hn; simp at hn; omega
  · injection he with e1 e2 e3
    subst e1 e3
    rw [hn] at h1
    refine ⟨g, off, rfl, h1, h2, hc, fun k hk => ⟨.inr ⟨g, off, c, by rw [List.length_take, hn, Nat.min_eq_left hk], by rw [List.length_take]; omega, h2, fun j x hj => ?_⟩, ?_⟩⟩
    · rw [List.getElem?_take] at hj
      split at hj
      · exact hc j x hj
      · cases hj
    · by_cases hck : c = k
      · refine ⟨off, .inr ⟨g, off, c - k, by rw [List.length_drop, hn], by rw [List.length_drop]; omega, by omega, fun j x hj => ?_⟩, .inl ⟨hck, rfl⟩⟩
        have := (List.getElem?_eq_some_iff.1 hj).1
        rw [List.length_drop] at this; omega
      · refine ⟨off + k, .inr ⟨g, off + k, c - k, by rw [List.length_drop, hn], by rw [List.length_drop]; omega, by omega, fun j x hj => ?_⟩, .inr ⟨hck, rfl⟩⟩
        rw [List.getElem?_drop] at hj
        rw [Nat.add_assoc]; exact hc _ x hj
theorem sC_set (L : List ByteArray) (k : Nat) (x : ByteArray) : sC (L.set k x) = (sC L).set k (.string x) := by
  unfold sC; rw [List.map_set]
/-- a store of one string into a list of one's own -/
theorem ownL_put {B g off n c : Nat} {L : List ByteArray} {w : World} (h : OwnL B L (.slice (some ⟨g, off, none⟩) n c) w) (k : Nat) (hk : k < L.length) (x : ByteArray) :
    OwnL B (L.set k x) (.slice (some ⟨g, off, none⟩) n c) (w.setCell ⟨g, off + k, none⟩ (.string x)) := by
  have hn : L.length = n := by
    rcases h.2 with ⟨he, h0⟩ | ⟨g', off', cap', he, -⟩
    · cases he
    · injection he with e1 e2 e3; exact e2.symm
  subst hn
  have := Own.put1 h k (by simpa [sC] using hk) (.string x)
  unfold OwnL
  rw [sC_set, List.length_set]; exact this
theorem ownL_shape {B : Nat} {L : List ByteArray} {v : Value} {n : Nat} {w : World} (h : OwnL B L v w) (hn : L.length = n) (h0 : 0 < n) : ∃ g off c, v = .slice (some ⟨g, off, none⟩) n c ∧ B ≤ g ∧ n ≤ c ∧ c ≤ maxLen := by
  subst hn
  rcases h.2 with ⟨_, h1⟩ | ⟨g, off, cap, he, h1, h2, h3, -⟩
  · omega
  · exact ⟨g, off, cap, he, h1, h2, h3⟩
theorem ownL_cell {B g off n c : Nat} {L : List ByteArray} {w : World} (h : OwnL B L (.slice (some ⟨g, off, none⟩) n c) w) {k : Nat} {x : ByteArray} (hx : L[k]? = some x) : w.cell? ⟨g, off + k, none⟩ = some (.string x) := by
  rcases h.2 with ⟨he, _⟩ | ⟨g', off', cap', he, _, _, _, hc, _⟩
  · cases he
  · injection he with e1 e2 e3
    injection e1 with e1
    injection e1 with e1 e4
    subst e1 e4
    exact hc k _ (by rw [sC, List.getElem?_map, hx]; rfl)
theorem ownL_free {B g off n c : Nat} {L : List ByteArray} {w : World} (h : OwnL B L (.slice (some ⟨g, off, none⟩) n c) w) {k : Nat} (hk : k < n) : w.frozen? ⟨g, off + k, none⟩ = false := by
  rcases h.2 with ⟨he, _⟩ | ⟨g', off', cap', he, _, h2, _, _, hc⟩
  · cases he
  · injection he with e1 e2 e3
    injection e1 with e1
    injection e1 with e1 e4
    subst e1 e4 e3
    exact (hc k (by omega)).2
theorem strs_cell {g off n c : Nat} {L : List ByteArray} {w : World} (h : StrsAt (.slice (some ⟨g, off, none⟩) n c) L w) {k : Nat} {x : ByteArray} (hx : L[k]? = some x) : w.cell? ⟨g, off + k, none⟩ = some (.string x) := by
  rcases h with ⟨he, _⟩ | ⟨g', off', cap', he, _, _, hc⟩
  · cases he
  · injection he with e1 e2 e3
    injection e1 with e1
    injection e1 with e1 e4
    subst e1 e4
    exact hc k _ hx
theorem one_parts {B : Nat} {p : Option Addr} {c : Nat} {x : ByteArray} {w : World} (h : OwnL B [x] (.slice p 1 c) w) : ∃ g off, p = some ⟨g, off, none⟩ ∧ 1 ≤ c ∧ w.cell? ⟨g, off, none⟩ = some (.string x) := by
  obtain ⟨g, off, rfl, h1, -, h2, -⟩ := strs_parts h.strs rfl (by decide)
  exact ⟨g, off, rfl, h1, h2 0 _ rfl⟩
theorem cutD_small (s : ByteArray) (n : Nat) : (s.extract 0 (min s.size n)).size ≤ n := by
  rw [ByteArray.size_extract]; omega
end
section
open Go Go.RowKit Go.Shelf
attribute [local go_sem] gAt gUpon
attribute [local simp] Gr.refl Gr.alloc

end
section
open Go Go.RowKit Go.Shelf
attribute [local go_sem] gAt gUpon
attribute [local simp] Gr.refl Gr.alloc

/-- the answer behind the first i entries -/
def fA (Z : List (ByteArray × ByteArray)) (l : List En) (i : Nat) : List ByteArray := (l.take i).foldl (fun out x => if badE Z x then addL out x.path else out) []
def knowD (l : List En) (p : ByteArray) : Bool := l.any fun x => decide (x.path = p)
/-- the answer behind the first j paths -/
def fB (Z : List (ByteArray × ByteArray)) (l : List En) (j : Nat) : List ByteArray := ((Z.map (·.1)).take j).foldl (fun out p => if knowD l p then out else addL out p) (fA Z l l.length)
end
end Go.Proofs.YtaoggehdkddgeaaGreatDoor
end
section
namespace Go.Proofs.YtaoggehdkddgeaaGreatDoor
open Go Go.RowKit Go.Shelf

/-- the streams, the document first -/
def topS (l : List ByteArray) (s : ByteArray) (n : Nat) : List ByteArray := (somS l n).set 0 s
def topE (l : List ByteArray) (s : ByteArray) (n : Nat) : List En := entsD (somP n) (somF l n) (topS l s n) n
theorem topS_len {l : List ByteArray} {n : Nat} (hn : l.length = n) (s : ByteArray) : (topS l s n).length = n := by
  unfold topS; rw [List.length_set, somS_len (by omega)]
theorem topE_len (l : List ByteArray) (s : ByteArray) (n : Nat) : (topE l s n).length = n := entsD_len _ _ _ _
theorem top_at {l : List ByteArray} {n : Nat} (hn : l.length = n) {s : ByteArray} (hs : s.size ≤ 40000) {i : Nat} (hi : i < n) :
    ∃ f t, (topE l s n)[i]? = some (mkEn (pathOf i) f t) ∧ 0 ≤ f ∧ f < 5 ∧ t.size ≤ 40000 ∧ (topS l s n)[i]? = some t ∧ (somP n)[i]? = some (pathOf i) := by
  have hp : (somP n)[i]? = some (pathOf i) := by unfold somP; rw [List.getElem?_map, List.getElem?_range hi]; rfl
  obtain ⟨x, hx⟩ : ∃ x, l[i]? = some x := ⟨_, List.getElem?_eq_getElem (by omega)⟩
  have hf : (somF l n)[i]? = some (pickD ((x.size : Int) * 7 + (i : Int)) 5 : Int) := by
    unfold somF; rw [List.getElem?_map, List.getElem?_range hi]
    simp [List.getD_eq_getElem?_getD, hx]
  have hlt := pickD_lt ((x.size : Int) * 7 + (i : Int)) 5 (by decide)
  obtain ⟨t, ht, hts⟩ : ∃ t, (topS l s n)[i]? = some t ∧ t.size ≤ 40000 := by
    unfold topS
    by_cases h0 : i = 0
    · subst h0
      exact ⟨s, List.getElem?_set_self (by rw [somS_len (by omega)]; exact hi), hs⟩
    · refine ⟨cutD x 40, ?_, by rw [cutD_size]; omega⟩
      rw [List.getElem?_set_ne (fun e => h0 e.symm)]
      unfold somS; rw [List.getElem?_map, List.getElem?_take_of_lt hi, hx]; rfl
  refine ⟨(pickD ((x.size : Int) * 7 + (i : Int)) 5 : Int), t, ?_, by omega, by omega, hts, ht, hp⟩
  unfold topE entsD
  rw [List.getElem?_map, List.getElem?_range hi]
  simp [List.getD_eq_getElem?_getD, hp, hf, ht]
theorem top_valid {l : List ByteArray} {n : Nat} (hn : l.length = n) (h1 : 1 ≤ n) (h12 : n ≤ 12) {s : ByteArray} (hs : s.size ≤ 40000) : validD 5 1 (topE l s n) = true := by
  unfold validD
  have hH : headB 5 1 ((topE l s n).length : Int) = true := by
    unfold headB
    rw [topE_len]
    rw [withinB_iff.2 (by omega), withinB_iff.2 (by omega)]
    simp only [Bool.true_and]
    exact withinB_iff.2 (by omega)
  have hE : (topE l s n).all entB = true := by
    rw [List.all_eq_true]
    intro x hx
    obtain ⟨i, hi⟩ := List.getElem?_of_mem hx
    have hi' := (List.getElem?_eq_some_iff.1 hi).1
    rw [topE_len] at hi'
    obtain ⟨f, t, he, hf0, hf5, ht, -, -⟩ := top_at hn hs hi'
    rw [hi] at he
    injection he with he
    subst he
    unfold entB mkEn
    simp only
    rw [path_good i (by omega), sha_size]
    simp only [Bool.true_and, Bool.and_eq_true, decide_eq_true_eq]
    exact ⟨withinB_iff.2 (by omega), withinB_iff.2 (by omega), trivial⟩
  have hA : ascN (topE l s n) (topE l s n).length = true := by
    unfold ascN
    rw [List.all_eq_true]
    intro i hi
    have hi := List.mem_range.1 hi
    rw [topE_len] at hi
    obtain ⟨f, t, he, -⟩ := top_at (l := l) (n := n) (i := i) hn hs (by omega)
    obtain ⟨f', t', he', -⟩ := top_at (l := l) (n := n) (i := i + 1) hn hs (by omega)
    rw [getD_at he, getD_at he']
    exact path_lt i (by omega)
  rw [hH, hE, hA]; rfl
theorem top_mad {l : List ByteArray} {n : Nat} (hn : l.length = n) (h1 : 1 ≤ n) (h12 : n ≤ 12) {s : ByteArray} (hs : s.size ≤ 40000) : MadF l 0 0 5 1 n (topE l s n) (somP n) (topS l s n) :=
  ⟨topE_len _ _ _, somP_len _, topS_len hn s, ⟨h1, h12⟩, top_valid hn h1 h12 hs, ⟨⟨by decide, by decide⟩, by decide, by decide⟩, fun hi => top_at hn hs hi⟩
theorem top_ok {l : List ByteArray} {n : Nat} (hn : l.length = n) (h1 : 1 ≤ n) (h12 : n ≤ 12) {s : ByteArray} (hs : s.size ≤ 40000) : mkOk 5 1 (somP n) (somF l n) (topS l s n) = true := by
  unfold mkOk
  rw [somP_len, somF_len, topS_len hn, decide_eq_true rfl, Bool.true_and, Bool.true_and]
  exact top_valid hn h1 h12 hs
theorem top_first {l : List ByteArray} {n : Nat} (hn : l.length = n) (h1 : 1 ≤ n) {s : ByteArray} (hs : s.size ≤ 40000) : ∃ f, (topE l s n)[0]? = some (mkEn (pathOf 0) f s) ∧ I64 f := by
  obtain ⟨f, t, he, h0, h5, -, ht, -⟩ := top_at hn hs (i := 0) (by omega)
  have : (topS l s n)[0]? = some s := by unfold topS; exact List.getElem?_set_self (by rw [somS_len (by omega)]; omega)
  obtain rfl := Option.some.inj (ht.symm.trans this)
  exact ⟨f, he, by unfold I64; omega⟩
theorem top_pr {l : List ByteArray} {n : Nat} (hn : l.length = n) (h1 : 1 ≤ n) (h12 : n ≤ 12) {s : ByteArray} (hs : s.size ≤ 40000) : prI 5 1 (topE l s n) (pathOf 0) = some 0 := by
  obtain ⟨f, he, -⟩ := top_first hn h1 hs
  unfold prI
  rw [if_pos (top_valid hn h1 h12 hs)]
  exact idx_yes he rfl (fun j y hj hy => by omega)
theorem top_proved {l : List ByteArray} {n : Nat} (hn : l.length = n) (h1 : 1 ≤ n) (h12 : n ≤ 12) {s : ByteArray} (hs : s.size ≤ 40000) {x : En} (hx : (topE l s n)[0]? = some x) :
    verM (rootP 5 1 (topE l s n)) 5 1 n 0 x (prP (topE l s n) (some 0)) = true := by
  have := (prove_law (top_valid hn h1 h12 hs) hx).1
  rw [topE_len] at this
  exact this
theorem top_small (l : List ByteArray) (s : ByteArray) {n : Nat} (h12 : n ≤ 12) : (prP (topE l s n) (some 0)).length ≤ 1000 ∧ ∀ y ∈ prP (topE l s n) (some 0), y.size ≤ 1000 := by
  refine ⟨?_, fun y hy => by rw [prP_sizes _ _ y hy]; decide⟩
  rw [prP_len]
  have := proof_short 10 ((topE l s n).map lineD) 0 (by rw [List.length_map, topE_len]; omega)
  omega
/-- is the other stream as good as the document? -/
def luckB (s o : ByteArray) : Bool := decide (o = s) || (decide (o.size = s.size) && decide (sha o = sha s))
theorem luck_iff (s o : ByteArray) : luckB s o = true ↔ (o.size = s.size ∧ sha o = sha s) := by
  unfold luckB
  simp only [Bool.or_eq_true, Bool.and_eq_true, decide_eq_true_eq]
  constructor
  · rintro (rfl | h)
    · exact ⟨rfl, rfl⟩
    · exact h
  · exact fun h => .inr h
theorem top_wrong {l : List ByteArray} {n : Nat} (hn : l.length = n) (h1 : 1 ≤ n) (h12 : n ≤ 12) {s : ByteArray} (hs : s.size ≤ 40000) (o : ByteArray) :
    checkD 5 1 (topE l s n) ((somP n).zip ((topS l s n).set 0 o)) = if luckB s o then [] else [pathOf 0] := by
  have hS : (topS l s n)[0]? = some s := by unfold topS; exact List.getElem?_set_self (by rw [somS_len (by omega)]; omega)
  rw [fix_d (top_mad hn h1 h12 hs) hS]
  by_cases h : o.size = s.size ∧ sha o = sha s
  · rw [if_pos h, if_pos ((luck_iff s o).2 h)]
  · rw [if_neg h, if_neg (fun e => h ((luck_iff s o).1 e))]
end Go.Proofs.YtaoggehdkddgeaaGreatDoor
end
section
namespace Go.Proofs.YtaoggehdkddgeaaGreatDoor
open Go Go.RowKit Go.Shelf

section
variable {P : Program} {ops : Array Oper} {Q : Exit → Act → World → Prop} {md : Region.Mode} {S : World → Prop} {X : Nat → Bool} {fuel : Nat} {listed : Array Bool} {a : Act} {w : World}
/-- one of two operations comes up: either is carried out -/
theorem u_two (i j : Nat) {oi oj : Oper} (hr : Region.ready md ops listed = [i, j]) (hi : ops[i]? = some oi) (hj : ops[j]? = some oj) (hwi : Region.wanted oi (yielded ops a.tmps) = true) (hwj : Region.wanted oj (yielded ops a.tmps) = true)
    (h1 : pUpon P Q a (fun v w' => (X i = false → S w') ∧ wpAnyU P md ops Q S X fuel (listed.setIfInBounds i true) (a.put oi.dst v) w') ((execOp a.eval oi).run P w))
    (h2 : pUpon P Q a (fun v w' => (X j = false → S w') ∧ wpAnyU P md ops Q S X fuel (listed.setIfInBounds j true) (a.put oj.dst v) w') ((execOp a.eval oj).run P w)) : wpAnyU P md ops Q S X (fuel + 1) listed a w := by
  refine ⟨fun h0 => (by rw [hr] at h0; cases h0), fun k hk => ?_⟩
  rw [hr] at hk
  rcases List.mem_cons.1 hk with rfl | hk
  · unfold wpOp
    simp only [hi, hwi, if_true]
    refine .inl ?_
    unfold Oper.wp
    generalize (execOp a.eval oi).run P w = r at h1 ⊢
    cases r with
    | halt x w' => simp only [pUpon] at h1
    | ok nx w' =>
      cases nx <;> simp only [pUpon] at h1 <;> simp only [Oper.upon]
      case value u => exact h1
      case skip => exact h1
      case enter f args =>
        refine h1.mono fun e w'' he => ?_
        rcases he with ⟨v, rfl, hc⟩ | ⟨c, rfl, hc⟩
        · exact hc
        · exact hc
  · obtain rfl := List.mem_singleton.1 hk
    unfold wpOp
    simp only [hj, hwj, if_true]
    refine .inl ?_
    unfold Oper.wp
    generalize (execOp a.eval oj).run P w = r at h2 ⊢
    cases r with
    | halt x w' => simp only [pUpon] at h2
    | ok nx w' =>
      cases nx <;> simp only [pUpon] at h2 <;> simp only [Oper.upon]
      case value u => exact h2
      case skip => exact h2
      case enter f args =>
        refine h2.mono fun e w'' he => ?_
        rcases he with ⟨v, rfl, hc⟩ | ⟨c, rfl, hc⟩
        · exact hc
        · exact hc
end
theorem row_cellP {w : World} {b k : Nat} {cs : Array Value} {t : TypeId} {fr : Nat × Nat} {v : Value} (h : w.heap[b]? = some (.cells cs t fr)) (hc : w.cell? ⟨b, k, none⟩ = some v) : cs[k]? = some v := by
  simp [World.cell?, h] at hc
  exact hc
/-- a block that holds an empty entry is not the one of a list of digests -/
theorem ent_apart {B m bn c : Nat} {L : List ByteArray} {p : Option Addr} {w : World} {t : TypeId} (hO : OwnL B L (.slice p m c) w) (hm : m = L.length) (h0 : 0 < m) (hL : ∀ y ∈ L, y.size = 32)
    (hb : w.heap[bn]? = some (.cells #[.string ⟨#[]⟩, .int .i64 0, .int .i64 0, .string ⟨#[]⟩] t (0, 0))) : (Value.slice p m c).ownBlock = none ∨ (Value.slice p m c).ownBlock ≠ some bn := by
  refine .inr (fun e => ?_)
  obtain ⟨y, hy⟩ : ∃ y, L[0]? = some y := ⟨_, List.getElem?_eq_getElem (by omega)⟩
  have hys := hL y (List.mem_of_getElem? hy)
  rcases hO.strs with ⟨he, h1⟩ | ⟨g, off, cap, he, -, -, hc⟩
  · rw [h1] at hy; cases hy
  · injection he with e1 e2 e3
    subst e1
    simp [Value.ownBlock] at e
    subst e
    have h2 := row_cellP hb (hc 0 y hy)
    have h3 : y = ⟨#[]⟩ := by
      match off, h2 with
      | 0, h2 => simpa using h2.symm
      | 1, h2 => simp at h2
      | 2, h2 => simp at h2
      | 3, h2 => simpa using h2.symm
      | k + 4, h2 => simp at h2
    rw [h3] at hys
    cases hys
/-- behind Prove's call: the entry in a block of its own, the proof a new slice -/
def PvCut (w0 : World) (x : En) (k m : Nat) (L : List ByteArray) (v14 v15 v16 v17 : Value) (w : World) : Prop :=
  ∃ bn p c, v14 = .pointer (some ⟨bn, 0, none⟩) ∧ v15 = .int .i64 (k : Int) ∧ v16 = .slice p m c ∧ v17 = .int .i64 0 ∧ Gr w0 w ∧ w.heap[bn]? = some (.cells #[.string x.path, .int .i64 x.fmt, .int .i64 x.len, .string x.dig] 51 (0, 0)) ∧ OwnL 0 L (.slice p m c) w
/-- an append of a list of strings that came in, at the operation -/
theorem append_strsI {w : World} {ops : Array Oper} {rest : List Oper} {o : Oper} {a : Act} {Q : Exit → Act → World → Prop}
    (hg : o.guard = none) (s x : Operand) (hop : o.op = Op.call { callee := Callee.builtin Builtin.append, args := #[s, x], argTypes := #[27, 27] })
    {B : Nat} {v u : Value} {L M : List ByteArray} (hs : a.eval s = v) (hown : OwnL B L v w) (hx : a.eval x = u) (hM : StrsIn u M w) (b1 : L.length + M.length ≤ 1000000) (hB : B ≤ w.heap.size)
    (h : ∀ v' w', OwnL B (L ++ M) v' w' → Chg v.ownBlock w w' → wpList Tryz.prog ops Q rest (a.put o.dst v') w') : wpList Tryz.prog ops Q (o :: rest) a w := by
  rcases hM with hM | ⟨rfl, pu, cu, rfl⟩
  · exact append_strs hg s x hop hs hown hx hM b1 hB h
  · obtain ⟨iS, hi, hz0, hz1, hz2⟩ := info_parts infoStr
    obtain ⟨pv, cv, hv, hle⟩ : ∃ p c, v = .slice p L.length c ∧ L.length ≤ c := by
      rcases hown.2 with ⟨hv, h1⟩ | ⟨g, off, cap, hv, _, h2, _⟩
      · exact ⟨none, 0, by rw [hv, h1], by omega⟩
      · exact ⟨_, cap, hv, h2⟩
    subst hv
    refine wpList_append_zero w hg s x _ hop iS Tryz.underlying27 hi hle hs hx ?_
    exact h _ _ (by rw [List.append_nil]; exact hown) (Chg.of_gr (Gr.refl _))
theorem StrsIn.take {p : Option Addr} {n c : Nat} {l : List ByteArray} {w : World} (h : StrsIn (.slice p n c) l w) (hn : l.length = n) (m : Nat) (hm : m ≤ n) : StrsIn (.slice p m c) (l.take m) w ∧ n ≤ c := by
  rcases h with h | ⟨rfl, p', c', he⟩
  · rcases h with ⟨he, h0⟩ | ⟨g, off, cap, he, h1, h2, hc⟩
    · injection he with e1 e2 e3
      subst h0 e2
      obtain rfl : m = 0 := by omega
      exact ⟨.inr ⟨rfl, p, c, rfl⟩, by omega⟩
    · injection he with e1 e2 e3
      subst e1 e3
      refine ⟨.inl (.inr ⟨g, off, c, by rw [List.length_take, hn, Nat.min_eq_left hm], by rw [List.length_take]; omega, h2, fun j x hj => ?_⟩), by omega⟩
      rw [List.getElem?_take] at hj
      split at hj
      · exact hc j x hj
      · cases hj
  · have : n = 0 := by rw [← hn]; rfl
    subst this
    obtain rfl : m = 0 := by omega
    exact ⟨.inr ⟨rfl, p, c, rfl⟩, Nat.zero_le _⟩
/-- what is known of the law's package -/
structure TopF (s : ByteArray) (n : Nat) (E : List En) (S : List ByteArray) : Prop where
  len : E.length = n
  slen : S.length = n
  path : ∀ x ∈ E, x.path.size ≤ 9223372036854775807
  first : ∃ f, E[0]? = some (mkEn (pathOf 0) f s) ∧ I64 f
  pr : prI 5 1 E (pathOf 0) = some 0
  ver : ∀ x, E[0]? = some x → verM (rootP 5 1 E) 5 1 n 0 x (prP E (some 0)) = true
  small : (prP E (some 0)).length ≤ 1000 ∧ ∀ y ∈ prP E (some 0), y.size ≤ 1000
  wrong : ∀ o, checkD 5 1 E ((somP n).zip (S.set 0 o)) = if luckB s o then [] else [pathOf 0]
  ssm : ∀ x ∈ S, x.size ≤ 40000
theorem topF {l : List ByteArray} {n : Nat} (hn : l.length = n) (h1 : 1 ≤ n) (h12 : n ≤ 12) {s : ByteArray} (hs : s.size ≤ 40000) : TopF s n (topE l s n) (topS l s n) :=
  have h := top_mad hn h1 h12 hs
  ⟨h.eLen, h.sLen, h.ePath, top_first hn h1 hs, top_pr hn h1 h12 hs, fun _ hx => top_proved hn h1 h12 hs hx, top_small l s h12, fun o => top_wrong hn h1 h12 hs o, h.sSmall⟩
theorem somP_small (n : Nat) : ∀ x ∈ somP n, x.size = 3 := by
  intro x hx
  unfold somP at hx
  obtain ⟨i, -, rfl⟩ := List.mem_map.1 hx
  rfl
theorem som_first {n : Nat} (h1 : 1 ≤ n) : (somP n)[0]? = some (pathOf 0) := by unfold somP; rw [List.getElem?_map, List.getElem?_range (by omega)]; rfl
/-- Make, of the law's streams -/
theorem top_make (vp vf vs : Value) {L : List ByteArray} {n : Nat} (hn : L.length = n) (h1 : 1 ≤ n) (h12 : n ≤ 12) {s : ByteArray} (hs : s.size ≤ 40000) (w : World) (hp : StrsAt vp (somP n) w) (hf : Rws 1 inC vf (somF L n) w) (hv : StrsAt vs (topS L s n) w) (hT : Tab w) :
    Calls Tryz.prog 9 #[.int .i64 5, .int .i64 1, vp, vf, vs] w fun e w' => ∃ p c, e = .returned (.tuple #[.agg #[.int .i64 5, .int .i64 1, .slice p n c], .int .i64 0]) ∧ Own w.heap.size 4 (.slice p n c) n ((topE L s n).flatMap enC) w' ∧ Gr w w' := by
  have hF := topF hn h1 h12 hs
  have := make_any 5 1 vp vf vs (somP n) (somF L n) (topS L s n) w hp hf hv (by rw [somP_len]; omega) (by rw [hF.slen]; omega) (fun x hx => by rw [somP_small n x hx]; decide) (fun x hx => Nat.le_trans (hF.ssm x hx) (by decide)) hT
  rw [top_ok hn h1 h12 hs, hF.slen] at this
  refine this.mono ?_
  rintro e w' ⟨v, rfl, ho, hg⟩
  obtain ⟨p, c, rfl⟩ := ho.slice
  have hlen : (mkL true (entsD (somP n) (somF L n) (topS L s n) n)).length = n := hF.len
  rw [hlen] at ho
  refine ⟨p, c, ?_, ho, hg⟩
  rw [hlen]; rfl
/-- the package in its variable, its paths and streams -/
structure TopM (w : World) (bp n : Nat) (E : List En) (P S : List ByteArray) (pe : Option Addr) (ce gp op cp gs os cs : Nat) (W : World) : Prop where
  g : Gr w W
  r : W.heap[bp]? = some (.cells #[.int .i64 5, .int .i64 1, .slice pe n ce] 43 (0, 0))
  e : Rws 4 enC (.slice pe n ce) E W
  p : StrsAt (.slice (some ⟨gp, op, none⟩) n cp) P W
  s : OwnL 0 S (.slice (some ⟨gs, os, none⟩) n cs) W
theorem TopM.gr {w : World} {bp n : Nat} {E : List En} {P S : List ByteArray} {pe : Option Addr} {ce gp op cp gs os cs : Nat} {W x : World} (h : TopM w bp n E P S pe ce gp op cp gs os cs W) (hg : Gr W x) : TopM w bp n E P S pe ce gp op cp gs os cs x :=
  ⟨h.g.trans hg, hg.block h.r, h.e.gr hg, h.p.gr hg, OwnL.gr h.s hg⟩
/-- Check's answer, under names, at streams of up to 40000 bytes -/
theorem chk_top {I J : Int} {E : List En} {v vp vs : Value} {A T R : List ByteArray} {m : Nat} (w : World) (hv : Rws 4 enC v E w) (hE : E.length ≤ 1000) (hEp : ∀ x ∈ E, x.path.size ≤ 9223372036854775807) (hp : StrsAt vp A w) (hs : StrsAt vs T w) (hA : A.length ≤ 10000) (hA2 : ∀ x ∈ A, x.size ≤ 1000) (hT2 : ∀ x ∈ T, x.size ≤ 40000) (hT : Tab w)
    (hR : checkD I J E (A.zip T) = R) (hm : R.length = m) :
    Calls Tryz.prog 16 #[.agg #[.int .i64 I, .int .i64 J, v], vp, vs] w fun e w' => ∃ p c, e = .returned (.slice p m c) ∧ OwnL w.heap.size R (.slice p m c) w' ∧ Gr w w' := by
  refine (check_any I J v vp vs E A T w hv hp hs (by omega) hA hEp (fun x hx => Nat.le_trans (hA2 x hx) (by decide)) (fun x hx => ⟨Nat.le_trans (hT2 x hx) (by decide), Nat.le_trans (hT2 x hx) (by decide)⟩) hT).mono ?_
  rintro e w' ⟨u, rfl, ho, hg⟩
  rw [hR] at ho
  obtain ⟨p, c, rfl⟩ := ho.strs.shape
  rw [hm] at ho ⊢
  exact ⟨p, c, rfl, ho, hg⟩
theorem StrsAt.chgB {v : Value} {L : List ByteArray} {w x : World} {b : Option Nat} (h : StrsAt v L w) (hc : Chg b w x) (hb : ∀ g, v.ownBlock = some g → some g ≠ b) : StrsAt v L x := by
  rcases h with h | ⟨g, off, cap, rfl, h1, h2, h3⟩
  · exact .inl h
  · exact .inr ⟨g, off, cap, rfl, h1, h2, fun j y hy => hc.cell (h3 j y hy) (hb g rfl)⟩
/-- the first stream is another one -/
theorem TopM.put {w : World} {bp n : Nat} {E : List En} {P S : List ByteArray} {pe : Option Addr} {ce gp op cp gs os cs : Nat} {W : World} (h : TopM w bp n E P S pe ce gp op cp gs os cs W) (hbp : gs < bp) (hpe : ∀ g, (Value.slice pe n ce).ownBlock = some g → gs < g) (hgp : gp ≠ gs) (hw : w.heap.size ≤ gs) (hS : S.length = n) (h0 : 0 < n) (o : ByteArray) :
    TopM w bp n E P (S.set 0 o) pe ce gp op cp gs os cs (W.setCell ⟨gs, os, none⟩ (.string o)) := by
  have hch : Chg (some gs) W (W.setCell ⟨gs, os, none⟩ (.string o)) := setCells_chg gs [.string o] os W
  refine ⟨gr_step h.g (Gr.refl _) hch (fun g e => by cases e; exact hw), hch.block h.r (fun e => ?_), h.e.chg hch (fun g e e' => ?_), h.p.chgB hch (fun g e e' => ?_), ownL_put h.s 0 (by omega) o⟩
  · injection e with e; omega
  · injection e' with e'; have := hpe g e; omega
  · injection e' with e'
    simp [Value.ownBlock] at e
    exact hgp (e.trans e')
/-- what the loads ahead of Prove's call read, at the law -/
def TvS (b n : Nat) (p : Option Addr) (c gq o : Nat) (xp : ByteArray) (y : World) : Prop :=
  y.cell? ⟨b, 0, none⟩ = some (.int .i64 5) ∧ y.cell? ⟨b, 1, none⟩ = some (.int .i64 1) ∧ y.cell? ⟨b, 2, none⟩ = some (.slice p n c) ∧ y.cell? ⟨gq, o, none⟩ = some (.string xp)
end Go.Proofs.YtaoggehdkddgeaaGreatDoor
end
