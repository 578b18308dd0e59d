/- ManifestProved, the plain law: what Prove gives for a package of streams is accepted, at its place alone. -/
import Derived.Test.YtjnnhhengpinmaaGreatDoorNG
import Derived.Test.YtjnnhhengpinmaaGreatDoorVeA
import Derived.Test.YtjnnhhengpinmaaGreatDoorNF
namespace Go.Proofs.YtjnnhhengpinmaaGreatDoor
open Go Go.RowKit Go.Shelf

theorem path_inj : ∀ i, i < 12 → ∀ j, j < 12 → pathOf i = pathOf j → i = j := by decide +kernel
theorem mad_idx {l : List ByteArray} {i : Nat} (hi : i < madN l) : idxP (madE l) (pathOf i) = some i := by
  have h12 := (madN_pos l).2
  obtain ⟨f, s, he, -⟩ := madE_at hi
  refine idx_yes he rfl (fun j y hj hy => ?_)
  obtain ⟨f', s', he', -⟩ := madE_at (l := l) (i := j) (by omega)
  obtain rfl := Option.some.inj (he'.symm.trans hy)
  exact fun e => by have := path_inj j (by omega) i (by omega) e; omega
theorem mad_absent {l : List ByteArray} {p : ByteArray} (hp : p.size ≠ 3) : idxP (madE l) p = none := by
  refine idx_no (fun i y hy e => ?_)
  have hi := (List.getElem?_eq_some_iff.1 hy).1
  rw [madE_len] at hi
  obtain ⟨f, s, he, -, -, -, -, hm⟩ := madE_at hi
  obtain rfl := Option.some.inj (he.symm.trans hy)
  exact hp (by rw [← e]; exact (mad_sizes l).2.2 _ (List.mem_of_getElem? hm))
theorem valid_parts {id ver : Int} {l : List En} (h : validD id ver l = true) : headB id ver l.length = true ∧ ∀ x ∈ l, entB x = true := by
  refine ⟨?_, (valid_head h).2.2.2.2⟩
  unfold validD at h
  simp only [Bool.and_eq_true] at h
  exact h.1
theorem verD_lenX {l : List ByteArray} {k : Nat} {s : ByteArray} (r : ByteArray) (q : List ByteArray) (h : l[k]? = some s) (hq : q.length ≠ (proofD l k).length) : verD r l.length k s q = false := by
  unfold verD
  have : valR s q.reverse l.length k ≠ some r := fun e => by
    have := valR_len e (proof_val _ l k s (Nat.le_refl _) h)
    rw [List.length_reverse, List.length_reverse] at this
    exact hq this
  rw [show ((l.length : Int)).toNat = l.length from rfl, show ((k : Int)).toNat = k from rfl, decide_eq_false this, Bool.and_false]
theorem verD_okX (l : List ByteArray) (k : Nat) (s : ByteArray) (h : l[k]? = some s) : verD (rootD l) l.length k s (proofD l k) = true := by
  have hk : k < l.length := (List.getElem?_eq_some_iff.1 h).1
  unfold verD
  rw [decide_eq_true (show (0 : Int) ≤ (k : Int) by omega), decide_eq_true (show (k : Int) < (l.length : Int) by omega), allD_iff.2 (proof_all _ l k (Nat.le_refl _))]
  rw [show ((l.length : Int)).toNat = l.length from rfl, show ((k : Int)).toNat = k from rfl, proof_val _ l k s (Nat.le_refl _) h]
  simp
theorem verD_outX (r : ByteArray) (n i : Int) (s : ByteArray) (q : List ByteArray) (h : i < 0 ∨ n ≤ i) : verD r n i s q = false := by
  unfold verD
  rcases h with h | h
  · rw [decide_eq_false (show ¬ 0 ≤ i by omega)]; simp
  · rw [decide_eq_false (show ¬ i < n by omega)]; simp
/-- a valid package's entry at i with what Prove gives -/
theorem prove_law {id ver : Int} {l : List En} (hV : validD id ver l = true) {i : Nat} {x : En} (hx : l[i]? = some x) :
    verM (rootP id ver l) id ver l.length i x (prP l (some i)) = true ∧ (∀ j : Int, j < 0 ∨ (l.length : Int) ≤ j → verM (rootP id ver l) id ver l.length j x (prP l (some i)) = false) ∧
      verM (rootP id ver l) id ver l.length i x ((prP l (some i)).drop 1) = false ∧ verM ⟨#[]⟩ id ver l.length i x (prP l (some i)) = false := by
  obtain ⟨hH, hE⟩ := valid_parts hV
  have hL : (l.map lineD)[i]? = some (lineD x) := by rw [List.getElem?_map, hx]; rfl
  have hn : (l.map lineD).length = l.length := List.length_map _
  have hR : rootP id ver l = boundD id ver l.length (rootD (l.map lineD)) := by unfold rootP; rw [if_pos hV]
  have e0 := hE x (List.mem_of_getElem? hx)
  refine ⟨?_, fun j hj => ?_, ?_, ?_⟩
  · unfold verM prP
    rw [hH, e0, hR]
    have := verD_okX _ _ _ hL
    rw [hn] at this
    simp [this]
  · unfold verM
    rw [verD_outX _ _ _ _ _ hj]
    simp
  · unfold verM prP
    simp only [List.drop_succ_cons, List.drop_zero]
    cases hq : proofD (l.map lineD) i with
    | nil => simp
    | cons y r =>
      have := verD_lenX y r hL (by rw [hq]; simp)
      rw [hn] at this
      simp [this]
  · unfold verM
    have : ¬ ((⟨#[]⟩ : ByteArray) = boundD id ver l.length ((prP l (some i)).getD 0 ⟨#[]⟩)) := fun e => by
      have h1 := congrArg ByteArray.size e
      rw [boundD_size] at h1
      cases h1
    rw [decide_eq_false this]
    simp
theorem prP_len (l : List En) (i : Nat) : (prP l (some i)).length = (proofD (l.map lineD) i).length + 1 := rfl
theorem prP_sizes (l : List En) (o : Option Nat) : ∀ y ∈ prP l o, y.size = 32 := by
  intro y hy
  cases o with
  | none => cases hy
  | some i =>
    rcases List.mem_cons.1 hy with rfl | hy
    · exact rootD_size _
    · exact proof_all _ _ _ (Nat.le_refl _) y hy
end Go.Proofs.YtjnnhhengpinmaaGreatDoor
