/- Leaves that are none, in plain Lean; slices beside a block that turns. -/
import Derived.Test.YtakhomofckcckaaGreatDoorHdA
namespace Go.Proofs.YtakhomofckcckaaGreatDoor
open Go Go.RowKit Go.Shelf

theorem validB_push {ls : List Ln} {cs : List Ce} {wd : Int} {bits : ByteArray} {x : Ln} (h : validB ls cs wd bits = true) (hl : ls.length ≤ 6) (hx : lnB x = true) : validB (ls ++ [x]) cs wd bits = true := by
  unfold validB at h ⊢
  simp only [Bool.and_eq_true, decide_eq_true_eq] at h ⊢
  obtain ⟨_, h2, h3, h4, h5, h6⟩ := h
  refine ⟨by simp; omega, h2, h3, ?_, h5, h6⟩
  rw [List.all_append, h4]
  simp [hx]
theorem flat_put {α : Type} {s : Nat} {enc : α → List Value} (hs : ∀ x, (enc x).length = s) : ∀ (l : List α) (k j : Nat) (x y : α) (u : Value), l[k]? = some x → j < s → enc y = (enc x).set j u → (l.flatMap enc).set (k * s + j) u = (l.set k y).flatMap enc
  | [], k, j, x, y, u, h, _, _ => by simp at h
  | z :: l, 0, j, x, y, u, h, hj, he => by
    simp at h
    subst h
    rw [List.set_cons_zero, List.flatMap_cons, List.flatMap_cons, Nat.zero_mul, Nat.zero_add, List.set_append_left _ _ (by rw [hs]; exact hj), he]
  | z :: l, k + 1, j, x, y, u, h, hj, he => by
    rw [List.set_cons_succ, List.flatMap_cons, List.flatMap_cons, List.set_append_right _ _ (by rw [hs, Nat.succ_mul]; omega), hs, show (k + 1) * s + j - s = k * s + j by rw [Nat.succ_mul]; omega]
    rw [flat_put hs l k j x y u (by simpa using h) hj he]
theorem flat_len5 (l : List Lf) : (l.flatMap lfC).length = l.length * 5 := flat_len lfC_len l
theorem leaf_bad0 {t : ByteArray} {m : Int} {sk R : ByteArray} (h : R.size = 32) : leafB ⟨true, t, m, sk, R⟩ = false := by
  unfold leafB; simp [h]
theorem leaf_bad1 {t : ByteArray} {m : Int} {sk d : ByteArray} (h : sk.size ≠ 16) : leafB ⟨true, t, m, sk, d⟩ = false := by
  unfold leafB; simp [h]
theorem leaf_bad2 {t : ByteArray} {sk d : ByteArray} : leafB ⟨true, t, 8, sk, d⟩ = false := by
  unfold leafB lnB lineB; simp [withinB]
theorem leaf_bad3 {m : Int} {sk d : ByteArray} : leafB ⟨true, ⟨#[10]⟩, m, sk, d⟩ = false := by
  unfold leafB lnB
  have h : lineB ⟨#[10]⟩ m = false := by
    rw [lineB_eq, show printB ⟨#[10]⟩ = false from by decide]; simp
  simp [h]
theorem leaf_bad4 {t : ByteArray} {m : Int} {sk d : ByteArray} (h : sk.size = 16) : leafB ⟨false, t, m, sk, d⟩ = false := by
  have h2 : sk.toList.isEmpty = false := by rw [isEmpty_iff, h]; rfl
  have h3 : ¬ sk.toList = [] := fun e => by rw [e] at h2; cases h2
  unfold leafB; simp [h3]
theorem leaf_bad5 {t : ByteArray} {m : Int} {sk d : ByteArray} (h : d.size ≠ 32) : leafB ⟨false, t, m, sk, d⟩ = false := by
  unfold leafB; simp [h]
theorem leaf_bad6 {t : ByteArray} {sk d : ByteArray} : leafB ⟨false, t, 1, sk, d⟩ = false := by
  unfold leafB; simp
theorem list_bad {l : List Lf} {k : Nat} {y : Lf} (hk : k < l.length) (hy : leafB y = false) : listB (l.set k y) = false := by
  cases h : listB (l.set k y) with
  | false => rfl
  | true =>
    have := (listB_all h).2 y (List.mem_of_getElem? (i := k) (by rw [List.getElem?_set_self hk]))
    rw [hy] at this; cases this
theorem bad_root {l : List Lf} (h : listB l = false) : rtD l = ⟨#[]⟩ := by unfold rtD; rw [h]; rfl
theorem bad_check {l : List Lf} (h : listB l = false) (r : ByteArray) : chkD r l = false := by unfold chkD; rw [h]; rfl
theorem bad_hide {l : List Lf} (h : listB l = false) (hid : List Int) : hideD hid l = [] := by unfold hideD; rw [h]; rfl
theorem bad_lines {l : List Lf} (h : listB l = false) : linesD l = [] := by unfold linesD; rw [h]; rfl
theorem many_list {x : Lf} (h : leafB x = true) (n : Nat) : listB (List.replicate n x) = decide (n ≤ 64) := by
  unfold listB
  rw [List.length_replicate]
  have : (List.replicate n x).all leafB = true := List.all_eq_true.2 (fun y hy => by rw [List.eq_of_mem_replicate hy]; exact h)
  rw [this, Bool.and_true]
theorem hide_one {l : List Lf} {k : Nat} {x : Lf} (h : listB l = true) (hx : l[k]? = some x) : ∃ d, d.size = 32 ∧ leafB ⟨false, ⟨#[]⟩, 0, ⟨#[]⟩, d⟩ = true ∧ (hideD [(k : Int)] l)[k]? = some ⟨false, ⟨#[]⟩, 0, ⟨#[]⟩, d⟩ := by
  have hv := leafB_value ((listB_all h).2 x (List.mem_of_getElem? hx))
  refine ⟨valueD x, hv, leafB_hidden _ hv, ?_⟩
  rw [hideD_get h, hx]
  simp [hideX]
theorem Rws.chg_new {α : Type} {s : Nat} {enc : α → List Value} (hs : ∀ x, (enc x).length = s) (h0 : 0 < s) {v : Value} {l : List α} {w0 w x : World} {b : Nat} (h : Rws s enc v l w0) (hg : Gr w0 w) (hc : Chg (some b) w x) (hb : w0.heap.size ≤ b) : Rws s enc v l x := by
  rcases h with h | ⟨g, off, cap, rfl, h1, h2⟩
  · exact .inl h
  · by_cases hl : l.length = 0
    · exact .inl ⟨List.eq_nil_of_length_eq_zero hl, _, _, by rw [hl]⟩
    · refine (show Rws s enc _ l w from .inr ⟨g, off, cap, rfl, h1, fun i y j u hy hu => hg.cell (h2 i y j u hy hu)⟩).chg hc (fun g' e1 e2 => ?_)
      have hx : l[0]? = some (l[0]'(by omega)) := List.getElem?_eq_getElem (by omega)
      have hu : (enc (l[0]'(by omega)))[0]? = some ((enc (l[0]'(by omega)))[0]'(by rw [hs]; exact h0)) := List.getElem?_eq_getElem (by rw [hs]; exact h0)
      have := World.block_lt_of_cell? w0 _ (h2 0 _ 0 _ hx hu)
      simp only [Value.ownBlock, Option.some.injEq] at e1 e2
      simp only at this
      omega
theorem own_free {B gb ob N cb : Nat} {l : List Lf} {w : World} (h : Own B 5 (.slice (some ⟨gb, ob, none⟩) N cb) N (l.flatMap lfC) w) (k : Nat) (hk : k < N) :
    w.frozen? ⟨gb, ob + k * 5, none⟩ = false ∧ w.frozen? ⟨gb, ob + k * 5 + 1, none⟩ = false ∧ w.frozen? ⟨gb, ob + k * 5 + 2, none⟩ = false ∧ w.frozen? ⟨gb, ob + k * 5 + 3, none⟩ = false ∧ w.frozen? ⟨gb, ob + k * 5 + 4, none⟩ = false := by
  have ht := h.there k hk
  exact ⟨(ht 0 (by decide)).2, (ht 1 (by decide)).2, (ht 2 (by decide)).2, (ht 3 (by decide)).2, (ht 4 (by decide)).2⟩
theorem own_put {B g o N c k j : Nat} {l : List Lf} {w : World} {x y : Lf} {u : Value} (h : Own B 5 (.slice (some ⟨g, o, none⟩) N c) N (l.flatMap lfC) w) (hN : l.length = N) (hx : l[k]? = some x) (hj : j < 5) (hy : lfC y = (lfC x).set j u) :
    Own B 5 (.slice (some ⟨g, o, none⟩) N c) N ((l.set k y).flatMap lfC) (w.setCell ⟨g, o + k * 5 + j, none⟩ u) := by
  have hk := (List.getElem?_eq_some_iff.1 hx).1
  have h1 := h.put1 (k * 5 + j) (by rw [flat_len5]; omega) u
  rw [flat_put lfC_len l k j x y u hx hj hy, ← Nat.add_assoc] at h1
  exact h1
end Go.Proofs.YtakhomofckcckaaGreatDoor
