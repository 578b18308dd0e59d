/- Two documents that differ in hidden lines alone, in plain Lean. -/
import Derived.Test.YtakhomofckcckaaDoorRfZ
namespace Go.Proofs.YtakhomofckcckaaDoor
open Go Go.RowKit Go.Shelf

theorem infoLn_size (P : Program) (h : P = Tryd.prog) : (P.info? 45).map (·.size) = some 2 := by
  subst h
  kernel_rfl
/-- two lists that are the same but at the hidden places -/
def Off {α : Type} (hid : List Int) (zs ls : List α) : Prop := zs.length = ls.length ∧ ∀ j : Nat, ¬ (j : Int) ∈ hid → zs[j]? = ls[j]?
theorem Off.refl {α : Type} (hid : List Int) (l : List α) : Off hid l l := ⟨rfl, fun _ _ => rfl⟩
theorem Off.put {α : Type} {hid : List Int} {zs ls : List α} (h : Off hid zs ls) {k : Nat} (hk : (k : Int) ∈ hid) (y : α) : Off hid (zs.set k y) ls :=
  ⟨by rw [List.length_set]; exact h.1, fun j hj => by
    rw [List.getElem?_set_ne (by intro e; subst e; exact hj hk)]
    exact h.2 j hj⟩
theorem all_put {α : Type} {f : α → Bool} {l : List α} (h : l.all f = true) (k : Nat) {y : α} (hy : f y = true) : (l.set k y).all f = true := by
  rw [List.all_eq_true] at h ⊢
  intro x hx
  rcases List.mem_or_eq_of_mem_set hx with h1 | rfl
  · exact h x h1
  · exact hy
theorem all_at {α : Type} {f : α → Bool} {l : List α} (h : l.all f = true) {k : Nat} {x : α} (hx : l[k]? = some x) : f x = true :=
  List.all_eq_true.1 h x (List.mem_of_getElem? hx)
theorem validB_put {ls zs : List Ln} {cs : List Ce} {wd : Int} {bits : ByteArray} (h : validB ls cs wd bits = true) (hl : zs.length = ls.length) (ha : zs.all lnB = true) : validB zs cs wd bits = true := by
  unfold validB at h ⊢
  simp only [Bool.and_eq_true, decide_eq_true_eq] at h ⊢
  obtain ⟨h1, h2, h3, h4, h5, h6⟩ := h
  exact ⟨by omega, h2, h3, ha, h5, h6⟩
theorem leaves_off {hid : List Int} {zs ls : List Ln} (sc : ByteArray) (h : Off hid zs ls) : Off hid (leavesD sc zs) (leavesD sc ls) :=
  ⟨by rw [leavesD_len, leavesD_len]; exact h.1, fun j hj => by rw [leaves_get, leaves_get, h.2 j hj]⟩
/-- leaves that are all shown -/
def ShB (ms : List Lf) : Prop := listB ms = true ∧ ∀ x ∈ ms, x.shown = true
theorem leaves_sh {sc : ByteArray} {zs : List Ln} (h1 : zs.length ≤ 64) (h2 : zs.all lnB = true) : ShB (leavesD sc zs) :=
  ⟨leaves_list h1 h2, fun x hx => by
    obtain ⟨i, hi⟩ := List.getElem?_of_mem hx
    rw [leaves_get] at hi
    obtain ⟨y, _, rfl⟩ := Option.map_eq_some_iff.1 hi
    rfl⟩
theorem ShB.salt {ms : List Lf} (h : ShB ms) {k : Nat} {x : Lf} (hx : ms[k]? = some x) {a : ByteArray} (ha : a.size = 16) : ShB (ms.set k ⟨x.shown, x.text, x.mark, a, x.digest⟩) := by
  have hm := List.mem_of_getElem? hx
  have hs := h.2 x hm
  obtain ⟨h1, h2⟩ := listB_all h.1
  refine ⟨listB_mk (by rw [List.length_set]; exact h1) (fun y hy => ?_), fun y hy => ?_⟩
  · rcases List.mem_or_eq_of_mem_set hy with hy | rfl
    · exact h2 y hy
    · have hb := h2 x hm
      unfold leafB at hb ⊢
      rw [if_pos hs] at hb
      simp only [hs, if_true, Bool.and_eq_true, decide_eq_true_eq] at hb ⊢
      exact ⟨hb.1, ha, hb.2.2⟩
  · rcases List.mem_or_eq_of_mem_set hy with hy | rfl
    · exact h.2 y hy
    · exact hs
theorem saltD_16 (an : ByteArray) {k : Nat} (hk : k < 64) : (saltD an (k : Int)).size = 16 := by
  unfold saltD
  rw [if_neg (by omega), ByteArray.size_extract, sha_size]; rfl
/-- the first k of one list, the others of another -/
def Half (k : Nat) (az a b : List Lf) : Prop := az.length = b.length ∧ (∀ j, j < k → az[j]? = b[j]?) ∧ ∀ j, k ≤ j → az[j]? = a[j]?
theorem Half.start {a b : List Lf} (h : a.length = b.length) : Half 0 a a b := ⟨h, fun j hj => by omega, fun _ _ => rfl⟩
theorem Half.out {k : Nat} {az l m : List Lf} {hid : List Int} (h : Half k az (hideD hid l) (hideD hid m)) (hl : listB l = true) (hm : listB m = true) (ho : Off hid m l) (hk : ¬ (k : Int) ∈ hid) : Half (k + 1) az (hideD hid l) (hideD hid m) := by
  refine ⟨h.1, fun j hj => ?_, fun j hj => h.2.2 j (by omega)⟩
  by_cases hjk : j < k
  · exact h.2.1 j hjk
  · obtain rfl : j = k := by omega
    rw [h.2.2 j (Nat.le_refl _), hideD_get hl, hideD_get hm, ho.2 j hk]
theorem hide_at {k : Nat} {l : List Lf} {hid : List Int} {x : Lf} (hl : listB l = true) (hk : (k : Int) ∈ hid) (hx : l[k]? = some x) : (hideD hid l)[k]? = some ⟨false, ⟨#[]⟩, 0, ⟨#[]⟩, valueD x⟩ := by
  rw [hideD_get hl, hx]
  simp only [Option.map_some]
  unfold hideX
  rw [if_pos hk]
theorem Half.put {k : Nat} {az l m : List Lf} {hid : List Int} {y : Lf} (h : Half k az (hideD hid l) (hideD hid m)) (hy : (hideD hid m)[k]? = some y) : Half (k + 1) (az.set k y) (hideD hid l) (hideD hid m) := by
  refine ⟨by rw [List.length_set]; exact h.1, fun j hj => ?_, fun j hj => ?_⟩
  · by_cases hjk : j = k
    · subst hjk
      rw [List.getElem?_set_self (by rw [h.1]; exact (List.getElem?_eq_some_iff.1 hy).1), hy]
    · rw [List.getElem?_set_ne (by omega)]
      exact h.2.1 j (by omega)
  · rw [List.getElem?_set_ne (by omega)]
    exact h.2.2 j (by omega)
theorem Half.stop {k : Nat} {az a b : List Lf} (h : Half k az a b) (hk : b.length ≤ k) : az = b := by
  apply List.ext_getElem?
  intro j
  by_cases hj : j < k
  · exact h.2.1 j hj
  · rw [List.getElem?_eq_none (by rw [h.1]; omega), List.getElem?_eq_none (by omega)]
end Go.Proofs.YtakhomofckcckaaDoor
