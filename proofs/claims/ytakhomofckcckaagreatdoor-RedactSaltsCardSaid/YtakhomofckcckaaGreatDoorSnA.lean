/- Hiding and the root; the fixed examples, in plain Lean. -/
import Derived.Test.YtakhomofckcckaaGreatDoorMO
namespace Go.Proofs.YtakhomofckcckaaGreatDoor
open Go Go.RowKit Go.Shelf

theorem valueD_hidden (d : ByteArray) : valueD ⟨false, ⟨#[]⟩, 0, ⟨#[]⟩, d⟩ = d := rfl
theorem leafB_hidden (d : ByteArray) (h : d.size = 32) : leafB ⟨false, ⟨#[]⟩, 0, ⟨#[]⟩, d⟩ = true := by
  unfold leafB
  rw [if_neg (by simp)]
  simp [h]
theorem hideX_ok (hid : List Int) (i : Nat) (x : Lf) (h : leafB x = true) : leafB (hideX hid i x) = true ∧ valueD (hideX hid i x) = valueD x := by
  unfold hideX
  split
  · exact ⟨leafB_hidden _ (leafB_value h), rfl⟩
  · exact ⟨h, rfl⟩
theorem listB_all {l : List Lf} (h : listB l = true) : l.length ≤ 64 ∧ ∀ x ∈ l, leafB x = true := by
  unfold listB at h
  rw [Bool.and_eq_true, decide_eq_true_eq, List.all_eq_true] at h
  exact h
theorem listB_mk {l : List Lf} (h1 : l.length ≤ 64) (h2 : ∀ x ∈ l, leafB x = true) : listB l = true := by
  unfold listB
  rw [Bool.and_eq_true, decide_eq_true_eq, List.all_eq_true]
  exact ⟨h1, h2⟩
theorem hideD_len {hid : List Int} {l : List Lf} (h : listB l = true) : (hideD hid l).length = l.length := by
  unfold hideD; rw [h]; simp
theorem hideD_get {hid : List Int} {l : List Lf} (h : listB l = true) (i : Nat) : (hideD hid l)[i]? = (l[i]?).map (hideX hid i) := by
  unfold hideD; rw [h]; simp
theorem hideD_list {hid : List Int} {l : List Lf} (h : listB l = true) : listB (hideD hid l) = true := by
  obtain ⟨h1, h2⟩ := listB_all h
  refine listB_mk (by rw [hideD_len h]; exact h1) (fun x hx => ?_)
  obtain ⟨i, hi⟩ := List.getElem?_of_mem hx
  rw [hideD_get h] at hi
  obtain ⟨y, hy, rfl⟩ := Option.map_eq_some_iff.1 hi
  exact (hideX_ok hid i y (h2 y (List.mem_of_getElem? hy))).1
theorem hideD_values {hid : List Int} {l : List Lf} (h : listB l = true) : (hideD hid l).map valueD = l.map valueD := by
  obtain ⟨h1, h2⟩ := listB_all h
  apply List.ext_getElem?
  intro i
  rw [List.getElem?_map, List.getElem?_map, hideD_get h, Option.map_map]
  cases hx : l[i]? with
  | none => rfl
  | some x => exact congrArg some (hideX_ok hid i x (h2 x (List.mem_of_getElem? hx))).2
/-- hiding does not change the root -/
theorem hideD_root {hid : List Int} {l : List Lf} (h : listB l = true) : rtD (hideD hid l) = rtD l := by
  unfold rtD
  rw [hideD_list h, h, hideD_values h, hideD_len h]
theorem leaves_list {secret : ByteArray} {ls : List Ln} (h1 : ls.length ≤ 64) (h2 : ls.all lnB = true) : listB (leavesD secret ls) = true := by
  refine listB_mk (by rw [leavesD_len]; exact h1) (fun x hx => ?_)
  obtain ⟨i, hi⟩ := List.getElem?_of_mem hx
  unfold leavesD at hi
  rw [List.getElem?_mapIdx] at hi
  obtain ⟨y, hy, rfl⟩ := Option.map_eq_some_iff.1 hi
  have hl := (List.getElem?_eq_some_iff.1 hy).1
  have hb := List.all_eq_true.1 h2 y (List.mem_of_getElem? hy)
  unfold leafB mkLf
  rw [if_pos rfl]
  have hs : (saltD secret (i : Int)).size = 16 := by
    unfold saltD
    rw [if_neg (by omega), ByteArray.size_extract, sha_size]; rfl
  simp only [hs]
  rw [show lnB (y.1, y.2) = lnB y from rfl, hb]
  rfl
theorem validB_lines {ls : List Ln} {cs : List Ce} {wd : Int} {bits : ByteArray} (h : validB ls cs wd bits = true) : ls.length ≤ 64 ∧ ls.all lnB = true := by
  unfold validB at h
  simp only [Bool.and_eq_true, decide_eq_true_eq] at h
  exact ⟨h.1, h.2.2.2.1⟩
theorem rtD_size {l : List Lf} (h : listB l = true) : (rtD l).size = 32 := by
  unfold rtD; rw [if_pos h]; exact nodeD_size _ _
def secretS : ByteArray := ⟨#[115, 101, 99, 114, 101, 116]⟩
def l3 : List Lf := leavesD secretS lines3
def c3 : List Lf := hideD [1] l3
def o3 : List Lf := match l3 with
  | x :: r => { x with mark := 1 } :: r
  | [] => []
theorem lines3_valid : validB lines3 [] 0 ⟨#[]⟩ = true := by decide +kernel
theorem bad_valid : validB [(⟨#[]⟩, 8)] [] 0 ⟨#[]⟩ = false := by decide +kernel
theorem l3_list : listB l3 = true := leaves_list (by decide) (by decide +kernel)
theorem c3_check : chkD (rtD l3) c3 = true := by
  unfold chkD c3
  rw [hideD_list l3_list, hideD_root l3_list]; simp
theorem c3_take : chkD (rtD l3) (c3.take 2) = false := by decide +kernel
theorem o3_check : chkD (rtD l3) o3 = false := by decide +kernel
theorem l3_lines : linesD l3 = lines3 := by decide +kernel
theorem c3_lines : linesD c3 = [(⟨#[97]⟩, 0), (⟨#[99]⟩, 0)] := by decide +kernel
theorem salt_x : saltD ⟨#[120]⟩ 0 ≠ saltD ⟨#[120]⟩ 1 := by decide +kernel
theorem c3_one : ∃ d, c3[1]? = some ⟨false, ⟨#[]⟩, 0, ⟨#[]⟩, d⟩ := by
  refine ⟨valueD (mkLf secretS 1 (⟨#[98]⟩, 2)), ?_⟩
  unfold c3
  rw [hideD_get l3_list]
  rfl
theorem hide_nil {l : List Lf} (h : listB l = true) : hideD [] l = l := by
  apply List.ext_getElem?
  intro i
  rw [hideD_get h]
  cases l[i]? <;> simp [hideX]
theorem c3_len : c3.length = 3 := by unfold c3; rw [hideD_len l3_list]; rfl
theorem l3_len : l3.length = 3 := rfl
theorem c3_list : listB c3 = true := hideD_list l3_list
theorem o3_flat : (l3.flatMap lfC).set 2 (.int .i64 1) = o3.flatMap lfC := rfl
theorem o3_len : o3.length = 3 := rfl
end Go.Proofs.YtakhomofckcckaaGreatDoor
