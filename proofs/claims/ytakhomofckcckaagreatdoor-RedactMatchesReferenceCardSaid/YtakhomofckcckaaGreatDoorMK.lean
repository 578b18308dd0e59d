/- Whether a leaf is one. -/
import Derived.Test.YtakhomofckcckaaGreatDoorMJ
namespace Go.Proofs.YtakhomofckcckaaGreatDoor
section
open Go Go.RowKit Go.Shelf
attribute [local go_sem] gAt gUpon
attribute [local simp] Gr.refl Gr.alloc

/-- a leaf that is shown or hidden -/
def leafB (x : Lf) : Bool := if x.shown then decide (x.digest.size = 0) && (decide (x.salt.size = 16) && lnB (x.text, x.mark)) else decide (x.text.toList = []) && (decide (x.mark = 0) && (decide (x.salt.toList = []) && decide (x.digest.size = 32)))
theorem valid_one (l : Ln) : validB [l] [] 0 ⟨#[]⟩ = lnB l := by
  have h : rasterB 0 ⟨#[]⟩ = true := by decide
  unfold validB
  rw [h]
  simp [ascK]
theorem doc_one (t : ByteArray) (m : Int) (W : World) : DocIn (.slice (some ⟨W.heap.size, 0, none⟩) 1 1) (.slice none 0 0) [(t, m)] [] (W.alloc (.cells #[.string t, .int .i64 m] 33)) := by
  refine ⟨.inr ⟨W.heap.size, 0, 1, rfl, Nat.le_refl _, ?_⟩, .inl ⟨rfl, none, 0, rfl⟩⟩
  intro i x j u hx hu
  have h := heap_alloc_new W (.cells #[.string t, .int .i64 m] 33)
  obtain rfl : i = 0 := by have := (List.getElem?_eq_some_iff.1 hx).1; simp at this; omega
  simp at hx
  subst hx
  rw [cell_of_row _ _ _ _ _ _ h]
  simp only [Nat.zero_mul, Nat.zero_add]
  simpa [lnC] using hu
set_option maxRecDepth 100000 in
set_option maxHeartbeats 1000000 in
theorem isLeaf_any (x : Lf) (w : World) :
    Calls Tryz.prog 42 #[.agg #[.bool x.shown, .string x.text, .int .i64 x.mark, .string x.salt, .string x.digest]] w fun e w' => e = .returned (.bool (leafB x)) ∧ Gr w w' := by
  obtain ⟨sh, t, m, sl, dg⟩ := x
  simp only
  cases sh with
  | false =>
    obtain ⟨B, hB⟩ : ∃ B, leafB ⟨false, t, m, sl, dg⟩ = B := ⟨_, rfl⟩
    rw [hB]
    have HB := Lib.hid hB
    clear hB
    go_enter Tryz.func42, Tryz.ntmps42
    go_upto_region 1 with fail
    refine wp_gen (F := fun y => Gr w y ∧ y.heap[w.heap.size]? = some (.cells #[.bool false, .string t, .int .i64 m, .string sl, .string dg] 81 (0, 0))) ⟨Gr.alloc _ _, heap_alloc_new _ _⟩ ?_
    rintro wA ⟨hgA, hrA⟩
    obtain ⟨c0, c1, c2, c3, c4⟩ := row5 hrA
    clear hrA
    by_cases h32 : dg.size = 32
    · have t1 : ((dg.size : Int) == 32) = true := by rw [h32]; rfl
      have t2 : (dg.size == 32) = true := by rw [h32]; rfl
      have H32 := Lib.hid h32
      clear h32
      go_wp2_with fail
      all_goals (go_ret; refine ⟨?_, hgA⟩; rw [← HB.out]; simp [leafB, H32.out, *])
    · have t1 : ((dg.size : Int) == 32) = false := beq_eq_false_iff_ne.2 (by omega)
      have t2 : (dg.size == 32) = false := beq_eq_false_iff_ne.2 h32
      have H32 := Lib.hid h32
      clear h32
      go_wp2_with fail
      all_goals (go_ret; refine ⟨?_, hgA⟩; rw [← HB.out]; simp [leafB, H32.out, *])
  | true =>
    obtain ⟨B, hB⟩ : ∃ B, leafB ⟨true, t, m, sl, dg⟩ = B := ⟨_, rfl⟩
    rw [hB]
    have HB := Lib.hid hB
    clear hB
    have HV := Lib.hid (fun v1 y (h : DocIn v1 (.slice none 0 0) [(t, m)] [] y) => valid_any v1 (.slice none 0 0) [(t, m)] [] 0 ⟨#[]⟩ y h (by simp) (by simp) (by omega) (by decide))
    rw [valid_one] at HV
    obtain ⟨b, hb⟩ : ∃ b, lnB (t, m) = b := ⟨_, rfl⟩
    rw [hb] at HV
    have Hb := Lib.hid hb
    clear hb
    go_enter Tryz.func42, Tryz.ntmps42
    go_upto_region 1 with fail
    refine wp_gen (F := fun y => Gr w y ∧ y.heap[w.heap.size]? = some (.cells #[.bool true, .string t, .int .i64 m, .string sl, .string dg] 81 (0, 0))) ⟨Gr.alloc _ _, heap_alloc_new _ _⟩ ?_
    rintro wA ⟨hgA, hrA⟩
    obtain ⟨c0, c1, c2, c3, c4⟩ := row5 hrA
    clear hrA
    by_cases hd : dg.size = 0
    · obtain rfl : dg = ⟨#[]⟩ := ByteArray.ext (Array.eq_empty_of_size_eq_zero hd)
      by_cases h16 : sl.size = 16
      · have t1 : ((sl.size : Int) == 16) = true := by rw [h16]; rfl
        have t2 : (sl.size == 16) = true := by rw [h16]; rfl
        obtain rfl : B = b := by rw [← HB.out]; simp [leafB, h16, hd, Hb.out]
        clear h16 hd
        go_wp2_with fail
        refine (HV.out _ _ ?_).mono ?_
        · exact doc_one t m _
        rintro e wB ⟨rfl, hgB⟩
        go_wp2_with fail
        go_ret
        exact ⟨rfl, hgA.trans ((Gr.alloc _ _).trans hgB)⟩
      · have t1 : ((sl.size : Int) == 16) = false := beq_eq_false_iff_ne.2 (by omega)
        have t2 : (sl.size == 16) = false := beq_eq_false_iff_ne.2 h16
        obtain rfl : B = false := by rw [← HB.out]; simp [leafB, h16]
        clear h16 hd
        go_wp2_with fail
        go_ret
        exact ⟨rfl, hgA⟩
    · have hne : ¬ dg.toList = [] := fun h => hd (by have := isEmpty_iff dg; rw [h] at this; simpa using this.symm)
      have hne2 : dg.toList.isEmpty = false := by rw [isEmpty_iff]; exact decide_eq_false hd
      obtain rfl : B = false := by rw [← HB.out]; simp [leafB, hd]
      clear hd
      go_wp2_with fail
      all_goals (go_ret; exact ⟨rfl, hgA⟩)
end
section
open Go Go.RowKit Go.Shelf
attribute [local go_sem] gAt gUpon
attribute [local simp] Gr.refl Gr.alloc

theorem own_any (x : Lf) (w : World) :
    Calls Tryz.prog 72 #[.agg #[.bool x.shown, .string x.text, .int .i64 x.mark, .string x.salt, .string x.digest]] w fun e w' => e = .returned (.agg #[.bool x.shown, .string x.text, .int .i64 x.mark, .string x.salt, .string x.digest]) ∧ Gr w w' := by
  obtain ⟨sh, t, m, sl, dg⟩ := x
  simp only
  go_enter Tryz.func72, Tryz.ntmps72
  go_wp2_with fail
  have hnew := heap_alloc_new (w.alloc (.cells #[.bool sh, .string t, .int .i64 m, .string sl, .string dg] 35)) (.cells #[.bool sh, .string t, .int .i64 m, .string sl, .string dg] 81)
  have hz : (w.alloc (.cells #[.bool sh, .string t, .int .i64 m, .string sl, .string dg] 35)).heap.size = w.heap.size + 1 := by simp
  rw [hz] at hnew
  refine bodyPost_ret (results_cell_row rfl _ _ (w.heap.size + 1) 81 _ (0, 0) _ rfl hnew Tryz.underlying81 rfl (by kernel_rfl)) rfl ?_
  exact ⟨rfl, (Gr.alloc _ _).trans (Gr.alloc _ _)⟩
set_option maxRecDepth 100000 in
theorem every1_any (x : Lf) (b1 b2 : Nat) (w : World) (h1 : w.cell? ⟨b1, 0, none⟩ = some (.func (.func 42) #[] #[])) (h2 : w.cell? ⟨b2, 0, none⟩ = some (.func (.func 72) #[] #[])) :
    Calls Tryz.prog 107 #[.agg #[.bool x.shown, .string x.text, .int .i64 x.mark, .string x.salt, .string x.digest], .pointer (some ⟨b1, 0, none⟩), .pointer (some ⟨b2, 0, none⟩)] w fun e w' => e = .returned (.bool (!leafB x)) ∧ Gr w w' := by
  have HO := Lib.hid (own_any x)
  have HL := Lib.hid (isLeaf_any x)
  generalize leafB x = b at HL ⊢
  obtain ⟨sh, t, m, sl, dg⟩ := x
  simp only at HO HL ⊢
  have hb1 : b1 < w.heap.size := World.block_lt_of_cell? w _ h1
  have hb2 : b2 < w.heap.size := World.block_lt_of_cell? w _ h2
  go_enter Tryz.func107, Tryz.ntmps107
  go_upto_region 1 with fail
  refine wp_gen (F := fun y => Gr w y ∧ y.heap[w.heap.size]? = some (.cells #[.bool sh, .string t, .int .i64 m, .string sl, .string dg] 35 (0, 0))) ⟨Gr.alloc _ _, heap_alloc_new _ _⟩ ?_
  rintro wA ⟨hgA, hrA⟩
  obtain ⟨c0, c1, c2, c3, c4⟩ := row5 hrA
  have s0 : ∀ n : GrS wA.drew, n.w.cell? ⟨w.heap.size, 0, none⟩ = some (.bool sh) := fun n => n.h.cell (w := wA.drew) c0
  have s1 : ∀ n : GrS wA.drew, n.w.cell? ⟨w.heap.size, 1, none⟩ = some (.string t) := fun n => n.h.cell (w := wA.drew) c1
  have s2 : ∀ n : GrS wA.drew, n.w.cell? ⟨w.heap.size, 2, none⟩ = some (.int .i64 m) := fun n => n.h.cell (w := wA.drew) c2
  have s3 : ∀ n : GrS wA.drew, n.w.cell? ⟨w.heap.size, 3, none⟩ = some (.string sl) := fun n => n.h.cell (w := wA.drew) c3
  have s4 : ∀ n : GrS wA.drew, n.w.cell? ⟨w.heap.size, 4, none⟩ = some (.string dg) := fun n => n.h.cell (w := wA.drew) c4
  have s5 : ∀ n : GrS wA.drew, n.w.cell? ⟨b1, 0, none⟩ = some (.func (.func 42) #[] #[]) := fun n => n.h.cell (w := wA.drew) (hgA.cell h1)
  have s6 : ∀ n : GrS wA.drew, n.w.cell? ⟨b2, 0, none⟩ = some (.func (.func 72) #[] #[]) := fun n => n.h.cell (w := wA.drew) (hgA.cell h2)
  have HGA := Lib.hid hgA
  clear hrA hgA h1 h2
  refine region_grow 7 11 (by kernel_rfl) rfl (by kernel_rfl) rfl rfl ?_
  simp only [List.take_succ_cons, List.take_zero, List.drop_succ_cons, List.drop_zero]
  refine seg 3 rfl rfl rfl rfl ?_
  simp only [List.take_succ_cons, List.take_zero, List.drop_succ_cons, List.drop_zero]
  repeat (go_big_quiet_step (fail))
  refine wpQuiet_nil ?_
  intro _
  refine grow_det (v := .agg #[.bool sh, .string t, .int .i64 m, .string sl, .string dg]) rfl rfl rfl rfl rfl ?_ ?_
  · intro w1 hG
    go_simp
    refine (HO.out w1).mono ?_
    rintro e w' ⟨rfl, hb⟩
    exact ⟨rfl, hb⟩
  simp only [Act.put, List.setIfInBounds_toArray, List.set_cons_zero, List.set_cons_succ]
  refine grow_det (v := .bool b) rfl rfl rfl rfl rfl ?_ ?_
  · intro w1 hG
    go_simp
    refine (HL.out w1).mono ?_
    rintro e w' ⟨rfl, hb⟩
    exact ⟨rfl, hb⟩
  simp only [Act.put, List.setIfInBounds_toArray, List.set_cons_zero, List.set_cons_succ]
  refine seg 2 rfl rfl rfl rfl ?_
  simp only [List.take_succ_cons, List.take_zero, List.drop_succ_cons, List.drop_zero]
  repeat (go_big_quiet_step (fail))
  refine wpQuiet_nil ?_
  intro _
  refine grow_end0 rfl rfl ?_
  intro w2 hG
  have HG : Hid (Gr w w2) := Lib.hid (HGA.out.trans (Gr.trans (Gr.drew wA) hG))
  clear s0 s1 s2 s3 s4 s5 s6 hG
  go_wp2_with fail
  go_ret
  exact ⟨rfl, HG.out⟩
end
end Go.Proofs.YtakhomofckcckaaGreatDoor
