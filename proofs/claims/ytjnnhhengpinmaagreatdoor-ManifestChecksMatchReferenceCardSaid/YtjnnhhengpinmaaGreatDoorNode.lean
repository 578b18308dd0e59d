/- The contracts of Leaf, Node and Chain, for the proofs over package digest. -/
import Derived.Test.YtjnnhhengpinmaaGreatDoorShaF
import Derived.Test.YtjnnhhengpinmaaGreatDoorShelf
namespace Go.Proofs.YtjnnhhengpinmaaGreatDoor
open Go.RowKit
attribute [local go_sem] gAt gUpon
attribute [local simp] Gr.refl Gr.alloc

/-- a mark and some strings, one behind the other -/
def cat (m : UInt8) (xs : List ByteArray) : ByteArray := ⟨(m :: xs.flatMap (·.data.toList)).toArray⟩
def leafD (s : ByteArray) : ByteArray := sha (cat 0 [s])
def nodeD (a b : ByteArray) : ByteArray := sha (cat 1 [a, b])
def chainD (a b : ByteArray) : ByteArray := sha (cat 2 [a, b])
theorem leafD_size (s : ByteArray) : (leafD s).size = 32 := sha_size _
theorem nodeD_size (a b : ByteArray) : (nodeD a b).size = 32 := sha_size _
theorem chainD_size (a b : ByteArray) : (chainD a b).size = 32 := sha_size _
theorem join_flat (xs : List (List UInt8)) : Lib.join xs [] = xs.flatten := by
  induction xs with
  | nil => rfl
  | cons x xs ih =>
    cases xs with
    | nil => simp [Lib.join, List.intercalate]
    | cons y ys =>
      unfold Lib.join List.intercalate at *
      rw [List.intersperse_cons_cons, List.flatten_cons, List.flatten_cons, ih]
      simp
theorem cat_size (m : UInt8) (xs : List ByteArray) : (cat m xs).size = 1 + (xs.flatMap (·.data.toList)).length := by
  show (m :: xs.flatMap (·.data.toList)).toArray.size = _
  rw [List.size_toArray, List.length_cons]; omega

set_option maxRecDepth 100000 in
theorem marked1_any (m : UInt8) (bm bk o c : Nat) (xs : List ByteArray) (w : World) (hm : w.cell? ⟨bm, 0, none⟩ = some (.string ⟨#[m]⟩))
    (hc : ∀ (j : Nat) x, xs[j]? = some x → w.cell? ⟨bk, o + j, none⟩ = some (.string x)) (hbk : bk < w.heap.size) (hN : xs.length ≤ 1000) (hcap : xs.length ≤ c)
    (hlen : (xs.flatMap (·.data.toList)).length ≤ 140737488354000) (hT : Tab w) :
    Calls Tryz.prog 143 #[.slice (some ⟨bk, o, none⟩) xs.length c, .pointer (some ⟨bm, 0, none⟩)] w fun e w' => e = .returned (.string (sha (cat m xs))) ∧ Gr w w' := by
  have hS1 : ∀ n : GrS w.drew, n.w.cell? ⟨bm, 0, none⟩ = some (.string ⟨#[m]⟩) := fun n => n.h.cell (w := w.drew) hm
  have hj := join_flat (xs.map (·.data.toList))
  have hjl : (Lib.join (xs.map (·.data.toList)) []).length ≤ 140737488354000 := by rw [hj, ← List.flatMap_def]; exact hlen
  have HJ : Hid ((⟨#[m]⟩ : ByteArray) ++ ⟨(Lib.join (xs.map (·.data.toList)) []).toArray⟩ = cat m xs) := Lib.hid (by
    rw [hj, ← List.flatMap_def]; apply ByteArray.ext; simp [cat])
  have HC : Hid (∀ w1, Gr w.drew w1 → Calls Tryz.prog 45 #[.slice (some ⟨bk, o, none⟩) xs.length c, .string ⟨#[]⟩] w1 fun e w' => e = .returned (.string ⟨(Lib.join (xs.map (·.data.toList)) []).toArray⟩) ∧ Below w1.heap.size w1 w') :=
    Lib.hid (fun w1 hg => Tryz.strings_Join bk o c xs ⟨#[]⟩ w1 (fun j x hx => hg.cell (w := w.drew) (hc j x hx)) (Nat.lt_of_lt_of_le hbk hg.size) (by omega) hcap (by simpa using (by omega : (Lib.join (xs.map (·.data.toList)) []).length ≤ 140737488355328)))
  have HS : Hid (∀ w1, Gr w.drew w1 → Calls Tryz.prog 42 #[.string (cat m xs)] w1 fun e w' => e = .returned (.string (sha (cat m xs))) ∧ Gr w1 w') :=
    Lib.hid (fun w1 hg => sum_any (cat m xs) w1 (by rw [cat_size]; omega) ((show Tab w.drew from hT).gr hg))
  have hadd : ∀ w1, (Op.stringOp .add ⟨#[m]⟩ (⟨(Lib.join (xs.map (·.data.toList)) []).toArray⟩ : ByteArray)).run Tryz.prog w1 = .ok (.string (cat m xs)) w1 := by
    intro w1
    rw [run_string_add_sum, HJ.out]
    have h1 : (⟨(Lib.join (xs.map (·.data.toList)) []).toArray⟩ : ByteArray).size = (Lib.join (xs.map (·.data.toList)) []).length := List.size_toArray
    have h2 : (⟨#[m]⟩ : ByteArray).size = 1 := rfl
    rw [h1, h2]; omega
  clear hj hjl hc hlen hm HJ
  generalize (⟨(Lib.join (xs.map (·.data.toList)) []).toArray⟩ : ByteArray) = J at hadd HC
  generalize cat m xs = CT at hadd HS
  go_enter Tryz.func143, Tryz.ntmps143
  go_upto_region 1 with fail
  refine region_grow 6 9 (by kernel_rfl) rfl (by kernel_rfl) rfl rfl ?_
  simp only [List.take_succ_cons, List.take_zero, List.drop_succ_cons, List.drop_zero]
  refine seg 2 rfl rfl rfl rfl ?_
  simp only [List.take_succ_cons, List.take_zero, List.drop_succ_cons, List.drop_zero]
  repeat (go_big_quiet_step (fail))
  refine wpQuiet_nil ?_
  intro _
  refine grow_det (v := .string J) rfl rfl rfl rfl rfl ?_ ?_
  · intro w1 hG
    go_simp
    refine (HC.out w1 hG).mono ?_
    rintro e w' ⟨rfl, hb⟩
    exact ⟨rfl, hb⟩
  simp only [Act.put, List.setIfInBounds_toArray, List.set_cons_zero, List.set_cons_succ]
  refine seg 1 rfl rfl rfl rfl ?_
  simp only [List.take_succ_cons, List.take_zero, List.drop_succ_cons, List.drop_zero]
  repeat (go_big_quiet_step (fail))
  refine wpQuiet_nil ?_
  intro _
  refine grow_det (v := .string (sha CT)) rfl rfl rfl rfl rfl ?_ ?_
  · intro w1 hG
    go_simp
    refine (HS.out w1 hG).mono ?_
    rintro e w' ⟨rfl, hb⟩
    exact ⟨rfl, hb⟩
  simp only [Act.put, List.setIfInBounds_toArray, List.set_cons_zero, List.set_cons_succ]
  refine seg 1 rfl rfl rfl rfl ?_
  simp only [List.take_succ_cons, List.take_zero, List.drop_succ_cons, List.drop_zero]
  repeat (go_big_quiet_step (fail))
  refine wpQuiet_nil ?_
  intro _
  refine grow_end0 rfl rfl ?_
  intro w2 hG
  have HG : Hid (Gr w w2) := Lib.hid (Gr.trans (Gr.drew w) hG)
  clear hS1 hG
  go_wp2_with fail
  go_ret
  exact ⟨rfl, HG.out⟩

theorem marked_any (m : ByteArray) (w : World) : Calls Tryz.prog 123 #[.string m] w fun e w' => e = .returned (.func (.func 143) #[] #[.pointer (some ⟨w.heap.size, 0, none⟩)]) ∧ w.alloc (.cells #[.string m] 9) = w' := by
  go_enter Tryz.func123, Tryz.ntmps123
  go_wp2
  go_ret
  exact ⟨rfl, rfl⟩

theorem leaf_any (s : ByteArray) (w : World) (hs : s.size ≤ 140737488354000) (hT : Tab w) :
    Calls Tryz.prog 91 #[.string s] w fun e w' => e = .returned (.string (leafD s)) ∧ Gr w w' := by
  go_enter Tryz.func91, Tryz.ntmps91
  go_wp2_with fail
  refine (marked_any _ _).mono ?_
  rintro e w1 ⟨rfl, rfl⟩
  go_wp2_with fail
  refine (marked1_any 0 w.heap.size (w.heap.size + 1) 0 1 [s] _ (cell_old_at _ _ _ _ _ (by simp) (cell_new_at _ _ _ _ _ _ rfl rfl)) ?_ (by simp) (by simp) (by simp) (by simpa using hs) ((hT.gr (Gr.alloc _ _)).gr (Gr.alloc _ _))).mono ?_
  · intro j x hj
    match j, hj with
    | 0, hj => simp at hj; subst hj; exact cell_new_at _ _ _ _ _ _ (by simp) rfl
  rintro e w2 ⟨rfl, hG⟩
  have HG : Hid (Gr w w2) := Lib.hid (((Gr.alloc _ _).trans (Gr.alloc _ _)).trans hG)
  clear hG
  go_wp2_with fail
  go_ret
  exact ⟨rfl, HG.out⟩

theorem node_any (a b : ByteArray) (w : World) (hs : a.size + b.size ≤ 140737488354000) (hT : Tab w) :
    Calls Tryz.prog 90 #[.string a, .string b] w fun e w' => e = .returned (.string (nodeD a b)) ∧ Gr w w' := by
  go_enter Tryz.func90, Tryz.ntmps90
  go_wp2_with fail
  refine (marked_any _ _).mono ?_
  rintro e w1 ⟨rfl, rfl⟩
  go_wp2_with fail
  refine (marked1_any 1 w.heap.size (w.heap.size + 1) 0 2 [a, b] _ (cell_old_at _ _ _ _ _ (by simp) (cell_new_at _ _ _ _ _ _ rfl rfl)) ?_ (by simp) (by simp) (by simp) (by simpa using hs) ((hT.gr (Gr.alloc _ _)).gr (Gr.alloc _ _))).mono ?_
  · intro j x hj
    match j, hj with
    | 0, hj => simp at hj; subst hj; exact cell_new_at _ _ _ _ _ _ (by simp) rfl
    | 1, hj => simp at hj; subst hj; exact cell_new_at _ _ _ _ _ _ (by simp) rfl
  rintro e w2 ⟨rfl, hG⟩
  have HG : Hid (Gr w w2) := Lib.hid (((Gr.alloc _ _).trans (Gr.alloc _ _)).trans hG)
  clear hG
  go_wp2_with fail
  go_ret
  exact ⟨rfl, HG.out⟩

end Go.Proofs.YtjnnhhengpinmaaGreatDoor
