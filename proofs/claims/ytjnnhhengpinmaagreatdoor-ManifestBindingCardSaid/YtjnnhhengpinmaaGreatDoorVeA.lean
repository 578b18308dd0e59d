/- The contract of manifest.Verify. -/
import Derived.Test.YtjnnhhengpinmaaGreatDoorProof
import Derived.Test.YtjnnhhengpinmaaGreatDoorEnA
namespace Go.Proofs.YtjnnhhengpinmaaGreatDoor
open Go Go.RowKit Go.Shelf
attribute [local go_sem] gAt gUpon
attribute [local simp] Gr.refl Gr.alloc

/-- what Verify gives -/
def verM (root : ByteArray) (id ver n i : Int) (x : En) (l : List ByteArray) : Bool :=
  headB id ver n && (entB x && (decide (l.length ≠ 0) && (decide (root = boundD id ver n (l.getD 0 ⟨#[]⟩)) && verD (l.getD 0 ⟨#[]⟩) n i (lineD x) (l.drop 1))))
set_option maxRecDepth 100000 in
set_option maxHeartbeats 2000000 in
theorem verifyM_any (root : ByteArray) (id ver n i : Int) (x : En) (v : Value) (l : List ByteArray) (w : World) (hv : StrsAt v l w) (hl : l.length ≤ 1000000) (hn : n ≤ 9223372036854775807) (hx : x.path.size ≤ 9223372036854775807) (hs : ∀ y ∈ l, y.size ≤ 1000) (hT : Tab w) :
    Calls Tryz.prog 34 #[.string root, .int .i64 id, .int .i64 ver, .int .i64 n, .int .i64 i, .agg #[.string x.path, .int .i64 x.fmt, .int .i64 x.len, .string x.dig], v] w fun e w' => e = .returned (.bool (verM root id ver n i x l)) ∧ Gr w w' := by
  obtain ⟨p, c, rfl⟩ := hv.shape
  have HV := Lib.hid hv
  have HT := Lib.hid hT
  have HS := Lib.hid hs
  obtain ⟨B, hB⟩ : ∃ B, verM root id ver n i x l = B := ⟨_, rfl⟩
  rw [hB]
  have HB : Hid ((headB id ver n && (entB x && (decide (l.length ≠ 0) && (decide (root = boundD id ver n (l.getD 0 ⟨#[]⟩)) && verD (l.getD 0 ⟨#[]⟩) n i (lineD x) (l.drop 1))))) = B) := Lib.hid hB
  have HHd : Hid (∀ y, _) := Lib.hid (fun y => isHead_any id ver n y)
  have HEn : Hid (∀ y, _) := Lib.hid (fun y => isEntry_any x y hx)
  obtain ⟨B1, hB1⟩ : ∃ B, headB id ver n = B := ⟨_, rfl⟩
  obtain ⟨B2, hB2⟩ : ∃ B, entB x = B := ⟨_, rfl⟩
  have HB1 := Lib.hid hB1
  have HB2 := Lib.hid hB2
  rw [hB1] at HHd HB
  rw [hB2] at HEn HB
  obtain ⟨pa, f, m, d⟩ := x
  have HLn := Lib.hid (fun (h : B2 = true) y => line_any ⟨pa, f, m, d⟩ (ent_line (HB2.out.trans h)) y)
  simp only at HEn HLn
  obtain ⟨bb, hbb⟩ : ∃ b, w.heap.size = b := ⟨_, rfl⟩
  have hrow := heap_alloc_new w (.cells #[.string pa, .int .i64 f, .int .i64 m, .string d] 28)
  rw [hbb] at hrow
  have HA := Lib.hid hrow
  have HGA := Lib.hid (Gr.alloc w (.cells #[.string pa, .int .i64 f, .int .i64 m, .string d] 28))
  clear hv hT hs hB hB1 hB2 hrow hx
  go_enter Tryz.func34, Tryz.ntmps34
  go_upto_region 1 with fail
  clear hbb
  generalize w.alloc (.cells #[.string pa, .int .i64 f, .int .i64 m, .string d] 28) = wa at HA HGA ⊢
  obtain ⟨a0, a1, a2, a3⟩ := row4 HA.out
  cases B1 with
  | false =>
    obtain rfl : B = false := HB.out.symm
    go_wp2_with fail
    refine (HHd.out _).mono ?_
    rintro e w1 ⟨rfl, rfl⟩
    go_wp2_with fail
    go_ret
    exact ⟨rfl, HGA.out⟩
  | true =>
  go_wp2_with fail
  refine (HHd.out _).mono ?_
  rintro e w1 ⟨rfl, rfl⟩
  go_wp2_with fail
  refine (HEn.out _).mono ?_
  rintro e wb ⟨rfl, hg1⟩
  have HG1 := Lib.hid (HGA.out.trans hg1)
  have HA1 := Lib.hid (hg1.block HA.out)
  clear hg1 HGA HA HHd HEn a0 a1 a2 a3
  cases B2 with
  | false =>
    obtain rfl : B = false := HB.out.symm
    go_wp2_with fail
    go_ret
    exact ⟨rfl, HG1.out⟩
  | true =>
  by_cases h0 : l.length = 0
  · have t0 : ((l.length : Int) == 0) = true := by rw [h0]; rfl
    obtain rfl : B = false := by rw [← HB.out, h0]; rfl
    go_wp2_with fail
    go_ret
    exact ⟨rfl, HG1.out⟩
  · have t0 : ((l.length : Int) == 0) = false := by rw [beq_eq_false_iff_ne]; omega
    obtain ⟨g, off, rfl, -, hcap, hcm, hcut⟩ := (HV.out.gr HG1.out).cut (by omega)
    obtain ⟨y0, hy0⟩ : ∃ y, l[0]? = some y := ⟨_, List.getElem?_eq_getElem (by omega)⟩
    have hg0 : l.getD 0 ⟨#[]⟩ = y0 := by rw [List.getD_eq_getElem?_getD, hy0]; rfl
    have hys := HS.out y0 (List.mem_of_getElem? hy0)
    have hc0 : wb.cell? ⟨g, off, none⟩ = some (.string y0) := by
      rcases HV.out.gr HG1.out with ⟨he, h1⟩ | ⟨g', off', cap', he, _, _, hc⟩
      · cases he
      · injection he with e1 e2 e3
        injection e1 with e1; injection e1 with e1 e4
        subst e1 e4
        exact hc 0 y0 hy0
    obtain ⟨o1, hD, ho1⟩ : ∃ o1, StrsAt (.slice (some ⟨g, o1, none⟩) (l.length - 1) (c - 1)) (l.drop 1) wb ∧ ((c = 1 ∧ o1 = off) ∨ (c ≠ 1 ∧ o1 = off + 1)) := by
      by_cases h1 : c = 1
      · refine ⟨off, .inr ⟨g, off, c - 1, by rw [List.length_drop], by rw [List.length_drop]; omega, by omega, fun j x hj => ?_⟩, .inl ⟨h1, rfl⟩⟩
        have := (List.getElem?_eq_some_iff.1 hj).1
        rw [List.length_drop] at this; omega
      · exact ⟨off + 1, (hcut 1 (by omega)).2, .inr ⟨h1, rfl⟩⟩
    have HD := Lib.hid hD
    have HO1 := Lib.hid ho1
    have HBo := Lib.hid (fun y (ht : Tab y) => bound_any id ver n (head_ok HB1.out) y0 hys y ht)
    have HVf := Lib.hid (fun y (hg : Gr wb y) => verify_any y0 (lineD ⟨pa, f, m, d⟩) n i _ (l.drop 1) y (HD.out.gr hg) (by rw [List.length_drop]; omega) hn (Nat.le_trans (lineD_size (ent_line HB2.out)) (by decide)) (HT.out.gr (HG1.out.trans hg)))
    rw [hg0] at HB
    obtain ⟨R, hR⟩ : ∃ R, boundD id ver n y0 = R := ⟨_, rfl⟩
    obtain ⟨Ln, hLn⟩ : ∃ R, lineD ⟨pa, f, m, d⟩ = R := ⟨_, rfl⟩
    obtain ⟨C, hC⟩ : ∃ C, decide (root = R) = C := ⟨_, rfl⟩
    rw [hR] at HBo HB
    rw [hLn] at HVf HB HLn
    obtain ⟨X, hX⟩ : ∃ X, verD y0 n i Ln (l.drop 1) = X := ⟨_, rfl⟩
    rw [hX] at HVf HB
    rw [hC] at HB
    have t1 : (root.toList == R.toList) = C := by rw [beq_str, hC]
    have S0 : ∀ q : GrS wb.drew, q.w.cell? ⟨g, off, none⟩ = some (.string y0) := fun q => q.h.cell (w := wb.drew) hc0
    have S1 : ∀ q : GrS wb.drew, q.w.cell? ⟨bb, 0, none⟩ = some (.string pa) := fun q => q.h.cell (w := wb.drew) (row4 HA1.out).1
    have S2 : ∀ q : GrS wb.drew, q.w.cell? ⟨bb, 1, none⟩ = some (.int .i64 f) := fun q => q.h.cell (w := wb.drew) (row4 HA1.out).2.1
    have S3 : ∀ q : GrS wb.drew, q.w.cell? ⟨bb, 2, none⟩ = some (.int .i64 m) := fun q => q.h.cell (w := wb.drew) (row4 HA1.out).2.2.1
    have S4 : ∀ q : GrS wb.drew, q.w.cell? ⟨bb, 3, none⟩ = some (.string d) := fun q => q.h.cell (w := wb.drew) (row4 HA1.out).2.2.2
    have i0 : (0 : Int) < (l.length : Int) := by omega
    have i1 : (1 : Int) ≤ (l.length : Int) := by omega
    have i2 : (l.length : Int) ≤ (c : Int) := by omega
    clear hR hLn hC hX hg0 hy0 hys hcut hc0 hD ho1
    cases C with
    | false =>
      obtain rfl : B = false := by rw [← HB.out]; simp
      go_upto_region 3 with fail
      refine region_grow 22 51 (by kernel_rfl) rfl (by kernel_rfl) rfl rfl ?_
      simp only [List.take_succ_cons, List.take_zero, List.drop_succ_cons, List.drop_zero]
      refine seg 7 rfl rfl rfl rfl ?_
      simp only [List.take_succ_cons, List.take_zero, List.drop_succ_cons, List.drop_zero]
      repeat (go_big_quiet_step (fail))
      refine wpQuiet_nil ?_
      intro _
      refine grow_det (v := .string R) rfl rfl rfl rfl rfl ?_ ?_
      · intro w1 hG
        go_simp
        refine (HBo.out w1 (HT.out.gr (HG1.out.trans ((Gr.drew wb).trans hG)))).mono ?_
        rintro e w' ⟨rfl, hb⟩
        exact ⟨rfl, hb⟩
      simp only [Act.put, List.setIfInBounds_toArray, List.set_cons_zero, List.set_cons_succ]
      refine seg 8 rfl rfl rfl rfl ?_
      simp only [List.take_succ_cons, List.take_zero, List.drop_succ_cons, List.drop_zero]
      repeat (go_big_quiet_step (fail))
      refine wpQuiet_nil ?_
      intro _
      refine grow_skip rfl rfl rfl rfl ?_
      simp only [Act.put, List.setIfInBounds_toArray, List.set_cons_zero, List.set_cons_succ]
      refine seg 2 rfl rfl rfl rfl ?_
      simp only [List.take_succ_cons, List.take_zero, List.drop_succ_cons, List.drop_zero]
      repeat (go_big_quiet_step (fail))
      refine wpQuiet_nil ?_
      intro _
      refine grow_skip rfl rfl rfl rfl ?_
      simp only [Act.put, List.setIfInBounds_toArray, List.set_cons_zero, List.set_cons_succ]
      refine seg 2 rfl rfl rfl rfl ?_
      simp only [List.take_succ_cons, List.take_zero, List.drop_succ_cons, List.drop_zero]
      repeat (go_big_quiet_step (fail))
      refine wpQuiet_nil ?_
      intro _
      refine grow_end0 rfl rfl ?_
      intro w8 hG
      have HG8 : Hid (Gr w w8) := Lib.hid (HG1.out.trans ((Gr.drew wb).trans hG))
      clear hG S0 S1 S2 S3 S4
      go_wp2_with fail
      go_ret
      exact ⟨rfl, HG8.out⟩
    | true =>
      obtain rfl : B = X := by rw [← HB.out, decide_eq_true h0]; simp
      go_upto_region 3 with fail
      refine region_grow 22 51 (by kernel_rfl) rfl (by kernel_rfl) rfl rfl ?_
      simp only [List.take_succ_cons, List.take_zero, List.drop_succ_cons, List.drop_zero]
      refine seg 7 rfl rfl rfl rfl ?_
      simp only [List.take_succ_cons, List.take_zero, List.drop_succ_cons, List.drop_zero]
      repeat (go_big_quiet_step (fail))
      refine wpQuiet_nil ?_
      intro _
      refine grow_det (v := .string R) rfl rfl rfl rfl rfl ?_ ?_
      · intro w1 hG
        go_simp
        refine (HBo.out w1 (HT.out.gr (HG1.out.trans ((Gr.drew wb).trans hG)))).mono ?_
        rintro e w' ⟨rfl, hb⟩
        exact ⟨rfl, hb⟩
      simp only [Act.put, List.setIfInBounds_toArray, List.set_cons_zero, List.set_cons_succ]
      refine seg 8 rfl rfl rfl rfl ?_
      simp only [List.take_succ_cons, List.take_zero, List.drop_succ_cons, List.drop_zero]
      repeat (go_big_quiet_step (fail))
      refine wpQuiet_nil ?_
      intro _
      refine grow_det (v := .string Ln) rfl rfl rfl rfl rfl ?_ ?_
      · intro w1 hG
        go_simp
        refine (HLn.out trivial w1).mono ?_
        rintro e w' ⟨rfl, hb⟩
        exact ⟨rfl, hb⟩
      simp only [Act.put, List.setIfInBounds_toArray, List.set_cons_zero, List.set_cons_succ]
      refine seg 1 rfl rfl rfl rfl ?_
      simp only [List.take_succ_cons, List.take_zero, List.drop_succ_cons, List.drop_zero]
      repeat (go_big_quiet_step (fail))
      refine wpQuiet_nil ?_
      intro _
      refine grow_det (v := .slice (some ⟨g, o1, none⟩) (l.length - 1) (c - 1)) rfl rfl rfl rfl rfl ?_ ?_
      · intro w1 hG
        rcases HO1.out with ⟨h1, h2⟩ | ⟨h1, h2⟩
        · rw [h2]
          go_simp
        · rw [h2]
          go_simp
      simp only [Act.put, List.setIfInBounds_toArray, List.set_cons_zero, List.set_cons_succ]
      refine grow_det (v := .bool B) rfl rfl rfl rfl rfl ?_ ?_
      · intro w1 hG
        go_simp
        refine (HVf.out w1 ((Gr.drew wb).trans hG)).mono ?_
        rintro e w' ⟨rfl, hb⟩
        exact ⟨rfl, hb⟩
      simp only [Act.put, List.setIfInBounds_toArray, List.set_cons_zero, List.set_cons_succ]
      refine seg 2 rfl rfl rfl rfl ?_
      simp only [List.take_succ_cons, List.take_zero, List.drop_succ_cons, List.drop_zero]
      repeat (go_big_quiet_step (fail))
      refine wpQuiet_nil ?_
      intro _
      refine grow_end0 rfl rfl ?_
      intro w8 hG
      have HG8 : Hid (Gr w w8) := Lib.hid (HG1.out.trans ((Gr.drew wb).trans hG))
      clear hG S0 S1 S2 S3 S4
      go_wp2_with fail
      go_ret
      exact ⟨rfl, HG8.out⟩
end Go.Proofs.YtjnnhhengpinmaaGreatDoor
