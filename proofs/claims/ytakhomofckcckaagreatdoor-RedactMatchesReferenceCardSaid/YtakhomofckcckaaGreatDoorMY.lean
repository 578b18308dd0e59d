/- The reference's salts, leaves, lists of leaves, roots and checks. -/
import Derived.Test.YtakhomofckcckaaGreatDoorMX
import Derived.Test.YtakhomofckcckaaGreatDoorMU
import Derived.Test.YtakhomofckcckaaGreatDoorRefR
import Derived.Test.YtakhomofckcckaaGreatDoorMS
namespace Go.Proofs.YtakhomofckcckaaGreatDoor
section
open Go Go.RowKit Go.Shelf
attribute [local go_sem] gAt gUpon
attribute [local simp] Gr.refl Gr.alloc

theorem saltR_any (secret : ByteArray) (line : Int) (w : World) (hs : secret.size ≤ 140737488353000) :
    Calls Tryz.prog 24 #[.string secret, .int .i64 line] w fun e w' => e = .returned (.string (saltD secret line)) ∧ Gr w w' := by
  by_cases h0 : line < 0
  · have t0 : decide (line < 0) = true := decide_eq_true h0
    rw [show saltD secret line = ⟨#[]⟩ from if_pos (.inl h0)]
    clear h0
    go_enter Tryz.func24, Tryz.ntmps24
    go_wp2_with fail
    go_ret
    exact ⟨rfl, Gr.refl _⟩
  · have t0 : decide (line < 0) = false := decide_eq_false h0
    by_cases h1 : 64 ≤ line
    · have t1 : decide (64 ≤ line) = true := decide_eq_true h1
      have t1' : decide (line < 64) = false := decide_eq_false (by omega)
      rw [show saltD secret line = ⟨#[]⟩ from if_pos (.inr h1)]
      clear h0 h1
      go_enter Tryz.func24, Tryz.ntmps24
      go_wp2_with fail
      go_ret
      exact ⟨rfl, Gr.refl _⟩
    · obtain ⟨k, rfl⟩ : ∃ k : Nat, line = (k : Int) := ⟨line.toNat, by omega⟩
      have hk : k < 64 := by omega
      rw [show saltD secret (k : Int) = (sha (numB k ++ secret)).extract 0 16 from if_neg (by omega)]
      have t1 : decide (64 ≤ (k : Int)) = false := decide_eq_false h1
      have t1' : decide ((k : Int) < 64) = true := decide_eq_true (by omega)
      have t1n : decide (64 ≤ k) = false := decide_eq_false (by omega)
      have HN := Lib.hid (putIntR_any k (by omega))
      have hsz : (numB k).size + secret.size ≤ 140737488354000 := by have := numB_size k; omega
      have HS := Lib.hid (fun y => sumR_any (numB k ++ secret) y (by rw [ByteArray.size_append]; exact hsz))
      have hadd : ∀ w1, (Op.stringOp .add (numB k) secret).run Tryz.prog w1 = .ok (.string (numB k ++ secret)) w1 := by
        intro w1
        rw [run_string_add_sum]
        omega
      have hs32 : (sha (numB k ++ secret)).size = 32 := sha_size _
      clear h0 h1 hs
      generalize sha (numB k ++ secret) = SH at HS hs32 ⊢
      generalize numB k ++ secret = X at HS hadd
      generalize numB k = NB at HN hadd hsz
      have hs16 : 16 ≤ SH.size := by omega
      go_enter Tryz.func24, Tryz.ntmps24
      go_wp2_with fail
      refine (HN.out _).mono ?_
      rintro e w1 ⟨rfl, hg⟩
      have HG1 := Lib.hid hg
      clear hg HN
      go_wp2_with fail
      refine (HS.out _).mono ?_
      rintro e w2 ⟨rfl, hg⟩
      have HG2 := Lib.hid (HG1.out.trans hg)
      clear hg HS HG1 hadd
      go_wp2_with fail
      go_ret
      exact ⟨rfl, HG2.out⟩
set_option maxRecDepth 100000 in
set_option maxHeartbeats 1000000 in
theorem leafR23_any (x : Lf) (w : World) (hx : x.text.size ≤ 9223372036854775807) :
    Calls Tryz.prog 68 #[.agg #[.bool x.shown, .string x.text, .int .i64 x.mark, .string x.salt, .string x.digest]] w fun e w' => e = .returned (.bool (leafB x)) ∧ Gr w w' := by
  obtain ⟨sh, t, m, sl, dg⟩ := x
  simp only at hx ⊢
  cases sh with
  | false =>
    obtain ⟨B, hB⟩ : ∃ B, leafB ⟨false, t, m, sl, dg⟩ = B := ⟨_, rfl⟩
    rw [hB]
    have HB := Lib.hid hB
    clear hB
    go_enter Tryz.func68, Tryz.ntmps68
    go_upto_region 1 with fail
    refine wp_gen (F := fun y => Gr w y ∧ y.heap[w.heap.size]? = some (.cells #[.bool false, .string t, .int .i64 m, .string sl, .string dg] 35 (0, 0))) ⟨Gr.alloc _ _, heap_alloc_new _ _⟩ ?_
    rintro wA ⟨hgA, hrA⟩
    obtain ⟨c0, c1, c2, c3, c4⟩ := row5 hrA
    clear hrA
    by_cases h32 : dg.size = 32
    · have t1 : ((dg.size : Int) == 32) = true := by rw [h32]; rfl
      have t2 : (dg.size == 32) = true := by rw [h32]; rfl
      have H32 := Lib.hid h32
      clear h32
      go_wp2_with fail
      all_goals (go_ret; refine ⟨?_, hgA⟩; rw [← HB.out]; simp [leafB, H32.out, *])
    · have t1 : ((dg.size : Int) == 32) = false := beq_eq_false_iff_ne.2 (by omega)
      have t2 : (dg.size == 32) = false := beq_eq_false_iff_ne.2 h32
      have H32 := Lib.hid h32
      clear h32
      go_wp2_with fail
      all_goals (go_ret; refine ⟨?_, hgA⟩; rw [← HB.out]; simp [leafB, H32.out, *])
  | true =>
    obtain ⟨B, hB⟩ : ∃ B, leafB ⟨true, t, m, sl, dg⟩ = B := ⟨_, rfl⟩
    rw [hB]
    have HB := Lib.hid hB
    clear hB
    have HV := Lib.hid (fun v1 y (h : DocIn v1 (.slice none 0 0) [(t, m)] [] y) => valid6_any v1 (.slice none 0 0) [(t, m)] [] 0 ⟨#[]⟩ y h (by simp) (by simp) (by omega) (by decide) (fun x hx2 => by obtain rfl := List.mem_singleton.1 hx2; exact hx))
    rw [valid_one] at HV
    obtain ⟨b, hb⟩ : ∃ b, lnB (t, m) = b := ⟨_, rfl⟩
    rw [hb] at HV
    have Hb := Lib.hid hb
    clear hb hx
    go_enter Tryz.func68, Tryz.ntmps68
    go_upto_region 1 with fail
    refine wp_gen (F := fun y => Gr w y ∧ y.heap[w.heap.size]? = some (.cells #[.bool true, .string t, .int .i64 m, .string sl, .string dg] 35 (0, 0))) ⟨Gr.alloc _ _, heap_alloc_new _ _⟩ ?_
    rintro wA ⟨hgA, hrA⟩
    have HRA := Lib.hid hrA
    obtain ⟨c0, c1, c2, c3, c4⟩ := row5 hrA
    clear hrA
    go_wp2_with fail
    refine (HV.out _ _ ?_).mono ?_
    · exact doc_one t m _
    rintro e wB ⟨rfl, hgB⟩
    have HGB := Lib.hid (hgA.trans ((Gr.alloc _ _).trans hgB))
    obtain ⟨c0, c1, c2, c3, c4⟩ := row5 (((Gr.alloc _ _).trans hgB).block HRA.out)
    clear hgA hgB HRA HV
    cases b with
    | false =>
      obtain rfl : B = false := by rw [← HB.out]; simp [leafB, Hb.out]
      go_wp2_with fail
      go_ret
      exact ⟨rfl, HGB.out⟩
    | true =>
      by_cases h16 : sl.size = 16
      · have t1 : ((sl.size : Int) == 16) = true := by rw [h16]; rfl
        have t2 : (sl.size == 16) = true := by rw [h16]; rfl
        by_cases hd : dg.size = 0
        · obtain rfl : dg = ⟨#[]⟩ := ByteArray.ext (Array.eq_empty_of_size_eq_zero hd)
          obtain rfl : B = true := by rw [← HB.out]; simp [leafB, h16, hd, Hb.out]
          clear h16 hd
          go_wp2_with fail
          go_ret
          exact ⟨rfl, HGB.out⟩
        · have hne : ¬ dg.toList = [] := fun h => hd (by have := isEmpty_iff dg; rw [h] at this; simpa using this.symm)
          have hne2 : dg.toList.isEmpty = false := by rw [isEmpty_iff]; exact decide_eq_false hd
          obtain rfl : B = false := by rw [← HB.out]; simp [leafB, hd]
          clear hd h16
          go_wp2_with fail
          all_goals (go_ret; exact ⟨rfl, HGB.out⟩)
      · have t1 : ((sl.size : Int) == 16) = false := beq_eq_false_iff_ne.2 (by omega)
        have t2 : (sl.size == 16) = false := beq_eq_false_iff_ne.2 h16
        obtain rfl : B = false := by rw [← HB.out]; simp [leafB, h16]
        clear h16
        go_wp2_with fail
        go_ret
        exact ⟨rfl, HGB.out⟩
set_option maxRecDepth 100000 in
set_option maxHeartbeats 1000000 in
theorem validR_any (v : Value) (l : List Lf) (w : World) (hv : Rws 5 lfC v l w) (hl : l.length ≤ 1000) (hz : ∀ x ∈ l, x.text.size ≤ 9223372036854775807) :
    Calls Tryz.prog 32 #[v] w fun e w' => e = .returned (.bool (listB l)) ∧ Gr w w' := by
  obtain ⟨p, c, rfl⟩ := hv.shape
  obtain ⟨B, hB⟩ : ∃ B, listB l = B := ⟨_, rfl⟩
  rw [hB]
  have HB := Lib.hid hB
  have HV := Lib.hid hv
  have HC := Lib.hid (fun (k : Nat) (x : Lf) (hx : l[k]? = some x) y => leafR23_any x y (hz x (List.mem_of_getElem? hx)))
  clear hB hv hz
  go_enter Tryz.func32, Tryz.ntmps32
  go_wp2_with fail
  go_loopw [3] (fun v3 W => ∃ k : Nat, k ≤ l.length ∧ v3 = .int .i64 (k : Int) ∧ Hid ((l.take k).all leafB = true) ∧ Hid (Gr w W)) (fun v3 _ => l.length - (intOf v3).toNat)
  case atStart => exact ⟨0, Nat.zero_le _, rfl, Lib.hid rfl, Lib.hid (Gr.refl _)⟩
  case round =>
    obtain ⟨k, hk, rfl, HA, HG⟩ := hrel
    by_cases hlt : k < l.length
    · have ht : decide (k < l.length) = true := decide_eq_true hlt
      obtain ⟨x, hx⟩ : ∃ x, l[k]? = some x := ⟨_, List.getElem?_eq_getElem hlt⟩
      obtain ⟨g, off, rfl, hlc, hc⟩ := (HV.out.gr HG.out).at_ hx
      have HCx := Lib.hid (HC.out k x hx)
      have HSt := Lib.hid (take_all (p := leafB) hx)
      have HBd : Hid (leafB x = false → B = false) := Lib.hid (fun h => by
        rw [← HB.out]; unfold listB; rw [all_bad hx h]; simp)
      have hc0 := hc 0 _ rfl
      have hc1 := hc 1 _ rfl
      have hc2 := hc 2 _ rfl
      have hc3 := hc 3 _ rfl
      have hc4 := hc 4 _ rfl
      rw [Nat.add_zero] at hc0
      rw [← Nat.add_assoc] at hc1 hc2 hc3 hc4
      obtain ⟨sh, t, m, sl, dg⟩ := x
      simp only at hc0 hc1 hc2 hc3 hc4 HCx
      generalize leafB ⟨sh, t, m, sl, dg⟩ = b at HCx HSt HBd
      clear hc hx
      go_wp2_with fail
      refine (HCx.out wr).mono ?_
      rintro e w1 ⟨rfl, hg⟩
      have HG1 := Lib.hid (HG.out.trans hg)
      clear hg HG hc0 hc1 hc2 hc3 hc4 HCx
      cases b with
      | false =>
        obtain rfl : B = false := HBd.out rfl
        clear HB HBd HSt HA
        go_wp2_with fail
        go_ret
        exact ⟨rfl, HG1.out⟩
      | true =>
        have HA2 : Hid ((l.take (k + 1)).all leafB = true) := Lib.hid (by rw [HSt.out, HA.out]; rfl)
        clear HBd HSt HA
        go_wp2_with fail
        go_roundw
        case rel => exact ⟨k + 1, by omega, by go_num, HA2, HG1⟩
        case measure => simp [intOf]; omega
    · have ht : decide (k < l.length) = false := decide_eq_false hlt
      have HR : Hid (decide (l.length ≤ 64) = B) := Lib.hid (by
        have h := HA.out
        rw [List.take_of_length_le (by omega)] at h
        rw [← HB.out]; unfold listB; rw [h]; simp)
      clear hlt HA HB
      go_wp2_with fail
      go_ret
      refine ⟨?_, HG.out⟩
      rw [← HR.out]
      have e1 : (decide ((l.length : Int) ≤ 64)) = decide (l.length ≤ 64) := by
        by_cases h : l.length ≤ 64
        · rw [decide_eq_true h, decide_eq_true (by omega)]
        · rw [decide_eq_false h, decide_eq_false (by omega)]
      rw [← e1]
      rfl
theorem rootR23_any (v : Value) (l : List Lf) (w : World) (hv : Rws 5 lfC v l w) (hl : l.length ≤ 1000) (hz : ∀ x ∈ l, x.text.size ≤ 9223372036854775807) :
    Calls Tryz.prog 15 #[v] w fun e w' => e = .returned (.string (rtD l)) ∧ Gr w w' := by
  have HI := Lib.hid (validR_any v l w hv hl hz)
  cases hb : listB l with
  | false =>
    rw [hb] at HI
    have HR : Hid (rtD l = ⟨#[]⟩) := Lib.hid (by unfold rtD; rw [hb]; rfl)
    obtain ⟨p, c, rfl⟩ := hv.shape
    clear hv hz hb
    go_enter Tryz.func15, Tryz.ntmps15
    go_wp2_with fail
    refine HI.out.mono ?_
    rintro e w1 ⟨rfl, hg⟩
    have HG := Lib.hid hg
    clear hg HI
    go_wp2_with fail
    go_ret
    exact ⟨by rw [HR.out]; rfl, HG.out⟩
  | true =>
    rw [hb] at HI
    obtain ⟨hl1, hl2⟩ := listB_all hb
    have HR : Hid (rtD l = nodeD (leafD (numB l.length)) (rootD (l.map valueD))) := Lib.hid (by unfold rtD; rw [hb]; rfl)
    have HP := Lib.hid (fun y => putIntR_any l.length (by omega) y)
    have hns := numB_size l.length
    have HLe := Lib.hid (fun y => leafR_any (numB l.length) y (by omega))
    have HVa := Lib.hid (fun y (hg : Gr w y) => valuesR_any v l y (hv.gr hg) (by omega) (fun x hx hs => by have := leafB_shown (hl2 x hx) hs; omega) (fun x hx => Nat.le_trans (leafB_tiny (hl2 x hx)) (by omega)))
    have HRo := Lib.hid (fun u y (hu : StrsAt u (l.map valueD) y) => rootR_any u (l.map valueD) y hu (by rw [List.length_map]; omega) (fun x hx => by
      obtain ⟨z, hz, rfl⟩ := List.mem_map.1 hx
      rw [leafB_value (hl2 z hz)]; decide))
    have HNo := Lib.hid (fun y => nodeR_any (leafD (numB l.length)) (rootD (l.map valueD)) y (by rw [leafD_size, rootD_size]; omega))
    have HLv : Hid ((l.map valueD).length = l.length) := Lib.hid (List.length_map _)
    have HFv : Hid ((l.map valueD).flatMap strC = sC (l.map valueD)) := Lib.hid (flat_strC _)
    obtain ⟨p, c, rfl⟩ := hv.shape
    clear hv hz hb hl2 hns
    generalize nodeD (leafD (numB l.length)) (rootD (l.map valueD)) = R at *
    generalize leafD (numB l.length) = LE at *
    generalize rootD (l.map valueD) = RO at *
    generalize numB l.length = NB at *
    go_enter Tryz.func15, Tryz.ntmps15
    go_wp2_with fail
    refine HI.out.mono ?_
    rintro e w1 ⟨rfl, hg⟩
    have HG1 := Lib.hid hg
    clear hg HI
    go_wp2_with fail
    refine (HP.out w1).mono ?_
    rintro e w2 ⟨rfl, hg⟩
    have HG2 := Lib.hid (HG1.out.trans hg)
    clear hg HP HG1
    go_wp2_with fail
    refine (HLe.out w2).mono ?_
    rintro e w3 ⟨rfl, hg⟩
    have HG3 := Lib.hid (HG2.out.trans hg)
    clear hg HLe HG2
    go_wp2_with fail
    refine (HVa.out w3 HG3.out).mono ?_
    rintro e w4 ⟨u, rfl, ho, hg⟩
    have HG4 := Lib.hid (HG3.out.trans hg)
    have HO4 : Hid (StrsAt u (l.map valueD) w4) := Lib.hid (by
      rw [HFv.out] at ho
      have h : OwnL w3.heap.size (l.map valueD) u w4 := by unfold OwnL; rw [HLv.out]; exact ho
      exact h.strs)
    clear hg ho HVa HG3
    go_wp2_with fail
    refine (HRo.out u w4 HO4.out).mono ?_
    rintro e w5 ⟨rfl, hg⟩
    have HG5 := Lib.hid (HG4.out.trans hg)
    clear hg HRo HG4 HO4
    go_wp2_with fail
    refine (HNo.out w5).mono ?_
    rintro e w6 ⟨rfl, hg⟩
    have HG6 := Lib.hid (HG5.out.trans hg)
    clear hg HNo HG5
    go_wp2_with fail
    go_ret
    exact ⟨by rw [HR.out]; rfl, HG6.out⟩
theorem checkR_any (root : ByteArray) (v : Value) (l : List Lf) (w : World) (hv : Rws 5 lfC v l w) (hl : l.length ≤ 1000) (hz : ∀ x ∈ l, x.text.size ≤ 9223372036854775807) :
    Calls Tryz.prog 18 #[.string root, v] w fun e w' => e = .returned (.bool (chkD root l)) ∧ Gr w w' := by
  have HI := Lib.hid (validR_any v l w hv hl hz)
  have HR := Lib.hid (fun y (hg : Gr w y) => rootR23_any v l y (hv.gr hg) hl hz)
  obtain ⟨p, c, rfl⟩ := hv.shape
  obtain ⟨B, hB⟩ : ∃ B, chkD root l = B := ⟨_, rfl⟩
  rw [hB]
  unfold chkD at hB
  cases hb : listB l with
  | false =>
    rw [hb] at HI hB
    obtain rfl : B = false := by rw [← hB]; rfl
    clear hv hz hb hB HR
    go_enter Tryz.func18, Tryz.ntmps18
    go_wp2_with fail
    refine HI.out.mono ?_
    rintro e w1 ⟨rfl, hg⟩
    have HG := Lib.hid hg
    clear hg HI
    go_wp2_with fail
    go_ret
    exact ⟨rfl, HG.out⟩
  | true =>
    rw [hb] at HI hB
    obtain rfl : B = decide (rtD l = root) := by rw [← hB]; rfl
    clear hv hz hb hB
    generalize rtD l = R at HR ⊢
    go_enter Tryz.func18, Tryz.ntmps18
    go_wp2_with fail
    refine HI.out.mono ?_
    rintro e w1 ⟨rfl, hg⟩
    have HG := Lib.hid hg
    clear hg HI
    go_wp2_with fail
    refine (HR.out _ HG.out).mono ?_
    rintro e w2 ⟨rfl, hg⟩
    have HG2 := Lib.hid (HG.out.trans hg)
    have HBe := Lib.hid (beq_str R root)
    clear hg HR HG
    go_wp2_with fail
    go_ret
    refine ⟨?_, HG2.out⟩
    rw [← HBe.out]
    first | rfl | simp
end
section
open Go Go.RowKit Go.Shelf
attribute [local go_sem] gAt gUpon
attribute [local simp] Gr.refl Gr.alloc

set_option maxRecDepth 100000 in
set_option maxHeartbeats 2000000 in
theorem leavesR_any (v1 v2 : Value) (ls : List Ln) (cs : List Ce) (wd : Int) (bits secret : ByteArray) (w : World) (hd : DocIn v1 v2 ls cs w) (hl1 : ls.length ≤ 1000) (hl2 : cs.length ≤ 1000) (hw : -9223372036854775808 ≤ wd ∧ wd ≤ 9223372036854775807) (hb : bits.size ≤ 9223372036854775807) (hz : ∀ x ∈ ls, x.1.size ≤ 9223372036854775807) (hs : secret.size ≤ 140737488353000) :
    Calls Tryz.prog 10 #[.agg #[v1, v2, .int .i64 wd, .string bits], .string secret] w fun e w' =>
      (validB ls cs wd bits = true → ∃ u, e = .returned (.tuple #[u, .int .i64 0]) ∧ Own w.heap.size 5 u ls.length ((leavesD secret ls).flatMap lfC) w' ∧ Gr w w') ∧
      (validB ls cs wd bits = false → e = .returned (.tuple #[.slice none 0 0, .int .i64 230]) ∧ Gr w w') := by
  obtain ⟨i0, hi, hzz, hsz, hbt⟩ := info_parts infoLf
  have HI := Lib.hid hi
  have HI0 := Lib.hid hzz
  have HI1 := Lib.hid hsz
  have HI2 := Lib.hid hbt
  have HV := Lib.hid (fun y (hg : Gr w y) => valid6_any v1 v2 ls cs wd bits y (hd.gr hg) hl1 hl2 hw hb hz)
  have HS := Lib.hid (fun (k : Nat) y => saltR_any secret (k : Int) y hs)
  obtain ⟨p1, c1, rfl⟩ := hd.1.shape
  obtain ⟨p2, c2, rfl⟩ := hd.2.shape
  have HD := Lib.hid hd.1
  obtain ⟨B, hB⟩ : ∃ B, validB ls cs wd bits = B := ⟨_, rfl⟩
  rw [hB] at HV ⊢
  clear hd hs hi hzz hsz hbt hz hB
  cases B with
  | false =>
    go_enter Tryz.func10, Tryz.ntmps10
    go_upto_region 1 with fail
    refine wp_gen (F := fun y => Gr w y ∧ y.heap[w.heap.size]? = some (.cells #[.slice p1 ls.length c1, .slice p2 cs.length c2, .int .i64 wd, .string bits] 25 (0, 0))) ⟨Gr.alloc _ _, heap_alloc_new _ _⟩ ?_
    rintro wA ⟨hgA, hrA⟩
    obtain ⟨k0, k1, k2, k3⟩ := row4 hrA
    have HGA := Lib.hid hgA
    clear hrA hgA
    go_wp2_with fail
    refine (HV.out _ HGA.out).mono ?_
    rintro e w1 ⟨rfl, hg⟩
    have HG1 := Lib.hid (HGA.out.trans hg)
    clear hg HV k0 k1 k2 k3 HGA
    go_wp2_with fail
    go_ret2
    exact ⟨fun h => (by cases h), fun _ => ⟨rfl, HG1.out⟩⟩
  | true =>
    go_enter Tryz.func10, Tryz.ntmps10
    go_upto_region 1 with fail
    refine wp_gen (F := fun y => Gr w y ∧ y.heap[w.heap.size]? = some (.cells #[.slice p1 ls.length c1, .slice p2 cs.length c2, .int .i64 wd, .string bits] 25 (0, 0))) ⟨Gr.alloc _ _, heap_alloc_new _ _⟩ ?_
    rintro wA ⟨hgA, hrA⟩
    obtain ⟨k0, k1, k2, k3⟩ := row4 hrA
    have HGA := Lib.hid hgA
    have HRA := Lib.hid hrA
    generalize hgd : w.heap.size = gd at hrA HRA k0 k1 k2 k3 ⊢
    clear hrA hgA hgd
    go_wp2_with fail
    refine (HV.out _ HGA.out).mono ?_
    rintro e w1 ⟨rfl, hg⟩
    have HG1 := Lib.hid (HGA.out.trans hg)
    have HR1 := Lib.hid (hg.block HRA.out)
    clear hg HV k0 k1 k2 k3 HGA HRA
    go_wp2_with fail
    go_loopw [7, 8] (fun v7 v8 W => ∃ (k : Nat) (V : Value), k ≤ ls.length ∧ v8 = .int .i64 (k : Int) ∧ V = v7 ∧ Hid (Own w1.heap.size 5 V k ((leavesD secret (ls.take k)).flatMap lfC) W) ∧ Hid (Gr w1 W)) (fun _ v8 _ => ls.length - (intOf v8).toNat)
    case atStart => exact ⟨0, _, Nat.zero_le _, rfl, rfl, Lib.hid (Own.nil _ _ _), Lib.hid (Gr.refl _)⟩
    case round =>
      obtain ⟨k, v7, hk, rfl, rfl, HO, HG⟩ := hrel
      obtain ⟨d0, -, -, -⟩ := row4 (HG.out.block HR1.out)
      by_cases hlt : k < ls.length
      · have ht : decide (k < ls.length) = true := decide_eq_true hlt
        obtain ⟨x, hx⟩ : ∃ x, ls[k]? = some x := ⟨_, List.getElem?_eq_getElem hlt⟩
        obtain ⟨g, off, rfl, hlc, hc⟩ := (HD.out.gr (HG1.out.trans HG.out)).at_ hx
        have HE := Lib.hid (leavesD_take secret ls k x hx)
        have HSk := Lib.hid (HS.out k)
        obtain ⟨t, m⟩ := x
        have HE2 : Hid ((leavesD secret (ls.take (k + 1))).flatMap lfC = (leavesD secret (ls.take k)).flatMap lfC ++ [.bool true, .string t, .int .i64 m, .string (saltD secret (k : Int)), .string ⟨#[]⟩]) := HE
        have hc0 := hc 0 _ rfl
        have hc1 := hc 1 _ rfl
        rw [Nat.add_zero] at hc0
        rw [← Nat.add_assoc] at hc1
        simp only at hc0 hc1
        have s0 : ∀ n : GrS wr.drew, n.w.cell? ⟨g, off + k * 2, none⟩ = some (.string t) := fun n => n.h.cell (w := wr.drew) hc0
        have s1 : ∀ n : GrS wr.drew, n.w.cell? ⟨g, off + k * 2 + 1, none⟩ = some (.int .i64 m) := fun n => n.h.cell (w := wr.drew) hc1
        have s2 : ∀ n : GrS wr.drew, n.w.cell? ⟨gd, 0, none⟩ = some (.slice (some ⟨g, off, none⟩) ls.length c1) := fun n => n.h.cell (w := wr.drew) d0
        generalize saltD secret (k : Int) = SK at HSk HE2
        clear hc hx HE hc0 hc1
        go_upto_region 8 with fail
        clear d0
        refine region_grow 11 33 (by kernel_rfl) rfl (by kernel_rfl) rfl rfl ?_
        simp only [List.take_succ_cons, List.take_zero, List.drop_succ_cons, List.drop_zero]
        refine seg 8 rfl rfl rfl rfl ?_
        simp only [List.take_succ_cons, List.take_zero, List.drop_succ_cons, List.drop_zero]
        repeat (go_big_quiet_step (fail))
        refine wpQuiet_nil ?_
        intro _
        refine grow_det (v := .string SK) rfl rfl rfl rfl rfl ?_ ?_
        · intro w1 hG
          go_simp
          refine (HSk.out w1).mono ?_
          rintro e w' ⟨rfl, hb⟩
          exact ⟨rfl, hb⟩
        simp only [Act.put, List.setIfInBounds_toArray, List.set_cons_zero, List.set_cons_succ]
        refine grow_det (v := .agg #[.bool true, .string t, .int .i64 m, .string SK, .string ⟨#[]⟩]) rfl rfl rfl rfl rfl ?_ ?_
        · intro w1 hG
          go_simp
        simp only [Act.put, List.setIfInBounds_toArray, List.set_cons_zero, List.set_cons_succ]
        refine grow_open (NewEl [.bool true, .string t, .int .i64 m, .string SK, .string ⟨#[]⟩] 35) rfl rfl rfl rfl (by first | exact stb_row _ _ | exact stb_el _ _ | exact OwnL.stb _ _) (fun w1 hG => ?_) ?_
        · go_simp
          exact newEl_alloc _ _ _
        refine grow_end1 rfl rfl (by decide) ?_
        rintro w8 u hG8 ⟨b2, rfl, hb2⟩
        simp only [Act.put, List.setIfInBounds_toArray, List.set_cons_zero, List.set_cons_succ]
        have hg78 : Gr wr w8 := Gr.trans (Gr.drew wr) hG8
        clear s0 s1 s2
        go_wp2_with ((with_reducible show wpList _ _ _ (⟨some 31, _, _, _, _, _⟩ :: _) _ _); refine wpList_append_Own rfl (.tmp 20) (.tmp 30) 31 rfl 35 i0 (.agg #[.bool false, .string ⟨#[]⟩, .int .i64 0, .string ⟨#[]⟩, .string ⟨#[]⟩]) 5 64 Tryz.underlying31 HI.out HI0.out HI1.out HI2.out rfl (by decide) rfl (HO.out.gr hg78) ⟨b2, 0, none⟩ 1 1 [.bool true, .string t, .int .i64 m, .string SK, .string ⟨#[]⟩] rfl rfl ?hnewsD ?h1cD (by decide) ?b1D ?b2D ?hBD ?_)
        case hnewsD =>
          intro j u hj
          have h := row_at hb2 j u hj
          rw [Addr.add_mid, Nat.zero_add] at h
          exact h
        case h1cD => first | rfl | simp [Value.oneCell']
        case b1D => unfold maxLen; omega
        case b2D => omega
        case hBD => have := HG.out.size; have := hg78.size; omega
        intro v9 w9 hown hchg _
        have HGn : Hid (Gr w1 w9) := Lib.hid (gr_step HG.out hg78 hchg (fun g hg => HO.out.ge hg))
        have HOn : Hid (Own w1.heap.size 5 v9 (k + 1) ((leavesD secret (ls.take (k + 1))).flatMap lfC) w9) := Lib.hid (by rw [HE2.out]; exact hown)
        clear hown hchg HO HG HE2 hb2 hG8 hg78 HSk
        go_wp2_with fail
        go_roundw
        case rel => exact ⟨k + 1, _, by omega, by go_num, rfl, HOn, HGn⟩
        case measure => simp [intOf]; omega
      · have ht : decide (k < ls.length) = false := decide_eq_false hlt
        have HFin : Hid (Own w.heap.size 5 v7 ls.length ((leavesD secret ls).flatMap lfC) wr ∧ Gr w wr) := Lib.hid (by
          have h := HO.out
          have e : k = ls.length := by omega
          rw [e, List.take_of_length_le (Nat.le_refl _)] at h
          exact ⟨h.mono HG1.out.size, HG1.out.trans HG.out⟩)
        clear HO HG
        go_wp2_with fail
        go_ret2
        exact ⟨fun _ => ⟨_, rfl, HFin.out⟩, fun h => (by cases h)⟩
/-- a leaf that lies in a block of its own -/
def XAt (g : Nat) (y : Lf) (w : World) : Prop := (∀ (j : Nat) u, (lfC y)[j]? = some u → w.cell? ⟨g, j, none⟩ = some u) ∧ w.there g 0 5
theorem XAt.made (w : World) (y : Lf) : XAt w.heap.size y (w.alloc (.cells #[.bool y.shown, .string y.text, .int .i64 y.mark, .string y.salt, .string y.digest] 35)) := by
  have hrow := heap_alloc_new w (.cells #[.bool y.shown, .string y.text, .int .i64 y.mark, .string y.salt, .string y.digest] 35)
  refine ⟨fun j u hj => by rw [cell_of_row _ _ _ _ _ _ hrow]; simpa [lfC] using hj, fun j hj => ?_⟩
  rw [cell_of_row _ _ _ _ _ _ hrow]
  exact ⟨by simp; omega, frozen_of_row _ _ _ _ _ hrow⟩
theorem XAt.gr {g : Nat} {y : Lf} {w x : World} (h : XAt g y w) (hg : Gr w x) : XAt g y x := by
  refine ⟨fun j u hj => hg.cell (h.1 j u hj), fun j hj => ?_⟩
  obtain ⟨h1, h2⟩ := h.2 j hj
  obtain ⟨u, hu⟩ := Option.isSome_iff_exists.1 h1
  exact ⟨by rw [hg.cell hu]; rfl, (hg.frozen (World.block_lt_of_cell? w _ hu)).trans h2⟩
theorem XAt.store {g : Nat} {y z : Lf} {w : World} (h : XAt g y w) : XAt g z (w.setCells g 0 (lfC z)) := by
  refine ⟨fun j u hj => ?_, World.there_setCells h.2 _ _ _⟩
  have hlt : j < (lfC z).length := (List.getElem?_eq_some_iff.1 hj).1
  have h1 := World.cell?_setCells_in g (lfC z) 0 w (fun i hi => (h.2 i hi).1) j hlt
  rw [Nat.zero_add] at h1
  rw [h1]
  exact congrArg some (List.getElem?_eq_some_iff.1 hj).2
theorem XAt.row {g : Nat} {sh : Bool} {t sl dg : ByteArray} {m : Int} {w : World} (h : XAt g ⟨sh, t, m, sl, dg⟩ w) : w.cell? ⟨g, 0, none⟩ = some (.bool sh) ∧ w.cell? ⟨g, 1, none⟩ = some (.string t) ∧ w.cell? ⟨g, 2, none⟩ = some (.int .i64 m) ∧ w.cell? ⟨g, 3, none⟩ = some (.string sl) ∧ w.cell? ⟨g, 4, none⟩ = some (.string dg) :=
  ⟨h.1 0 _ rfl, h.1 1 _ rfl, h.1 2 _ rfl, h.1 3 _ rfl, h.1 4 _ rfl⟩
def hidL (x : Lf) : Lf := ⟨false, ⟨#[]⟩, 0, ⟨#[]⟩, valueD x⟩
theorem hid_same {x : Lf} (h : leafB x = true) (hs : x.shown = false) : hidL x = x := by
  obtain ⟨sh, t, m, sl, dg⟩ := x
  simp only at hs
  subst hs
  unfold leafB at h
  rw [if_neg (by simp)] at h
  rw [Bool.and_eq_true, Bool.and_eq_true, Bool.and_eq_true, decide_eq_true_eq, decide_eq_true_eq, decide_eq_true_eq, decide_eq_true_eq] at h
  have h1 : t.size = 0 := by have := isEmpty_iff t; rw [h.1] at this; simpa using this.symm
  have h2 : sl.size = 0 := by have := isEmpty_iff sl; rw [h.2.2.1] at this; simpa using this.symm
  have e1 : t = ⟨#[]⟩ := ByteArray.ext (Array.eq_empty_of_size_eq_zero h1)
  have e2 : sl = ⟨#[]⟩ := ByteArray.ext (Array.eq_empty_of_size_eq_zero h2)
  have e3 : m = 0 := h.2.1
  subst e1 e2 e3
  rfl
/-- the leaf behind k of the numbers -/
def hidN (hid : List Int) (i : Nat) (x : Lf) (k : Nat) : Lf := if (i : Int) ∈ hid.take k ∧ x.shown = true then hidL x else x
theorem hidN_zero (hid : List Int) (i : Nat) (x : Lf) : hidN hid i x 0 = x := by unfold hidN; rw [if_neg (by simp)]
theorem hidN_end {hid : List Int} {i : Nat} {x : Lf} (h : leafB x = true) {k : Nat} (hk : hid.length ≤ k) : hidN hid i x k = hideX hid i x := by
  unfold hidN hideX
  rw [List.take_of_length_le hk]
  by_cases hi : (i : Int) ∈ hid
  · rw [if_pos hi]
    cases hs : x.shown with
    | true => rw [if_pos ⟨hi, rfl⟩]; rfl
    | false => rw [if_neg (by simp), ← hid_same h hs]; rfl
  · rw [if_neg hi, if_neg (fun h => hi h.1)]
theorem hidN_step {hid : List Int} {i : Nat} {x : Lf} {k : Nat} {n : Int} (h : hid[k]? = some n) : hidN hid i x (k + 1) = if n = (i : Int) ∧ (hidN hid i x k).shown = true then hidL x else hidN hid i x k := by
  unfold hidN
  have e : (i : Int) ∈ hid.take (k + 1) ↔ (i : Int) ∈ hid.take k ∨ n = (i : Int) := by
    rw [List.take_add_one, h, Option.toList_some, List.mem_append, List.mem_singleton]
    constructor
    · rintro (h | h)
      · exact .inl h
      · exact .inr h.symm
    · rintro (h | h)
      · exact .inl h
      · exact .inr h.symm
  by_cases h1 : (i : Int) ∈ hid.take k ∧ x.shown = true
  · rw [if_pos ⟨e.2 (.inl h1.1), h1.2⟩, if_pos h1, if_neg (by simp [hidL])]
  · rw [if_neg h1]
    by_cases h2 : n = (i : Int) ∧ x.shown = true
    · rw [if_pos ⟨e.2 (.inr h2.1), h2.2⟩, if_pos h2]
    · rw [if_neg (fun h3 => by
        rcases e.1 h3.1 with h4 | h4
        · exact h1 ⟨h4, h3.2⟩
        · exact h2 ⟨h4, h3.2⟩), if_neg h2]
theorem hide_step {hid : List Int} {l : List Lf} {i : Nat} {x : Lf} (h : l[i]? = some x) : ((l.take (i + 1)).mapIdx (hideX hid)).flatMap lfC = ((l.take i).mapIdx (hideX hid)).flatMap lfC ++ lfC (hideX hid i x) := by
  have hk := (List.getElem?_eq_some_iff.1 h).1
  rw [List.take_add_one, h, Option.toList_some, List.mapIdx_concat, List.flatMap_append, List.length_take, Nat.min_eq_left (by omega)]
  simp
set_option maxRecDepth 100000 in
set_option maxHeartbeats 4000000 in
theorem hideR_any (v u : Value) (l : List Lf) (hid : List Int) (w : World) (hv : Rws 5 lfC v l w) (hl : l.length ≤ 1000) (hz : ∀ x ∈ l, x.text.size ≤ 9223372036854775807) (hu : Rws 1 inC u hid w) (hr : ∀ x ∈ hid, I64 x) (hhl : hid.length ≤ 1000) :
    Calls Tryz.prog 14 #[v, u] w fun e w' => ∃ z, e = .returned z ∧ Own w.heap.size 5 z (hideD hid l).length ((hideD hid l).flatMap lfC) w' ∧ Gr w w' := by
  obtain ⟨i0, hi, hzz, hsz, hbt⟩ := info_parts infoLf
  have HI := Lib.hid hi
  have HI0 := Lib.hid hzz
  have HI1 := Lib.hid hsz
  have HI2 := Lib.hid hbt
  have HVa := Lib.hid (validR_any v l w hv hl hz)
  cases hb : listB l with
  | false =>
    rw [hb] at HVa
    have HE : Hid (hideD hid l = []) := Lib.hid (by unfold hideD; rw [hb]; rfl)
    rw [HE.out]
    obtain ⟨p, c, rfl⟩ := hv.shape
    obtain ⟨p2, c2, rfl⟩ := hu.shape
    clear hv hu hr hz hb hi hzz hsz hbt
    go_enter Tryz.func14, Tryz.ntmps14
    go_wp2_with fail
    refine HVa.out.mono ?_
    rintro e w1 ⟨rfl, hg⟩
    go_wp2_with fail
    go_ret
    exact ⟨_, rfl, Own.nil _ _ _, hg⟩
  | true =>
    rw [hb] at HVa
    obtain ⟨hl64, hall⟩ := listB_all hb
    have HE : Hid (hideD hid l = l.mapIdx (hideX hid)) := Lib.hid (by unfold hideD; rw [hb]; rfl)
    have HEl : Hid ((hideD hid l).length = l.length) := Lib.hid (hideD_len hb)
    have HLf := Lib.hid hall
    have HVl := Lib.hid (fun (x : Lf) (hx : x ∈ l) y => valueR_any x y (fun hs => by have := leafB_shown (hall x hx) hs; omega) (Nat.le_trans (leafB_tiny (hall x hx)) (by omega)))
    obtain ⟨p, c, rfl⟩ := hv.shape
    obtain ⟨p2, c2, rfl⟩ := hu.shape
    have HV := Lib.hid hv
    have HU := Lib.hid hu
    have HR := Lib.hid hr
    clear hv hu hr hz hb hi hzz hsz hbt hall
    go_enter Tryz.func14, Tryz.ntmps14
    go_wp2_with fail
    refine HVa.out.mono ?_
    rintro e w1 ⟨rfl, hg⟩
    have HG1 := Lib.hid hg
    clear hg HVa
    go_wp2_with fail
    go_loopw [5, 6] (fun v5 v6 W => ∃ (i : Nat) (V : Value), i ≤ l.length ∧ v6 = .int .i64 (i : Int) ∧ V = v5 ∧ Hid (Own w1.heap.size 5 V i (((l.take i).mapIdx (hideX hid)).flatMap lfC) W) ∧ Hid (Gr w1 W) ∧ Hid (∀ g, V.ownBlock = some g → g < W.heap.size)) (fun _ v6 _ => l.length - (intOf v6).toNat)
    case atStart => exact ⟨0, _, Nat.zero_le _, rfl, rfl, Lib.hid (Own.nil _ _ _), Lib.hid (Gr.refl _), Lib.hid (fun g h => by simp [Value.ownBlock] at h)⟩
    case round =>
      obtain ⟨i, v5, hi, rfl, rfl, HO, HG, HBl⟩ := hrel
      by_cases hlt : i < l.length
      · have ht : decide (i < l.length) = true := decide_eq_true hlt
        obtain ⟨x, hx⟩ : ∃ x, l[i]? = some x := ⟨_, List.getElem?_eq_getElem hlt⟩
        have hxm := List.mem_of_getElem? hx
        obtain ⟨g, off, rfl, hlc, hc⟩ := (HV.out.gr (HG1.out.trans HG.out)).at_ hx
        have HCo : Hid (∀ y, Gr wr y → ∀ (j : Nat) u, (lfC x)[j]? = some u → y.cell? ⟨g, off + (i * 5 + j), none⟩ = some u) := Lib.hid (fun y hg j u hj => hg.cell (hc j u hj))
        have HSt := Lib.hid (hide_step (hid := hid) hx)
        have HVx := Lib.hid (HVl.out x hxm)
        have HEn := Lib.hid (hidN_end (hid := hid) (i := i) (HLf.out x hxm) (Nat.le_refl _))
        have HSp := Lib.hid (fun (k : Nat) (n : Int) (h : hid[k]? = some n) => hidN_step (i := i) (x := x) h)
        have HZ0 : Hid (hidN hid i x 0 = x) := Lib.hid (hidN_zero hid i x)
        have hc0 := hc 0 _ rfl
        have hc1 := hc 1 _ rfl
        have hc2 := hc 2 _ rfl
        have hc3 := hc 3 _ rfl
        have hc4 := hc 4 _ rfl
        rw [Nat.add_zero] at hc0
        rw [← Nat.add_assoc] at hc1 hc2 hc3 hc4
        have HMk := Lib.hid (XAt.made wr x)
        obtain ⟨xsh, xt, xm, xsl, xdg⟩ := x
        simp only at hc0 hc1 hc2 hc3 hc4 HMk HVx
        clear hc hx hxm
        go_upto_region 8 with fail
        refine wp_gen (F := fun y => Gr wr y ∧ XAt wr.heap.size ⟨xsh, xt, xm, xsl, xdg⟩ y ∧ wr.heap.size < y.heap.size) ⟨Gr.alloc _ _, HMk.out, by simp⟩ ?_
        rintro wB ⟨hgB, hXB, hzB⟩
        have HXB : Hid (XAt wr.heap.size (hidN hid i ⟨xsh, xt, xm, xsl, xdg⟩ 0) wB) := Lib.hid (by rw [HZ0.out]; exact hXB)
        have HGB := Lib.hid (HG.out.trans hgB)
        have HOB := Lib.hid (HO.out.gr hgB)
        have HCB : Hid (∀ y, Gr wB y → ∀ (j : Nat) u, (lfC ⟨xsh, xt, xm, xsl, xdg⟩)[j]? = some u → y.cell? ⟨g, off + (i * 5 + j), none⟩ = some u) := Lib.hid (fun y hg => HCo.out y (hgB.trans hg))
        have HNe : Hid (∀ b, v5.ownBlock = some b → b ≠ wr.heap.size) := Lib.hid (fun b hb => by have := HBl.out b hb; omega)
        have HGz : Hid (w1.heap.size ≤ wr.heap.size) := Lib.hid HG.out.size
        have HGl : Hid (g < wr.heap.size) := Lib.hid (World.block_lt_of_cell? wr _ hc0)
        generalize wr.heap.size = gx at hXB hzB HXB HNe HGz HGl ⊢
        clear hgB hXB hzB HG HO HBl HCo hc0 hc1 hc2 hc3 hc4 HMk HZ0
        go_wp2_with fail
        go_loopw [8] (fun v8 W => ∃ k : Nat, k ≤ hid.length ∧ v8 = .int .i64 (k : Int) ∧ Hid (Chg (some gx) wB W) ∧ Hid (XAt gx (hidN hid i ⟨xsh, xt, xm, xsl, xdg⟩ k) W)) (fun v8 _ => hid.length - (intOf v8).toNat)
        case atStart => exact ⟨0, Nat.zero_le _, rfl, Lib.hid (Chg.of_gr (Gr.refl _)), HXB⟩
        clear HXB
        case round =>
          obtain ⟨k, hk, rfl, HCh, HX⟩ := hrel
          by_cases hkt : k < hid.length
          · have htk : decide (k < hid.length) = true := decide_eq_true hkt
            obtain ⟨n, hn⟩ : ∃ n, hid[k]? = some n := ⟨_, List.getElem?_eq_getElem hkt⟩
            have HSpk := Lib.hid (HSp.out k n hn)
            have HGw : Hid (Gr w1 wr) := Lib.hid (gr_step HGB.out (Gr.refl _) HCh.out (fun g e => by cases e; exact HGz.out))
            obtain ⟨g2, o2, rfl, hlc2, hcn⟩ := (HU.out.gr (HG1.out.trans HGw.out)).at_ hn
            have hn0 := hcn 0 _ rfl
            rw [Nat.mul_one, Nat.add_zero] at hn0
            obtain ⟨y, hy⟩ : ∃ y, y = hidN hid i ⟨xsh, xt, xm, xsl, xdg⟩ k := ⟨_, rfl⟩
            rw [← hy] at HX HSpk
            obtain ⟨ysh, yt, ym, ysl, ydg⟩ := y
            obtain ⟨y0, -, -, -, -⟩ := HX.out.row
            simp only at HSpk
            clear hcn hn hy
            by_cases hni : n = (i : Int)
            · have tn : (n == (i : Int)) = true := beq_iff_eq.2 hni
              cases ysh with
              | false =>
                have HXn : Hid (XAt gx (hidN hid i ⟨xsh, xt, xm, xsl, xdg⟩ (k + 1)) wr) := Lib.hid (by rw [HSpk.out, if_neg (by simp)]; exact HX.out)
                clear HX HSpk hni
                go_wp2_with fail
                go_roundw
                case rel => exact ⟨k + 1, by omega, by go_num, HCh, HXn⟩
                case measure => simp [intOf]; omega
              | true =>
                have HSp2 : Hid (hidN hid i ⟨xsh, xt, xm, xsl, xdg⟩ (k + 1) = hidL ⟨xsh, xt, xm, xsl, xdg⟩) := Lib.hid (by rw [HSpk.out, if_pos ⟨hni, rfl⟩])
                have HHd : Hid (lfC (hidL ⟨xsh, xt, xm, xsl, xdg⟩) = [.bool false, .string ⟨#[]⟩, .int .i64 0, .string ⟨#[]⟩, .string (valueD ⟨xsh, xt, xm, xsl, xdg⟩)]) := Lib.hid rfl
                have HOb : Hid (∀ (j : Nat) u, (lfC ⟨xsh, xt, xm, xsl, xdg⟩)[j]? = some u → wr.cell? ⟨g, off + (i * 5 + j), none⟩ = some u) := Lib.hid (fun j u hj => HCh.out.cell (HCB.out wB (Gr.refl _) j u hj) (by have := HGl.out; simp; omega))
                have hc0 := HOb.out 0 _ rfl
                have hc1 := HOb.out 1 _ rfl
                have hc2 := HOb.out 2 _ rfl
                have hc3 := HOb.out 3 _ rfl
                have hc4 := HOb.out 4 _ rfl
                rw [Nat.add_zero] at hc0
                rw [← Nat.add_assoc] at hc1 hc2 hc3 hc4
                simp only at hc0 hc1 hc2 hc3 hc4
                generalize valueD ⟨xsh, xt, xm, xsl, xdg⟩ = VX at HVx HHd
                clear HSpk hni HOb
                go_wp2_with fail
                refine (HVx.out wr).mono ?_
                rintro e w3 ⟨rfl, hg3⟩
                have HX3 := Lib.hid (HX.out.gr hg3)
                have HTh : Hid (w3.there gx 0 5) := Lib.hid HX3.out.2
                have HCh3 : Hid (Chg (some gx) wB (w3.setCells gx 0 [.bool false, .string ⟨#[]⟩, .int .i64 0, .string ⟨#[]⟩, .string VX])) := Lib.hid ((HCh.out.trans (Chg.of_gr hg3)).trans (setCells_chg gx _ 0 w3))
                have HXn : Hid (XAt gx (hidN hid i ⟨xsh, xt, xm, xsl, xdg⟩ (k + 1)) (w3.setCells gx 0 [.bool false, .string ⟨#[]⟩, .int .i64 0, .string ⟨#[]⟩, .string VX])) := Lib.hid (by rw [HSp2.out, ← HHd.out]; exact HX3.out.store)
                clear hg3 HX HX3 HCh y0 hc0 hc1 hc2 hc3 hc4 hn0 HSp2 HHd
                go_wp2_with ((with_reducible show wpList _ _ _ (⟨none, .store 35 _ _, _, _, _, _⟩ :: _) _ _); refine wpList_store_mid rfl 35 (.tmp 7) (.tmp 43) rfl gx 0 #[.bool false, .string ⟨#[]⟩, .int .i64 0, .string ⟨#[]⟩, .string VX] rfl rfl HTh.out (infoLf_size Tryz.prog rfl) (by simp [Value.oneCell']) ?_)
                go_roundw
                case rel => exact ⟨k + 1, by omega, by go_num, HCh3, HXn⟩
                case measure => simp [intOf]; omega
            · have tn : (n == (i : Int)) = false := beq_eq_false_iff_ne.2 hni
              have HXn : Hid (XAt gx (hidN hid i ⟨xsh, xt, xm, xsl, xdg⟩ (k + 1)) wr) := Lib.hid (by rw [HSpk.out, if_neg (fun h => hni h.1)]; exact HX.out)
              clear HX HSpk hni
              go_wp2_with fail
              go_roundw
              case rel => exact ⟨k + 1, by omega, by go_num, HCh, HXn⟩
              case measure => simp [intOf]; omega
          · have htk : decide (k < hid.length) = false := decide_eq_false hkt
            have HXf : Hid (XAt gx (hideX hid i ⟨xsh, xt, xm, xsl, xdg⟩) wr) := Lib.hid (by
              have h := HX.out
              rw [show k = hid.length by omega, HEn.out] at h
              exact h)
            have HGw : Hid (Gr w1 wr) := Lib.hid (gr_step HGB.out (Gr.refl _) HCh.out (fun g e => by cases e; exact HGz.out))
            have HOw : Hid (Own w1.heap.size 5 v5 i (((l.take i).mapIdx (hideX hid)).flatMap lfC) wr) := Lib.hid (HOB.out.keep HCh.out (by
              cases hv5 : v5.ownBlock with
              | none => exact .inl rfl
              | some b => exact .inr (fun e => HNe.out b hv5 (by injection e))))
            generalize hideX hid i ⟨xsh, xt, xm, xsl, xdg⟩ = z at HXf HSt
            obtain ⟨zsh, zt, zm, zsl, zdg⟩ := z
            obtain ⟨z0, z1, z2, z3, z4⟩ := HXf.out.row
            have HSt2 : Hid (((l.take (i + 1)).mapIdx (hideX hid)).flatMap lfC = ((l.take i).mapIdx (hideX hid)).flatMap lfC ++ [.bool zsh, .string zt, .int .i64 zm, .string zsl, .string zdg]) := HSt
            clear HX HCh HXf HSt HOB hkt HGz
            go_wp2_with ((with_reducible show wpList _ _ _ (⟨some 47, _, _, _, _, _⟩ :: _) _ _); refine wpList_append_Own rfl (.tmp 44) (.tmp 46) 31 rfl 35 i0 (.agg #[.bool false, .string ⟨#[]⟩, .int .i64 0, .string ⟨#[]⟩, .string ⟨#[]⟩]) 5 64 Tryz.underlying31 HI.out HI0.out HI1.out HI2.out rfl (by decide) rfl (HOw.out.gr (Gr.alloc wr _)) ⟨wr.heap.size, 0, none⟩ 1 1 [.bool zsh, .string zt, .int .i64 zm, .string zsl, .string zdg] rfl rfl (cells_new_at wr [.bool zsh, .string zt, .int .i64 zm, .string zsl, .string zdg] 35) ?h1 (by decide) ?b1 ?b2 ?hB ?_)
            case h1 => exact lfC_one ⟨zsh, zt, zm, zsl, zdg⟩
            case b1 => unfold maxLen; omega
            case b2 => omega
            case hB => have := HGw.out.size; simp; omega
            intro v47 w47 hown hchg _
            have HGn : Hid (Gr w1 w47) := Lib.hid (gr_step HGw.out (Gr.alloc _ _) hchg (fun g hg => HOw.out.ge hg))
            have HOn : Hid (Own w1.heap.size 5 v47 (i + 1) (((l.take (i + 1)).mapIdx (hideX hid)).flatMap lfC) w47) := Lib.hid (by rw [HSt2.out]; exact hown)
            have HBn : Hid (∀ g, v47.ownBlock = some g → g < w47.heap.size) := Lib.hid (fun g hg => hown.lt (by omega) hg)
            clear hown hchg HOw HGw HSt2 z0 z1 z2 z3 z4
            go_wp2_with fail
            go_roundw
            case rel => exact ⟨i + 1, _, by omega, by go_num, rfl, HOn, HGn, HBn⟩
            case measure => simp [intOf]; omega
      · have ht : decide (i < l.length) = false := decide_eq_false hlt
        have HFin : Hid (Own w.heap.size 5 v5 (hideD hid l).length ((hideD hid l).flatMap lfC) wr ∧ Gr w wr) := Lib.hid (by
          have h := HO.out
          have e : i = l.length := by omega
          rw [e, List.take_of_length_le (Nat.le_refl _)] at h
          rw [HEl.out, HE.out]
          exact ⟨h.mono HG1.out.size, HG1.out.trans HG.out⟩)
        clear HO HG
        go_wp2_with fail
        go_ret
        exact ⟨_, rfl, HFin.out⟩
theorem lines_step {l : List Lf} {i : Nat} {x : Lf} (h : l[i]? = some x) : leftD l (i + 1) = leftD l i ++ (if x.shown then [((x.text, x.mark) : Ln)] else []) := left_step h
set_option maxRecDepth 100000 in
set_option maxHeartbeats 2000000 in
theorem linesR_any (v : Value) (l : List Lf) (w : World) (hv : Rws 5 lfC v l w) (hl : l.length ≤ 1000) (hz : ∀ x ∈ l, x.text.size ≤ 9223372036854775807) :
    Calls Tryz.prog 22 #[v] w fun e w' => ∃ z, e = .returned z ∧ Own w.heap.size 2 z (linesD l).length ((linesD l).flatMap lnC) w' ∧ Gr w w' := by
  obtain ⟨i0, hi, hzz, hsz, hbt⟩ := info_parts infoLn
  have HI := Lib.hid hi
  have HI0 := Lib.hid hzz
  have HI1 := Lib.hid hsz
  have HI2 := Lib.hid hbt
  have HVa := Lib.hid (validR_any v l w hv hl hz)
  cases hb : listB l with
  | false =>
    rw [hb] at HVa
    have HE : Hid (linesD l = []) := Lib.hid (by unfold linesD; rw [hb]; rfl)
    rw [HE.out]
    obtain ⟨p, c, rfl⟩ := hv.shape
    clear hv hz hb hi hzz hsz hbt
    go_enter Tryz.func22, Tryz.ntmps22
    go_wp2_with fail
    refine HVa.out.mono ?_
    rintro e w1 ⟨rfl, hg⟩
    go_wp2_with fail
    go_ret
    exact ⟨_, rfl, Own.nil _ _ _, hg⟩
  | true =>
    rw [hb] at HVa
    have HE := Lib.hid (left_end hb)
    obtain ⟨p, c, rfl⟩ := hv.shape
    have HV := Lib.hid hv
    clear hv hz hb hi hzz hsz hbt
    go_enter Tryz.func22, Tryz.ntmps22
    go_wp2_with fail
    refine HVa.out.mono ?_
    rintro e w1 ⟨rfl, hg⟩
    have HG1 := Lib.hid hg
    clear hg HVa
    go_wp2_with fail
    go_loopw [3, 4] (fun v3 v4 W => ∃ (i : Nat) (V : Value), i ≤ l.length ∧ v4 = .int .i64 (i : Int) ∧ V = v3 ∧ Hid (Own w1.heap.size 2 V (leftD l i).length ((leftD l i).flatMap lnC) W) ∧ Hid (Gr w1 W)) (fun _ v4 _ => l.length - (intOf v4).toNat)
    case atStart => exact ⟨0, _, Nat.zero_le _, rfl, rfl, Lib.hid (Own.nil _ _ _), Lib.hid (Gr.refl _)⟩
    case round =>
      obtain ⟨i, v3, hi, rfl, rfl, HO, HG⟩ := hrel
      by_cases hlt : i < l.length
      · have ht : decide (i < l.length) = true := decide_eq_true hlt
        obtain ⟨x, hx⟩ : ∃ x, l[i]? = some x := ⟨_, List.getElem?_eq_getElem hlt⟩
        obtain ⟨g, off, rfl, hlc, hc⟩ := (HV.out.gr (HG1.out.trans HG.out)).at_ hx
        have HSt := Lib.hid (left_step hx)
        have hll : (leftD l i).length ≤ l.length := by
          unfold leftD
          rw [List.length_map]
          have := List.length_filter_le Lf.shown (l.take i)
          rw [List.length_take] at this; omega
        have hc0 := hc 0 _ rfl
        have hc1 := hc 1 _ rfl
        have hc2 := hc 2 _ rfl
        rw [Nat.add_zero] at hc0
        rw [← Nat.add_assoc] at hc1 hc2
        obtain ⟨sh, t, m, sl, dg⟩ := x
        simp only at hc0 hc1 hc2 HSt
        clear hc hx
        cases sh with
        | false =>
          have HOn : Hid (Own w1.heap.size 2 v3 (leftD l (i + 1)).length ((leftD l (i + 1)).flatMap lnC) wr) := Lib.hid (by
            rw [HSt.out]; simpa using HO.out)
          clear HO HSt
          go_wp2_with fail
          go_roundw
          case rel => exact ⟨i + 1, _, by omega, by go_num, rfl, HOn, HG⟩
          case measure => simp [intOf]; omega
        | true =>
          have HSt2 : Hid (leftD l (i + 1) = leftD l i ++ [((t, m) : Ln)]) := Lib.hid (by rw [HSt.out]; rfl)
          clear HSt
          generalize leftD l i = LI at HO HSt2 hll
          go_wp2_with ((with_reducible show wpList _ _ _ (⟨some 26, _, _, _, _, _⟩ :: _) _ _); refine wpList_append_Own rfl (.tmp 19) (.tmp 25) 22 rfl 33 i0 (.agg #[.string ⟨#[]⟩, .int .i64 0]) 2 24 Tryz.underlying22 HI.out HI0.out HI1.out HI2.out rfl (by decide) rfl (HO.out.gr (Gr.alloc wr _)) ⟨wr.heap.size, 0, none⟩ 1 1 [.string t, .int .i64 m] rfl rfl (cells_new_at wr [.string t, .int .i64 m] 33) (one2 t m) (by decide) ?b1 ?b2 ?hB ?_)
          case b1 => unfold maxLen; omega
          case b2 => omega
          case hB => have := HG.out.size; simp; omega
          intro v26 w26 hown hchg _
          have HGn : Hid (Gr w1 w26) := Lib.hid (gr_step HG.out (Gr.alloc _ _) hchg (fun g hg => HO.out.ge hg))
          have HOn : Hid (Own w1.heap.size 2 v26 (leftD l (i + 1)).length ((leftD l (i + 1)).flatMap lnC) w26) := Lib.hid (by
            rw [HSt2.out, List.length_append, List.flatMap_append]
            have h := hown
            first | exact h | simpa using h)
          clear hown hchg HO HG HSt2 hc0 hc1 hc2
          go_wp2_with fail
          go_roundw
          case rel => exact ⟨i + 1, _, by omega, by go_num, rfl, HOn, HGn⟩
          case measure => simp [intOf]; omega
      · have ht : decide (i < l.length) = false := decide_eq_false hlt
        have HFin : Hid (Own w.heap.size 2 v3 (linesD l).length ((linesD l).flatMap lnC) wr ∧ Gr w wr) := Lib.hid (by
          have h := HO.out
          rw [show i = l.length by omega, HE.out] at h
          exact ⟨h.mono HG1.out.size, HG1.out.trans HG.out⟩)
        clear HO HG
        go_wp2_with fail
        go_ret
        exact ⟨_, rfl, HFin.out⟩
end
end Go.Proofs.YtakhomofckcckaaGreatDoor
