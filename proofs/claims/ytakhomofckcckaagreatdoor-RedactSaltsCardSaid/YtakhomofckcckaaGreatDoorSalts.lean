/- The walk of the statement RedactSalts: it answers true. -/
import Derived.Test.YtakhomofckcckaaGreatDoorHaC
namespace Go.Proofs.YtakhomofckcckaaGreatDoor
open Go Go.RowKit Go.Shelf
attribute [local go_sem] gAt gUpon
attribute [local simp] Gr.refl Gr.alloc

theorem list16 {α : Type} {l : List α} (h : l.length = 16) : ∃ a0 a1 a2 a3 a4 a5 a6 a7 a8 a9 a10 a11 a12 a13 a14 a15, l = [a0, a1, a2, a3, a4, a5, a6, a7, a8, a9, a10, a11, a12, a13, a14, a15] := by
  match l, h with
  | [a0, a1, a2, a3, a4, a5, a6, a7, a8, a9, a10, a11, a12, a13, a14, a15], _ => exact ⟨_, _, _, _, _, _, _, _, _, _, _, _, _, _, _, _, rfl⟩
theorem bys_row {W : World} {g : Nat} {b : ByteArray} {t : TypeId} (h : W.heap[g]? = some (.cells (bysC b).toArray t (0, 0))) : Go.Lib.Bytes W g 0 b := by
  intro i hi
  have hi' : i < b.data.toList.length := by rw [Array.length_toList]; exact hi
  rw [cell_of_row _ _ _ _ _ _ h, Nat.zero_add]
  unfold bysC
  rw [List.getElem?_toArray, List.getElem?_map, List.getElem?_eq_getElem hi']
  rfl
/-- the array that the law is given -/
def arr16 (b : ByteArray) : Value := .agg (bysC b).toArray
set_option maxRecDepth 100000 in
set_option maxHeartbeats 8000000 in
theorem salts_any (v1 v2 : Value) (r0 r1 : Int) (s : ByteArray) (line : Int) (b : ByteArray) (w : World) (hx : CaseIn v1 v2 r0 r1 w) (hs : s.size ≤ 9223372036854775807) (hli : I64 line) (hb : b.size = 16) (hT : Tab w) :
    Calls Tryz.prog 5 #[.agg #[v1, v2, .int .i64 r0, .int .i64 r1, .string s], .int .i64 line, arr16 b] w fun e w' => e = .returned (.bool true) ∧ Gr w w' := by
  obtain ⟨i5, hi5, hz5, hsz5, hb5⟩ := info_parts infoLf
  have HX := Lib.hid hx
  have HT := Lib.hid hT
  obtain ⟨⟨L1, L2, h1, h2, -⟩, -⟩ := hx
  obtain ⟨p1, c1, rfl⟩ := h1.shape
  obtain ⟨p2, c2, rfl⟩ := h2.shape
  clear hT h1 h2
  obtain ⟨a0, a1, a2, a3, a4, a5, a6, a7, a8, a9, a10, a11, a12, a13, a14, a15, hbl⟩ := list16 (show b.data.toList.length = 16 by rw [Array.length_toList]; exact hb)
  have hbv : (bysC b).toArray = #[.int .u8 (a0.toNat : Int), .int .u8 (a1.toNat : Int), .int .u8 (a2.toNat : Int), .int .u8 (a3.toNat : Int), .int .u8 (a4.toNat : Int), .int .u8 (a5.toNat : Int), .int .u8 (a6.toNat : Int), .int .u8 (a7.toNat : Int), .int .u8 (a8.toNat : Int), .int .u8 (a9.toNat : Int), .int .u8 (a10.toNat : Int), .int .u8 (a11.toNat : Int), .int .u8 (a12.toNat : Int), .int .u8 (a13.toNat : Int), .int .u8 (a14.toNat : Int), .int .u8 (a15.toNat : Int)] := by
    unfold bysC; rw [hbl]; rfl
  have HBv := Lib.hid hbv
  have HBz := Lib.hid hb
  unfold arr16
  rw [hbv]
  clear hbv hbl hb
  go_enter Tryz.func5, Tryz.ntmps5
  go_upto_region 1 with fail
  rw [← HBv.out]
  refine wp_gen (F := fun y => Gr w y ∧ y.heap[w.heap.size]? = some (.cells #[.slice p1 L1.length c1, .slice p2 L2.length c2, .int .i64 r0, .int .i64 r1, .string s] 30 (0, 0)) ∧ y.heap[w.heap.size + 1]? = some (.cells (bysC b).toArray 61 (0, 0))) ⟨(Gr.alloc _ _).trans (Gr.alloc _ _), (Gr.alloc _ _).block (heap_alloc_new _ _), by
    have h := heap_alloc_new (w.alloc (.cells #[.slice p1 L1.length c1, .slice p2 L2.length c2, .int .i64 r0, .int .i64 r1, .string s] 30)) (.cells (bysC b).toArray 61)
    simpa using h⟩ ?_
  clear HBv
  rintro w0 ⟨hg0, hrC, hrB⟩
  have HG0 := Lib.hid hg0
  have HRC := Lib.hid hrC
  have HRB := Lib.hid hrB
  generalize w.heap.size = gc at HRC HRB hrC hrB ⊢
  clear hg0 hrC hrB
  go_wp2_with fail
  refine (sane_any _ (HT.out.gr HG0.out)).mono ?_
  rintro e w1 ⟨rfl, hg1⟩
  obtain ⟨k0, k1, k2, k3, k4⟩ := row5 (hg1.block HRC.out)
  have HRB1 := Lib.hid (hg1.block HRB.out)
  have HG1 := Lib.hid (HG0.out.trans hg1)
  clear hg1 HRC HRB HG0
  go_wp2_with fail
  refine (made_any _ _ r0 r1 s _ (HX.out.gr HG1.out) hs).mono ?_
  rintro e w2 ⟨vL, vC, ls, cs, wd, bits, sc, rfl, hd, hsc, hg2⟩
  have HG2 := Lib.hid (HG1.out.trans hg2)
  have HRB2 := Lib.hid (hg2.block HRB1.out)
  have HD2 := Lib.hid hd
  obtain ⟨pl, cl, rfl⟩ := hd.1.1.shape
  obtain ⟨pc, cc, rfl⟩ := hd.1.2.shape
  have hls6 := hd.2.2
  clear hg2 hd k0 k1 k2 k3 k4 HRB1 HG1
  go_upto_region 3 with fail
  refine wp_gen (F := fun y => Gr w2 y ∧ y.heap[w2.heap.size]? = some (.cells #[.slice pl ls.length cl, .slice pc cs.length cc, .int .i64 wd, .string bits] 25 (0, 0))) ⟨Gr.alloc _ _, heap_alloc_new _ _⟩ ?_
  rintro w3 ⟨hg3, hr3⟩
  have HG3 := Lib.hid (HG2.out.trans hg3)
  have HD3 := Lib.hid (HD2.out.gr hg3)
  have HRB3 := Lib.hid (hg3.block HRB2.out)
  have HR3 := Lib.hid hr3
  generalize w2.heap.size = gd at hr3 HR3 ⊢
  obtain ⟨k0, k1, k2, k3⟩ := row4 hr3
  clear hr3 hg3 HD2 HRB2 HG2
  go_wp2_with fail
  refine (leaves_ok _ _ ls cs wd bits sc w3 HD3.out.1 HD3.out.2.1 (by omega) (HT.out.gr HG3.out)).mono ?_
  rintro e w5 ⟨u5, rfl, ho5, hg5⟩
  have HG5 := Lib.hid (HG3.out.trans hg5)
  have HRB5 := Lib.hid (hg5.block HRB3.out)
  obtain ⟨p5, c5, rfl⟩ := ho5.slice
  have hvl := validB_lines HD3.out.2.1
  have hll := leaves_list (secret := sc) hvl.1 hvl.2
  have HO5 : Hid (Rws 5 lfC (.slice p5 ls.length c5) (leavesD sc ls) w5) := Lib.hid (by
    have h := own_rws (l := leavesD sc ls) lfC_len (v := .slice p5 ls.length c5) (by rw [leavesD_len]; exact ho5)
    exact h)
  have HLN : Hid ((leavesD sc ls).length = ls.length) := Lib.hid (leavesD_len sc ls)
  have HLL := Lib.hid hll
  have HGet := Lib.hid (leaves_get sc ls)
  have k0 := hg5.cell k0
  have hne : ((ls.length : Int) != (ls.length : Int)) = false := by simp
  have hsc2 : sc.size ≤ 140737488354000 := by omega
  have HSa := Lib.hid (fun (i : Nat) y (hg : Gr w5 y) => salt_any sc (i : Int) y hsc2 (HT.out.gr (HG5.out.trans hg)))
  clear hg5 ho5 hvl hll k1 k2 k3 HRB3 HG3 HD3
  generalize leavesD sc ls = l at HO5 HLN HLL HGet
  go_wp2_with fail
  go_loopw [12] (fun v12 W => ∃ i : Nat, i ≤ ls.length ∧ v12 = .int .i64 (i : Int) ∧ Hid (Gr w5 W)) (fun v12 _ => ls.length - (intOf v12).toNat)
  case atStart => exact ⟨0, Nat.zero_le _, rfl, Lib.hid (Gr.refl _)⟩
  case round =>
    obtain ⟨i, hi, rfl, HG⟩ := hrel
    clear k0
    by_cases hlt : i < ls.length
    · have ht : decide (i < ls.length) = true := decide_eq_true hlt
      obtain ⟨x, hx⟩ : ∃ x, ls[i]? = some x := ⟨_, List.getElem?_eq_getElem hlt⟩
      have hxl : l[i]? = some (mkLf sc i x) := by rw [HGet.out, hx]; rfl
      obtain ⟨g8, o8, rfl, hl8, hc8⟩ := (HO5.out.gr HG.out).at_n HLN.out hxl
      have HSi := Lib.hid (HSa.out i)
      have y0 := hc8 0 _ rfl
      have y3 := hc8 3 _ rfl
      have y4 := hc8 4 _ rfl
      rw [Nat.add_zero] at y0
      rw [← Nat.add_assoc] at y3 y4
      simp only [mkLf] at y0 y3 y4
      generalize saltD sc (i : Int) = SK at HSi y3
      have hbq : (SK.toList == SK.toList) = true := by simp
      have s0 : ∀ n : GrS wr.drew, n.w.cell? ⟨g8, o8 + i * 5, none⟩ = some (.bool true) := fun n => n.h.cell (w := wr.drew) y0
      have s3 : ∀ n : GrS wr.drew, n.w.cell? ⟨g8, o8 + i * 5 + 3, none⟩ = some (.string SK) := fun n => n.h.cell (w := wr.drew) y3
      have s4 : ∀ n : GrS wr.drew, n.w.cell? ⟨g8, o8 + i * 5 + 4, none⟩ = some (.string ⟨#[]⟩) := fun n => n.h.cell (w := wr.drew) y4
      clear hc8 hxl hx y0 y3 y4
      go_upto_region 9 with fail
      refine region_grow 25 112 (by kernel_rfl) rfl (by kernel_rfl) rfl rfl ?_
      simp only [List.take_succ_cons, List.take_zero, List.drop_succ_cons, List.drop_zero]
      refine seg 7 rfl rfl rfl rfl ?_
      simp only [List.take_succ_cons, List.take_zero, List.drop_succ_cons, List.drop_zero]
      repeat (go_big_quiet_step (fail))
      refine wpQuiet_nil ?_
      intro _
      refine grow_det (v := .string SK) rfl rfl rfl rfl rfl ?_ ?_
      · intro w1 hG
        go_simp
        refine (HSi.out w1 (HG.out.trans (Gr.trans (Gr.drew wr) hG))).mono ?_
        rintro e w' ⟨rfl, hb⟩
        exact ⟨rfl, hb⟩
      simp only [Act.put, List.setIfInBounds_toArray, List.set_cons_zero, List.set_cons_succ]
      refine seg 8 rfl rfl rfl rfl ?_
      simp only [List.take_succ_cons, List.take_zero, List.drop_succ_cons, List.drop_zero]
      repeat (go_big_quiet_step (fail))
      refine wpQuiet_nil ?_
      intro _
      refine grow_det (v := .bool false) rfl rfl rfl rfl rfl ?_ ?_
      · intro w1 hG
        go_simp
      simp only [Act.put, List.setIfInBounds_toArray, List.set_cons_zero, List.set_cons_succ]
      refine seg 7 rfl rfl rfl rfl ?_
      simp only [List.take_succ_cons, List.take_zero, List.drop_succ_cons, List.drop_zero]
      repeat (go_big_quiet_step (fail))
      refine wpQuiet_nil ?_
      intro _
      refine grow_det (v := .bool false) rfl rfl rfl rfl rfl ?_ ?_
      · intro w1 hG
        go_simp
      simp only [Act.put, List.setIfInBounds_toArray, List.set_cons_zero, List.set_cons_succ]
      refine grow_end0 rfl rfl ?_
      intro w8 hG
      have HG8 : Hid (Gr w5 w8) := Lib.hid (HG.out.trans (Gr.trans (Gr.drew wr) hG))
      clear hG s0 s3 s4 hbq HG HSi
      go_wp2_with fail
      go_roundw
      case rel => exact ⟨i + 1, by omega, by go_num, HG8⟩
      case measure => simp [intOf]; omega
    · have ht : decide (i < ls.length) = false := decide_eq_false hlt
      have HG6 := Lib.hid (HG5.out.trans HG.out)
      have HO6 := Lib.hid (HO5.out.gr HG.out)
      have HRB6 := Lib.hid (HG.out.block HRB5.out)
      clear HO5 HRB5 HG HSa hlt hi HG5
      by_cases h0 : ls.length = 0
      · have t0 : ((ls.length : Int) == 0) = true := by rw [beq_iff_eq]; omega
        clear h0
        go_wp2_with fail
        go_ret
        exact ⟨rfl, HG6.out⟩
      · have t0 : ((ls.length : Int) == 0) = false := by rw [beq_eq_false_iff_ne]; omega
        have hM0 : 0 < ls.length := by omega
        have hkM := pickD_lt line ls.length hM0
        have HPk : Hid (∀ y, Calls Tryz.prog 13 #[.int .i64 line, .int .i64 (ls.length : Int)] y fun e y' => e = .returned (.int .i64 (pickD line ls.length : Int)) ∧ y = y') := Lib.hid (fun y => pick_any line ls.length y hli hM0 (by omega))
        have HLi := Lib.hid hli
        generalize pickD line ls.length = k at HPk hkM
        clear h0 hli
        obtain ⟨x, hx⟩ : ∃ x, ls[k]? = some x := ⟨_, List.getElem?_eq_getElem hkM⟩
        have hxl : l[k]? = some (mkLf sc k x) := by rw [HGet.out, hx]; rfl
        obtain ⟨xt, xm⟩ := x
        unfold mkLf at hxl
        simp only at hxl
        generalize saltD sc (k : Int) = SK at hxl
        have HXk := Lib.hid hxl
        clear hx hxl HGet
        have HOE := Lib.hid (own_empty wr 35 wr.heap.size 5 (Nat.le_refl _))
        go_wp2_with fail
        refine (HPk.out _).mono ?_
        rintro e y ⟨rfl, rfl⟩
        clear HPk
        go_wp2_with ((with_reducible show wpList _ _ _ (⟨some 78, _, _, _, _, _⟩ :: _) _ _); refine wpList_append_Rws (enc := lfC) rfl (.tmp 76) (.tmp 77) 31 rfl 35 i5 (.agg #[.bool false, .string ⟨#[]⟩, .int .i64 0, .string ⟨#[]⟩, .string ⟨#[]⟩]) 5 64 Tryz.underlying31 hi5 hz5 hsz5 hb5 rfl (by decide) rfl HOE.out lfC_len lfC_one l _ rfl (HO6.out.gr (Gr.alloc _ _)) ?b1C ?b2C ?hBC ?_)
        case b1C => have := HLN.out; unfold maxLen; omega
        case b2C => have := HLN.out; omega
        case hBC => simp
        intro v78 w78 hown78 hchg78
        have hg78 : Gr wr w78 := gr_step (Gr.refl wr) (Gr.alloc _ _) hchg78 (fun g hg => HOE.out.ge hg)
        have hob : Own wr.heap.size 5 v78 ls.length (l.flatMap lfC) w78 := by
          have h := hown78
          rw [HLN.out] at h
          simpa using h
        obtain ⟨gb, ob, cb, rfl, hgb, hlb, hmb⟩ := hob.shape hM0
        have HOb := Lib.hid hob
        have HG78 := Lib.hid (HG6.out.trans hg78)
        have HO78 := Lib.hid (HO6.out.gr hg78)
        have HRB78 := Lib.hid (hg78.block HRB6.out)
        have HZ6 : Hid (w.heap.size ≤ wr.heap.size) := Lib.hid HG6.out.size
        have HGr6 := Lib.hid hg78
        obtain ⟨b0, b1, b2, b3, b4⟩ := own_cells hob k _ HXk.out
        obtain ⟨f0, f1, f2, f3, f4⟩ := own_free hob k hkM
        rw [← Nat.add_assoc] at b3
        simp only at b3
        have hconv := Go.Lib.run_convert_whole (P := Tryz.prog) w78 62 5 9 Tryz.underlying62 Tryz.underlying5 Tryz.underlying9 (gc + 1) 0 b (bys_row HRB78.out) 16
        rw [HBz.out] at hconv
        clear hown78 hchg78 hg78 hob HOE b0 b1 b2 b4 f0 f1 f2 f4
        go_upto_region 16 with fail
        have HOc : Hid (Own wr.heap.size 5 (.slice (some ⟨gb, ob, none⟩) ls.length cb) ls.length ((l.set k ⟨true, xt, xm, b, ⟨#[]⟩⟩).flatMap lfC) (w78.setCell ⟨gb, ob + k * 5 + 3, none⟩ (.string b))) := Lib.hid (own_put HOb.out HLN.out HXk.out (by decide) rfl)
        have hch : Chg (some gb) w78 (w78.setCell ⟨gb, ob + k * 5 + 3, none⟩ (.string b)) := setCells_chg gb [.string b] (ob + k * 5 + 3) w78
        have HGc : Hid (Gr w (w78.setCell ⟨gb, ob + k * 5 + 3, none⟩ (.string b))) := Lib.hid (gr_step HG78.out (Gr.refl _) hch (fun g e => by cases e; have := HZ6.out; omega))
        have HLc : Hid (Rws 5 lfC (.slice p5 ls.length c5) l (w78.setCell ⟨gb, ob + k * 5 + 3, none⟩ (.string b))) := Lib.hid (HO6.out.chg_new (s := 5) (enc := lfC) lfC_len (by decide) HGr6.out hch hgb)
        clear hch b3 f3 hconv HOb HG78 HO78 HRB78 HGr6 HZ6 HO6 HG6 HRB6
        generalize w78.setCell ⟨gb, ob + k * 5 + 3, none⟩ (.string b) = wc at HOc HGc HLc ⊢
        have HNx : Hid ((l.set k ⟨true, xt, xm, b, ⟨#[]⟩⟩).length = ls.length) := Lib.hid (by rw [List.length_set, HLN.out])
        have HPc : Hid (Rws 5 lfC (.slice (some ⟨gb, ob, none⟩) ls.length cb) (l.set k ⟨true, xt, xm, b, ⟨#[]⟩⟩) wc) := Lib.hid (by
          have h := own_rws (l := l.set k ⟨true, xt, xm, b, ⟨#[]⟩⟩) lfC_len (v := .slice (some ⟨gb, ob, none⟩) ls.length cb) (by rw [HNx.out]; exact HOc.out)
          exact h)
        have hck : (l.set k ⟨true, xt, xm, b, ⟨#[]⟩⟩)[k]? = some ⟨true, xt, xm, b, ⟨#[]⟩⟩ := List.getElem?_set_self (by rw [HLN.out]; exact hkM)
        obtain ⟨_, _, hqe, _, hcc⟩ := HPc.out.at_n HNx.out hck
        injection hqe with hqe
        injection hqe with e1 e2
        subst e1 e2
        obtain ⟨gl, ol, rfl, hcl, hcL⟩ := HLc.out.at_n HLN.out HXk.out
        have y3 := hcc 3 _ rfl
        have z3 := hcL 3 _ rfl
        rw [← Nat.add_assoc] at y3 z3
        simp only at y3 z3
        have HHit := Lib.hid (fun (h1 : listB (l.set k ⟨true, xt, xm, b, ⟨#[]⟩⟩) = true) (h2 : rtD l = rtD (l.set k ⟨true, xt, xm, b, ⟨#[]⟩⟩)) (h3 : b ≠ SK) => salts_hit (s := b) HLL.out HXk.out rfl h1 h2 h3)
        simp only at HHit
        clear hcc hcL hck
        generalize l.set k ⟨true, xt, xm, b, ⟨#[]⟩⟩ = lx at HNx HPc HHit
        by_cases hbs : b = SK
        · have tb : (b.toList == SK.toList) = true := by rw [hbs]; simp
          clear hbs
          go_quiet (fail)
          rename_i nq
          have hg5 : Gr wc (wc.drewN nq) := ⟨rfl, rfl, rfl, Nat.le_refl _, fun _ _ => rfl⟩
          generalize wc.drewN nq = wz at hg5 ⊢
          have HGz := Lib.hid (HGc.out.trans hg5)
          clear hg5 y3 z3
          go_wp2_with fail
          go_ret
          exact ⟨rfl, HGz.out⟩
        · have tb : (b.toList == SK.toList) = false := by rw [beq_str]; exact decide_eq_false hbs
          have HNe := Lib.hid hbs
          have s1 : ∀ n : GrS wc.drew, n.w.cell? ⟨gb, ob + k * 5 + 3, none⟩ = some (.string b) := fun n => n.h.cell (w := wc.drew) y3
          have s2 : ∀ n : GrS wc.drew, n.w.cell? ⟨gl, ol + k * 5 + 3, none⟩ = some (.string SK) := fun n => n.h.cell (w := wc.drew) z3
          have HRo := Lib.hid (fun y (hg : Gr wc y) => rRoot_any (.slice (some ⟨gl, ol, none⟩) ls.length c5) l y (HLc.out.gr hg) (by rw [HLN.out]; omega) (HT.out.gr (HGc.out.trans hg)))
          have HCk := Lib.hid (fun y (hg : Gr wc y) => check_any (rtD l) (.slice (some ⟨gb, ob, none⟩) ls.length cb) lx y (HPc.out.gr hg) (by rw [HNx.out]; omega) (HT.out.gr (HGc.out.trans hg)))
          clear hbs y3 z3
          obtain ⟨R, hR⟩ : ∃ R, R = rtD l := ⟨_, rfl⟩
          rw [← hR] at HHit HRo HCk
          obtain ⟨B, hB⟩ : ∃ B, B = chkD R lx := ⟨_, rfl⟩
          rw [← hB] at HCk
          have HB := Lib.hid hB
          clear hR hB
          refine region_grow 18 112 (by kernel_rfl) rfl (by kernel_rfl) rfl rfl ?_
          simp only [List.take_succ_cons, List.take_zero, List.drop_succ_cons, List.drop_zero]
          refine seg 13 rfl rfl rfl rfl ?_
          simp only [List.take_succ_cons, List.take_zero, List.drop_succ_cons, List.drop_zero]
          repeat (go_big_quiet_step (fail))
          refine wpQuiet_nil ?_
          intro _
          refine grow_det (v := .string R) rfl rfl rfl rfl rfl ?_ ?_
          · intro w1 hG
            go_simp
            refine (HRo.out w1 (Gr.trans (Gr.drew wc) hG)).mono ?_
            rintro e w' ⟨rfl, hb⟩
            exact ⟨rfl, hb⟩
          simp only [Act.put, List.setIfInBounds_toArray, List.set_cons_zero, List.set_cons_succ]
          refine seg 1 rfl rfl rfl rfl ?_
          simp only [List.take_succ_cons, List.take_zero, List.drop_succ_cons, List.drop_zero]
          repeat (go_big_quiet_step (fail))
          refine wpQuiet_nil ?_
          intro _
          refine grow_det (v := .bool B) rfl rfl rfl rfl rfl ?_ ?_
          · intro w1 hG
            go_simp
            refine (HCk.out w1 (Gr.trans (Gr.drew wc) hG)).mono ?_
            rintro e w' ⟨rfl, hb⟩
            exact ⟨rfl, hb⟩
          simp only [Act.put, List.setIfInBounds_toArray, List.set_cons_zero, List.set_cons_succ]
          refine seg 1 rfl rfl rfl rfl ?_
          simp only [List.take_succ_cons, List.take_zero, List.drop_succ_cons, List.drop_zero]
          repeat (go_big_quiet_step (fail))
          refine wpQuiet_nil ?_
          intro _
          refine grow_det (v := .bool (!B)) rfl rfl rfl rfl rfl ?_ ?_
          · intro w1 hG
            go_simp
          simp only [Act.put, List.setIfInBounds_toArray, List.set_cons_zero, List.set_cons_succ]
          refine grow_end0 rfl rfl ?_
          intro w8 hG
          have HG8 : Hid (Gr wc w8) := Lib.hid (Gr.trans (Gr.drew wc) hG)
          clear hG s1 s2 HRo HCk
          cases B with
          | false =>
            go_wp2_with fail
            go_ret
            exact ⟨rfl, HGc.out.trans HG8.out⟩
          | true =>
            have hc := HB.out.symm
            unfold chkD at hc
            rw [Bool.and_eq_true, decide_eq_true_eq] at hc
            have HLx := Lib.hid hc.1
            have HRx := Lib.hid hc.2
            have HH2 : Hid (R = rtD lx → hitD (hashesD l) (hashesD lx) = true) := Lib.hid (fun h => HHit.out HLx.out h HNe.out)
            have HH3 := Lib.hid (HH2.out HRx.out.symm)
            clear hc HB HH2 HHit HRx HNe
            go_wp2_with fail
            refine (hashed23_any _ l w8 (HLc.out.gr HG8.out) HLL.out).mono ?_
            rintro e w9 ⟨u9, rfl, ho9, hg9⟩
            have HG9 := Lib.hid (HG8.out.trans hg9)
            have HS9 := Lib.hid (OwnL.strs ho9)
            clear ho9 hg9 HG8
            go_wp2_with fail
            refine (hashed23_any _ lx w9 (HPc.out.gr HG9.out) HLx.out).mono ?_
            rintro e w10 ⟨u10, rfl, ho10, hg10⟩
            have HG10 := Lib.hid (HG9.out.trans hg10)
            have HS10 := Lib.hid (OwnL.strs ho10)
            have HT9 := Lib.hid (HS9.out.gr hg10)
            clear ho10 hg10 HG9 HS9
            go_wp2_with fail
            refine (collided_any _ _ _ _ w10 HT9.out HS10.out (Nat.le_trans (hashesD_len HLL.out) (by decide)) (Nat.le_trans (hashesD_len HLx.out) (by decide)) (fun x hx => Nat.le_trans (hashesD_sizes HLL.out x hx) (by decide)) (fun x hx => Nat.le_trans (hashesD_sizes HLx.out x hx) (by decide))).mono ?_
            rintro e w11 ⟨rfl, hg11⟩
            rw [HH3.out]
            have HG11 := Lib.hid (HG10.out.trans hg11)
            clear hg11 HG10 HT9 HS10
            go_wp2_with fail
            go_ret
            exact ⟨rfl, HGc.out.trans HG11.out⟩
end Go.Proofs.YtakhomofckcckaaGreatDoor
