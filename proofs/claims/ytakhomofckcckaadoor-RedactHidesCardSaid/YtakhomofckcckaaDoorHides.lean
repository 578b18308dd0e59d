/- The walk of the statement RedactHides: it answers true. -/
import Derived.Test.YtakhomofckcckaaDoorHdA
namespace Go.Proofs.YtakhomofckcckaaDoor
open Go Go.RowKit Go.Shelf
attribute [local go_sem] gAt gUpon
attribute [local simp] Gr.refl Gr.alloc

set_option maxRecDepth 100000 in
set_option maxHeartbeats 8000000 in
theorem hides_any (v1 v2 : Value) (r0 r1 : Int) (s : ByteArray) (va : Value) (la : List Int) (vb : Value) (lb : List Int) (w : World) (hx : CaseIn v1 v2 r0 r1 w) (hs : s.size ≤ 9223372036854775807) (ha : Rws 1 inC va la w) (hla : la.length ≤ 9223372036854775807) (hra : ∀ x ∈ la, I64 x) (hb : Rws 1 inC vb lb w) (hlb : lb.length ≤ 9223372036854775807) (hrb : ∀ x ∈ lb, I64 x) (hT : Tab w) :
    Calls Tryd.prog 3 #[.agg #[v1, v2, .int .i64 r0, .int .i64 r1, .string s], va, vb] w fun e w' => e = .returned (.bool true) ∧ Gr w w' := by
  obtain ⟨i3, hi3, hz3, hsz3, hb3⟩ := info_parts infoInt
  obtain ⟨iL, hiL, hzL, hszL, hbL⟩ := info_parts infoLn
  have HX := Lib.hid hx
  have HT := Lib.hid hT
  obtain ⟨⟨L1, L2, h1, h2, -⟩, -⟩ := hx
  obtain ⟨p1, c1, rfl⟩ := h1.shape
  obtain ⟨p2, c2, rfl⟩ := h2.shape
  obtain ⟨pa, ca, rfl, hca⟩ := ha.shape2
  obtain ⟨pb, cb, rfl, hcb⟩ := hb.shape2
  have hmna : min (la.length : Int) 20 = ((min la.length 20 : Nat) : Int) := by omega
  have hmnb : min (lb.length : Int) 20 = ((min lb.length 20 : Nat) : Int) := by omega
  have hlea : min la.length 20 ≤ ca := Nat.le_trans (Nat.min_le_left _ _) hca
  have hleb : min lb.length 20 ≤ cb := Nat.le_trans (Nat.min_le_left _ _) hcb
  have HA0 := Lib.hid (ha.cut 20)
  have HB0 := Lib.hid (hb.cut 20)
  have HRA : Hid (∀ x ∈ la.take 20, I64 x) := Lib.hid (fun x hx => hra x (List.mem_of_mem_take hx))
  have HRB : Hid (∀ x ∈ lb.take 20, I64 x) := Lib.hid (fun x hx => hrb x (List.mem_of_mem_take hx))
  have HLA : Hid ((la.take 20).length = min la.length 20) := Lib.hid (by rw [List.length_take, Nat.min_comm])
  have HLB : Hid ((lb.take 20).length = min lb.length 20) := Lib.hid (by rw [List.length_take, Nat.min_comm])
  clear hT h1 h2 ha hb hra hrb hca hcb
  go_enter Tryd.func3, Tryd.ntmps3
  go_wp2_with fail
  refine (sane_any _ (HT.out.gr (Gr.alloc _ _))).mono ?_
  rintro e w1 ⟨rfl, hg1⟩
  have hrow := hg1.block (heap_alloc_new w (.cells #[.slice p1 L1.length c1, .slice p2 L2.length c2, .int .i64 r0, .int .i64 r1, .string s] 26))
  obtain ⟨k0, k1, k2, k3, k4⟩ := row5 hrow
  have HG1 := Lib.hid ((Gr.alloc w (.cells #[.slice p1 L1.length c1, .slice p2 L2.length c2, .int .i64 r0, .int .i64 r1, .string s] 26)).trans hg1)
  clear hg1 hrow
  go_wp2_with fail
  refine (made_any _ _ r0 r1 s _ (HX.out.gr HG1.out) hs).mono ?_
  rintro e w2 ⟨vL, vC, ls, cs, wd, bits, sc, rfl, hd, hsc, hg2⟩
  have HG2 := Lib.hid (HG1.out.trans hg2)
  have HD2 := Lib.hid hd
  obtain ⟨pl, cl, rfl⟩ := hd.1.1.shape
  obtain ⟨pc, cc, rfl⟩ := hd.1.2.shape
  have HLs : Hid (ls.length ≤ 6) := Lib.hid hd.2.2
  clear hg2 hd k0 k1 k2 k3 k4
  go_upto_region 3 with fail
  refine wp_gen (F := fun y => Gr w2 y ∧ y.heap[w2.heap.size]? = some (.cells #[.slice pl ls.length cl, .slice pc cs.length cc, .int .i64 wd, .string bits] 32 (0, 0))) ⟨Gr.alloc _ _, heap_alloc_new _ _⟩ ?_
  rintro w3 ⟨hg3, hr3⟩
  have HR3 := Lib.hid hr3
  have HG3 := Lib.hid (HG2.out.trans hg3)
  have HD3 := Lib.hid (HD2.out.gr hg3)
  generalize w2.heap.size = gd at hr3 HR3 ⊢
  obtain ⟨k0, k1, k2, k3⟩ := row4 hr3
  clear hr3 hg3 HD2
  go_upto_region 5 with fail
  have e1 := HLA.out
  have e2 := HLB.out
  rw [← e1, ← e2]
  clear e1 e2 hmna hmnb hlea hleb
  have HLa : Hid ((la.take 20).length ≤ 20) := Lib.hid (by rw [List.length_take]; omega)
  have HLb : Hid ((lb.take 20).length ≤ 20) := Lib.hid (by rw [List.length_take]; omega)
  clear HLA HLB hla hlb
  have HA := Lib.hid (HA0.out.gr HG3.out)
  have HB := Lib.hid (HB0.out.gr HG3.out)
  generalize la.take 20 = A at HA HRA HLa ⊢
  generalize lb.take 20 = B at HB HRB HLb ⊢
  clear HA0 HB0
  have hA20 : A.length ≤ 20 := HLa.out
  have hB20 : B.length ≤ 20 := HLb.out
  go_wp2_with fail
  refine (leaves_ok _ _ ls cs wd bits sc w3 HD3.out.1 HD3.out.2.1 (by omega) (HT.out.gr HG3.out)).mono ?_
  rintro e w5 ⟨u5, rfl, ho5, hg5⟩
  have HG5 := Lib.hid (HG3.out.trans hg5)
  have HGd := Lib.hid hg5
  obtain ⟨p5, c5, rfl⟩ := ho5.slice
  have hvl := validB_lines HD3.out.2.1
  have hll := leaves_list (secret := sc) hvl.1 hvl.2
  have HO5 : Hid (Rws 5 lfC (.slice p5 ls.length c5) (leavesD sc ls) w5) := Lib.hid (by
    have h := own_rws (l := leavesD sc ls) lfC_len (v := .slice p5 ls.length c5) (by rw [leavesD_len]; exact ho5)
    exact h)
  have HLN : Hid ((leavesD sc ls).length = ls.length) := Lib.hid (leavesD_len sc ls)
  have HLL := Lib.hid hll
  have HLNS := Lib.hid (leaves_lines hll)
  have HGet := Lib.hid (leaves_get sc ls)
  have hls6 : ls.length ≤ 6 := HLs.out
  have k0 := hg5.cell k0
  have K0 := Lib.hid k0
  have hne : ((ls.length : Int) != (ls.length : Int)) = false := by simp
  clear hg5 ho5 hvl hll k1 k2 k3
  generalize leavesD sc ls = l at HO5 HLN HLL HLNS HGet
  have HRoot := Lib.hid (fun y (hg : Gr w5 y) => rRoot_any (.slice p5 ls.length c5) l y (HO5.out.gr hg) (by rw [HLN.out]; omega) (HT.out.gr (HG5.out.trans hg)))
  have HOneL : Hid (listB (hideD B (hideD A l)) = true) := Lib.hid (hideD_list (hideD_list HLL.out))
  have HOneR : Hid (rtD (hideD B (hideD A l)) = rtD l) := Lib.hid (by rw [hideD_root (hideD_list HLL.out), hideD_root HLL.out])
  have HChk : Hid (chkD (rtD l) (hideD B (hideD A l)) = true) := Lib.hid (by unfold chkD; rw [HOneL.out, HOneR.out]; simp)
  generalize rtD l = R at HRoot HOneR HChk
  go_wp2_with fail
  refine (HRoot.out _ (Gr.refl _)).mono ?_
  rintro e w6 ⟨rfl, hg6⟩
  have HG6 := Lib.hid (HG5.out.trans hg6)
  have HK6 := Lib.hid (HGd.out.trans hg6)
  have HO6 := Lib.hid (HO5.out.gr hg6)
  clear hg6 HRoot HO5
  go_wp2_with fail
  refine (hide_ok _ l A _ _ HO6.out HLL.out (HA.out.gr HK6.out) HRA.out (by omega) (HT.out.gr HG6.out)).mono ?_
  rintro e w7 ⟨z7, rfl, ho7, hg7⟩
  obtain ⟨p7, c7, rfl⟩ := ho7.slice
  have HG7 := Lib.hid (HG6.out.trans hg7)
  have HK7 := Lib.hid (HK6.out.trans hg7)
  have HO7 := Lib.hid (HO6.out.gr hg7)
  have hp7 : Rws 5 lfC (.slice p7 l.length c7) (hideD A l) w7 := own_rws (l := hideD A l) lfC_len (by rw [hideD_len HLL.out]; exact ho7)
  rw [HLN.out] at hp7 ⊢
  have HP7 := Lib.hid hp7
  clear hg7 ho7 hp7 HO6
  go_wp2_with fail
  refine (hide_ok _ (hideD A l) B _ _ HP7.out (hideD_list HLL.out) (HB.out.gr HK7.out) HRB.out (by omega) (HT.out.gr HG7.out)).mono ?_
  rintro e w8 ⟨z8, rfl, ho8, hg8⟩
  obtain ⟨p8, c8, rfl⟩ := ho8.slice
  have HG8 := Lib.hid (HG7.out.trans hg8)
  have HK8 := Lib.hid (HK7.out.trans hg8)
  have HO8 := Lib.hid (HO7.out.gr hg8)
  have HN1 : Hid ((hideD B (hideD A l)).length = ls.length) := Lib.hid (by rw [hideD_len (hideD_list HLL.out), hideD_len HLL.out, HLN.out])
  have hp8 : Rws 5 lfC (.slice p8 (hideD A l).length c8) (hideD B (hideD A l)) w8 := own_rws (l := hideD B (hideD A l)) lfC_len (by rw [hideD_len (hideD_list HLL.out)]; exact ho8)
  have hln1 : (hideD A l).length = ls.length := by rw [hideD_len HLL.out, HLN.out]
  rw [hln1] at hp8 ⊢
  have HP8 := Lib.hid hp8
  have HOE := Lib.hid (own_empty w8 3 w8.heap.size 1 (Nat.le_refl _))
  clear hg8 ho8 hp8 hln1 HO7 HP7
  go_wp2_with ((with_reducible show wpList _ _ _ (⟨some 60, _, _, _, _, _⟩ :: _) _ _); refine wpList_append_Rws (enc := inC) rfl (.tmp 58) (.tmp 59) 27 rfl 3 i3 (.int .i64 0) 1 8 Tryd.underlying27 hi3 hz3 hsz3 hb3 rfl Nat.one_pos rfl HOE.out inC_len inC_one B _ rfl (HB.out.gr (HK8.out.trans (Gr.alloc _ _))) ?b1A ?b2A ?hBA ?_)
  case b1A => unfold maxLen; omega
  case b2A => omega
  case hBA => first | exact Nat.le_of_lt (by simp) | (have := HZA.out; omega)
  intro v60 w60 hown60 hchg60
  have hg60 : Gr w8 w60 := gr_step (Gr.refl w8) (Gr.alloc _ _) hchg60 (fun g hg => HOE.out.ge hg)
  have HO60 := Lib.hid hown60
  have HG60 := Lib.hid hg60
  have HZB : Hid (w8.heap.size ≤ w60.heap.size) := Lib.hid hg60.size
  clear hown60 hchg60 hg60
  go_wp2_with ((with_reducible show wpList _ _ _ (⟨some 62, _, _, _, _, _⟩ :: _) _ _); refine wpList_append_Rws (enc := inC) rfl (.tmp 60) (.tmp 61) 27 rfl 3 i3 (.int .i64 0) 1 8 Tryd.underlying27 hi3 hz3 hsz3 hb3 rfl Nat.one_pos rfl HO60.out inC_len inC_one A _ rfl (HA.out.gr (HK8.out.trans HG60.out)) ?b1B ?b2B ?hBB ?_)
  case b1B => unfold maxLen; omega
  case b2B => omega
  case hBB => first | exact Nat.le_of_lt (by simp) | (have := HZB.out; omega)
  intro v62 w62 hown62 hchg62
  have hg62 : Gr w8 w62 := gr_step HG60.out (Gr.refl _) hchg62 (fun g hg => HO60.out.ge hg)
  have HO62 := Lib.hid hown62
  have HG62 := Lib.hid hg62
  have HZC : Hid (w8.heap.size ≤ w62.heap.size) := Lib.hid hg62.size
  clear hown62 hchg62 hg62 HO60 HG60 HZB
  go_wp2_with ((with_reducible show wpList _ _ _ (⟨some 64, _, _, _, _, _⟩ :: _) _ _); refine wpList_append_Rws (enc := inC) rfl (.tmp 62) (.tmp 63) 27 rfl 3 i3 (.int .i64 0) 1 8 Tryd.underlying27 hi3 hz3 hsz3 hb3 rfl Nat.one_pos rfl HO62.out inC_len inC_one B _ rfl (HB.out.gr (HK8.out.trans HG62.out)) ?b1C ?b2C ?hBC ?_)
  case b1C => unfold maxLen; omega
  case b2C => omega
  case hBC => first | exact Nat.le_of_lt (by simp) | (have := HZC.out; omega)
  intro v64 w64 hown64 hchg64
  have hg64 : Gr w8 w64 := gr_step HG62.out (Gr.refl _) hchg64 (fun g hg => HO62.out.ge hg)
  have hq64 : Rws 1 inC v64 (B ++ A ++ B) w64 := own_rws (s := 1) (enc := inC) (fun _ => rfl) (by
    have h := hown64
    rw [List.length_append, List.length_append, List.flatMap_append, List.flatMap_append]
    simpa using h)
  obtain ⟨p64, c64, rfl⟩ := hq64.shape
  have HQ64 := Lib.hid hq64
  have HG64 := Lib.hid (HG8.out.trans hg64)
  have HK64 := Lib.hid (HK8.out.trans hg64)
  have HO64 := Lib.hid (HO8.out.gr hg64)
  have HP64 := Lib.hid (HP8.out.gr hg64)
  clear hown64 hchg64 hg64 hq64 HO62 HG62 HZC HOE HO8 HP8
  have HTwo : Hid (hideD (B ++ A ++ B) l = hideD B (hideD A l)) := Lib.hid (hide_hide HLL.out (fun x => by simp [List.mem_append]; exact fun h => .inr h)).symm
  have HRC : Hid (∀ x ∈ B ++ A ++ B, I64 x) := Lib.hid (fun x hx => by
    rcases List.mem_append.1 hx with hx | hx
    · rcases List.mem_append.1 hx with hx | hx
      · exact HRB.out x hx
      · exact HRA.out x hx
    · exact HRB.out x hx)
  have hlC : (B ++ A ++ B).length ≤ 60 := by simp; omega
  generalize B ++ A ++ B = C at HQ64 HTwo HRC hlC ⊢
  go_wp2_with fail
  refine (hide_ok _ l C _ _ HO64.out HLL.out HQ64.out HRC.out (by omega) (HT.out.gr HG64.out)).mono ?_
  rintro e w65 ⟨z65, rfl, ho65, hg65⟩
  obtain ⟨p65, c65, rfl⟩ := ho65.slice
  have hq65 : Rws 5 lfC (.slice p65 l.length c65) (hideD B (hideD A l)) w65 := by
    have h := own_rws (l := hideD C l) lfC_len (v := .slice p65 l.length c65) (by rw [hideD_len HLL.out]; exact ho65)
    rw [HTwo.out] at h; exact h
  rw [HLN.out] at hq65 ⊢
  have HQ65 := Lib.hid hq65
  have HG65 := Lib.hid (HG64.out.trans hg65)
  have HK65 := Lib.hid (HK64.out.trans hg65)
  have HO65 := Lib.hid (HO64.out.gr hg65)
  have HP65 := Lib.hid (HP64.out.gr hg65)
  clear ho65 hg65 hq65 HO64 HP64 HQ64 HTwo HRC
  have HHid : Hid (∀ (i : Nat) (x : Ln), ls[i]? = some x → ((i : Int) ∈ A ∨ (i : Int) ∈ B) → ∃ d, (hideD B (hideD A l))[i]? = some ⟨false, ⟨#[]⟩, 0, ⟨#[]⟩, d⟩) := Lib.hid (fun i x hx hi => hide_hidden (x := mkLf sc i x) HLL.out (by rw [HGet.out, hx]; rfl) hi)
  have HShw : Hid (∀ (i : Nat) (x : Ln), ls[i]? = some x → ¬ (i : Int) ∈ A → ¬ (i : Int) ∈ B → (hideD B (hideD A l))[i]? = some (mkLf sc i x)) := Lib.hid (fun i x hx h1 h2 => hide_shown (x := mkLf sc i x) HLL.out (by rw [HGet.out, hx]; rfl) h1 h2)
  generalize hideD B (hideD A l) = X at HOneL HOneR HChk HN1 HQ65 HP65 HHid HShw
  go_wp2_with fail
  refine (same_lf _ _ X _ HP65.out HQ65.out (by rw [HN1.out]; omega)).mono ?_
  rintro e w66 ⟨rfl, hg66⟩
  have HG66 := Lib.hid (HG65.out.trans hg66)
  have HK66 := Lib.hid (HK65.out.trans hg66)
  have HO66 := Lib.hid (HO65.out.gr hg66)
  have HP66 := Lib.hid (HP65.out.gr hg66)
  clear hg66 HO65 HP65 HQ65
  go_wp2_with fail
  refine (check_any R _ X _ HP66.out (by rw [HN1.out]; omega) (HT.out.gr HG66.out)).mono ?_
  rintro e w67 ⟨rfl, hg67⟩
  rw [HChk.out]
  have HG67 := Lib.hid (HG66.out.trans hg67)
  have HK67 := Lib.hid (HK66.out.trans hg67)
  have HO67 := Lib.hid (HO66.out.gr hg67)
  have HP67 := Lib.hid (HP66.out.gr hg67)
  clear hg67 HO66 HP66
  go_wp2_with fail
  refine (rRoot_any _ X _ HP67.out (by rw [HN1.out]; omega) (HT.out.gr HG67.out)).mono ?_
  rintro e w68 ⟨rfl, hg68⟩
  rw [HOneR.out]
  have HG68 := Lib.hid (HG67.out.trans hg68)
  have HK68 := Lib.hid (HK67.out.trans hg68)
  have HO68 := Lib.hid (HO67.out.gr hg68)
  have HP68 := Lib.hid (HP67.out.gr hg68)
  have HKD : Hid (w68.cell? ⟨gd, 0, none⟩ = some (.slice pl ls.length cl)) := Lib.hid (by
    have h := HK68.out.block HR3.out
    rw [cell_of_row _ _ _ _ _ _ h]; rfl)
  have HLi : Hid (Rws 2 lnC (.slice pl ls.length cl) ls w68) := Lib.hid (HD3.out.1.1.gr HK68.out)
  clear hg68 HO67 HP67 k0 K0
  go_wp2_with fail
  go_loopw [15, 16] (fun v15 v16 W => ∃ (k : Nat) (V : Value), k ≤ ls.length ∧ v16 = .int .i64 (k : Int) ∧ V = v15 ∧ Hid (Own w68.heap.size 2 V (leftD X k).length ((leftD X k).flatMap lnC) W) ∧ Hid (Gr w68 W)) (fun _ v16 _ => ls.length - (intOf v16).toNat)
  case atStart => exact ⟨0, _, Nat.zero_le _, rfl, rfl, Lib.hid (Own.nil _ _ _), Lib.hid (Gr.refl _)⟩
  case round =>
    obtain ⟨k, v15, hk, rfl, rfl, HOw, HG⟩ := hrel
    by_cases hlt : k < ls.length
    · have ht : decide (k < ls.length) = true := decide_eq_true hlt
      obtain ⟨x, hx⟩ : ∃ x, ls[k]? = some x := ⟨_, List.getElem?_eq_getElem hlt⟩
      obtain ⟨tx, mx⟩ := x
      have Hx := Lib.hid hx
      clear hx
      go_wp2_with fail
      refine (has_any _ A (k : Int) wr (HA.out.gr (HK68.out.trans HG.out)) (by omega)).mono ?_
      rintro e wa ⟨rfl, hga⟩
      by_cases hA : (k : Int) ∈ A
      · rw [decide_eq_true hA]
        have HMA := Lib.hid hA
        have HW := Lib.hid hga
        clear hA hga
        have HXk := Lib.hid (HHid.out k (tx, mx) Hx.out (.inl HMA.out))
        obtain ⟨dh, hXk⟩ := HXk.out
        have HSt := Lib.hid (left_step hXk)
        obtain ⟨g8, o8, rfl, hl8, hc8⟩ := (HP68.out.gr (HG.out.trans HW.out)).at_n HN1.out hXk
        have y0 := hc8 0 _ rfl
        have y1 := hc8 1 _ rfl
        have y2 := hc8 2 _ rfl
        have y3 := hc8 3 _ rfl
        have y4 := hc8 4 _ rfl
        rw [Nat.add_zero] at y0
        rw [← Nat.add_assoc] at y1 y2 y3 y4
        simp only at y0 y1 y2 y3 y4
        clear hXk hc8
        go_upto_region 18 with fail
        go_quiet (fail)
        rename_i nq
        have hgq : Gr wa (wa.drewN nq) := ⟨rfl, rfl, rfl, Nat.le_refl _, fun _ _ => rfl⟩
        generalize wa.drewN nq = wQ at hgq ⊢
        have HGn := Lib.hid ((HG.out.trans HW.out).trans hgq)
        have HOn : Hid (Own w68.heap.size 2 v15 (leftD X (k + 1)).length ((leftD X (k + 1)).flatMap lnC) wQ) := Lib.hid (by
          rw [HSt.out]
          simp only [Bool.false_eq_true, if_false, List.append_nil]
          exact HOw.out.gr (HW.out.trans hgq))
        clear y0 y1 y2 y3 y4 hgq HOw HG HW HSt
        go_wp2_with fail
        go_roundw
        case rel => exact ⟨k + 1, _, by omega, by go_num, rfl, HOn, HGn⟩
        case measure => simp [intOf]; omega
      · rw [decide_eq_false hA]
        have HMA := Lib.hid hA
        have HW0 := Lib.hid hga
        clear hA hga
        go_wp2_with fail
        refine (has_any _ B (k : Int) wa (HB.out.gr ((HK68.out.trans HG.out).trans HW0.out)) (by omega)).mono ?_
        rintro e wb ⟨rfl, hgb⟩
        have HW := Lib.hid (HW0.out.trans hgb)
        by_cases hB : (k : Int) ∈ B
        · rw [decide_eq_true hB]
          have HMB := Lib.hid hB
          clear hB hgb HW0
          have HXk := Lib.hid (HHid.out k (tx, mx) Hx.out (.inr HMB.out))
          obtain ⟨dh, hXk⟩ := HXk.out
          have HSt := Lib.hid (left_step hXk)
          obtain ⟨g8, o8, rfl, hl8, hc8⟩ := (HP68.out.gr (HG.out.trans HW.out)).at_n HN1.out hXk
          have y0 := hc8 0 _ rfl
          have y1 := hc8 1 _ rfl
          have y2 := hc8 2 _ rfl
          have y3 := hc8 3 _ rfl
          have y4 := hc8 4 _ rfl
          rw [Nat.add_zero] at y0
          rw [← Nat.add_assoc] at y1 y2 y3 y4
          simp only at y0 y1 y2 y3 y4
          clear hXk hc8
          go_upto_region 18 with fail
          go_quiet (fail)
          rename_i nq
          have hgq : Gr wb (wb.drewN nq) := ⟨rfl, rfl, rfl, Nat.le_refl _, fun _ _ => rfl⟩
          generalize wb.drewN nq = wQ at hgq ⊢
          have HGn := Lib.hid ((HG.out.trans HW.out).trans hgq)
          have HOn : Hid (Own w68.heap.size 2 v15 (leftD X (k + 1)).length ((leftD X (k + 1)).flatMap lnC) wQ) := Lib.hid (by
            rw [HSt.out]
            simp only [Bool.false_eq_true, if_false, List.append_nil]
            exact HOw.out.gr (HW.out.trans hgq))
          clear y0 y1 y2 y3 y4 hgq HOw HG HW HSt
          go_wp2_with fail
          go_roundw
          case rel => exact ⟨k + 1, _, by omega, by go_num, rfl, HOn, HGn⟩
          case measure => simp [intOf]; omega
        · rw [decide_eq_false hB]
          have hXk := HShw.out k (tx, mx) Hx.out HMA.out hB
          have hlk : l[k]? = some (mkLf sc k (tx, mx)) := by rw [HGet.out, Hx.out]; rfl
          have HSt := Lib.hid (left_step hXk)
          obtain ⟨g8, o8, rfl, hl8, hc8⟩ := (HP68.out.gr (HG.out.trans HW.out)).at_n HN1.out hXk
          obtain ⟨g5, o5, rfl, hl5, hc5⟩ := (HO68.out.gr (HG.out.trans HW.out)).at_n HLN.out hlk
          have hcd := (HG.out.trans HW.out).cell HKD.out
          obtain ⟨g3, o3', rfl, hl3, hc3⟩ := (HLi.out.gr (HG.out.trans HW.out)).at_ Hx.out
          have y0 := hc8 0 _ rfl
          have y1 := hc8 1 _ rfl
          have y2 := hc8 2 _ rfl
          have y3 := hc8 3 _ rfl
          have y4 := hc8 4 _ rfl
          rw [Nat.add_zero] at y0
          rw [← Nat.add_assoc] at y1 y2 y3 y4
          have z0 := hc5 0 _ rfl
          have z1 := hc5 1 _ rfl
          have z2 := hc5 2 _ rfl
          have z3 := hc5 3 _ rfl
          have z4 := hc5 4 _ rfl
          rw [Nat.add_zero] at z0
          rw [← Nat.add_assoc] at z1 z2 z3 z4
          have q0 := hc3 0 _ rfl
          have q1 := hc3 1 _ rfl
          rw [Nat.add_zero] at q0
          rw [← Nat.add_assoc] at q1
          simp only [mkLf] at y0 y1 y2 y3 y4 z0 z1 z2 z3 z4 q0 q1
          have HCd := Lib.hid hcd
          have HQ0 := Lib.hid q0
          have HQ1 := Lib.hid q1
          generalize saltD sc (k : Int) = sk at y3 z3
          clear hXk hlk hc8 hc5 hc3 hB hgb HW0 hcd q0 q1
          go_upto_region 18 with fail
          go_quiet (fail)
          rename_i nq
          have hgq : Gr wb (wb.drewN nq) := ⟨rfl, rfl, rfl, Nat.le_refl _, fun _ _ => rfl⟩
          generalize wb.drewN nq = wQ at hgq ⊢
          have HGn := Lib.hid ((HG.out.trans HW.out).trans hgq)
          have HOn := Lib.hid (HOw.out.gr (HW.out.trans hgq))
          have hcd := hgq.cell HCd.out
          have q0 := hgq.cell HQ0.out
          have q1 := hgq.cell HQ1.out
          clear y0 y1 y2 y3 y4 z0 z1 z2 z3 z4 hgq HOw HG HW HCd HQ0 HQ1
          have hlX : (leftD X k).length ≤ 6 := by
            unfold leftD
            rw [List.length_map]
            have := List.length_filter_le Lf.shown (X.take k)
            rw [List.length_take] at this
            omega
          go_wp2_with ((with_reducible show wpList _ _ _ (⟨some 154, _, _, _, _, _⟩ :: _) _ _); refine wpList_append_Own rfl (.tmp 147) (.tmp 153) 29 rfl 45 iL (.agg #[.string ⟨#[]⟩, .int .i64 0]) 2 24 Tryd.underlying29 hiL hzL hszL hbL rfl (by decide) rfl (HOn.out.gr (Gr.alloc wQ _)) ⟨wQ.heap.size, 0, none⟩ 1 1 [.string tx, .int .i64 mx] rfl rfl (cells_new_at wQ [.string tx, .int .i64 mx] 45) (one2 tx mx) Nat.one_pos ?b1 ?b2 ?hB ?_)
          case b1 => unfold maxLen; omega
          case b2 => omega
          case hB => have := HGn.out.size; simp; omega
          intro vN wN hownN hchgN _
          have HGN : Hid (Gr w68 wN) := Lib.hid (gr_step HGn.out (Gr.alloc _ _) hchgN (fun g hg => HOn.out.ge hg))
          have HON : Hid (Own w68.heap.size 2 vN (leftD X (k + 1)).length ((leftD X (k + 1)).flatMap lnC) wN) := Lib.hid (by
            rw [HSt.out]
            simp only [mkLf, if_true, List.length_append, List.flatMap_append]
            exact hownN)
          clear hownN hchgN HGn HOn HSt hcd q0 q1
          go_wp2_with fail
          go_roundw
          case rel => exact ⟨k + 1, _, by omega, by go_num, rfl, HON, HGN⟩
          case measure => simp [intOf]; omega
    · have ht : decide (k < ls.length) = false := decide_eq_false hlt
      have hkE : k = ls.length := by omega
      have HLf : Hid (leftD X k = linesD X) := Lib.hid (by rw [hkE, ← HN1.out]; exact left_end HOneL.out)
      have HLW : Hid (Rws 2 lnC v15 (linesD X) wr) := Lib.hid (by
        have h := own_rws (s := 2) (enc := lnC) (fun _ => rfl) HOw.out
        rw [HLf.out] at h; exact h)
      have hkd := HG.out.cell HKD.out
      have HKq : Hid (∀ y, Gr wr y → y.cell? ⟨gd, 0, none⟩ = some (.slice pl ls.length cl)) := Lib.hid (fun y hg => hg.cell hkd)
      have hlX : (linesD X).length ≤ 6 := by
        rw [← HLf.out]
        unfold leftD
        rw [List.length_map]
        have := List.length_filter_le Lf.shown (X.take k)
        rw [List.length_take] at this
        omega
      have HLX := Lib.hid hlX
      obtain ⟨pv, cv, rfl⟩ := HLW.out.shape
      clear hkE HOw HLf hlX
      go_upto_region 22 with fail
      refine wp_region_noPanic ?_
      refine wp_region_held_drew (S := (fun y => y.cell? ⟨gd, 0, none⟩ = some (.slice pl ls.length cl))) (by kernel_rfl) hkd (fun hHeld => ?_)
      refine held_take 0 (v := ?_) rfl rfl (by kernel_rfl) (by kernel_rfl) (by kernel_rfl) (fun _ _ _ h => h) (by rfl) ?_ (by assumption) ?_
      rotate_left
      · (intro w hSw; (try dsimp only at hSw); go_simp; try with_reducible rfl)
      try simp only [Act.put, List.setIfInBounds_toArray, List.set_cons_zero, List.set_cons_succ]
      refine held_take 1 (v := ?_) rfl rfl (by kernel_rfl) (by kernel_rfl) (by kernel_rfl) (fun _ _ _ h => h) (by rfl) ?_ (by assumption) ?_
      rotate_left
      · (intro w hSw; (try dsimp only at hSw); go_simp; try with_reducible rfl)
      try simp only [Act.put, List.setIfInBounds_toArray, List.set_cons_zero, List.set_cons_succ]
      refine held_take 2 (v := ?_) rfl rfl (by kernel_rfl) (by kernel_rfl) (by kernel_rfl) (fun _ _ _ h => h) (by rfl) ?_ (by assumption) ?_
      rotate_left
      · (intro w hSw; (try dsimp only at hSw); go_simp; try with_reducible rfl)
      try simp only [Act.put, List.setIfInBounds_toArray, List.set_cons_zero, List.set_cons_succ]
      refine held_take 4 (v := ?_) rfl rfl (by kernel_rfl) (by kernel_rfl) (by kernel_rfl) (fun _ _ _ h => h) (by rfl) ?_ (by assumption) ?_
      rotate_left
      · (intro w hSw; (try dsimp only at hSw); go_simp; try with_reducible rfl)
      try simp only [Act.put, List.setIfInBounds_toArray, List.set_cons_zero, List.set_cons_succ]
      refine held_step 3 (by kernel_rfl) rfl rfl (by rfl) ?_
      go_simp
      refine (rLines_any _ X _ (HP68.out.gr (HG.out.trans (Gr.drew wr))) (by rw [HN1.out]; omega)).mono ?_
      rintro e wE ⟨u1, rfl, hr1, hgE⟩
      have hu1 : Rws 2 lnC u1 (linesD X) wE := rws_of_row (s := 2) (enc := lnC) (fun _ => rfl) hr1
      obtain ⟨pe, ce, rfl⟩ := hu1.shape
      have HU1 := Lib.hid hu1
      have HGE := Lib.hid ((Gr.drew wr).trans hgE)
      have hkE := HKq.out wE HGE.out
      clear hr1 hgE hu1 hHeld
      refine ⟨_, rfl, Thn.mk hkE (fun hHeld => ?_)⟩
      try simp only [Act.put, List.setIfInBounds_toArray, List.set_cons_zero, List.set_cons_succ]
      refine held_step 5 (by kernel_rfl) rfl rfl (by rfl) ?_
      go_simp
      refine (same_ln _ _ (linesD X) _ HU1.out (HLW.out.gr HGE.out) (by have := HLX.out; omega)).mono ?_
      rintro e wF ⟨rfl, hgF⟩
      have HGF := Lib.hid (HGE.out.trans hgF)
      have hkF := HKq.out wF HGF.out
      clear hgF HU1 hHeld hkE
      refine ⟨_, rfl, Thn.mk hkF (fun hHeld => ?_)⟩
      try simp only [Act.put, List.setIfInBounds_toArray, List.set_cons_zero, List.set_cons_succ]
      refine held_take 6 (v := ?_) rfl rfl (by kernel_rfl) (by kernel_rfl) (by kernel_rfl) (fun _ _ _ h => h) (by rfl) ?_ (by assumption) ?_
      rotate_left
      · (intro w hSw; (try dsimp only at hSw); go_simp; try with_reducible rfl)
      try simp only [Act.put, List.setIfInBounds_toArray, List.set_cons_zero, List.set_cons_succ]
      refine held_take 7 (v := ?_) rfl rfl (by kernel_rfl) (by kernel_rfl) (by kernel_rfl) (fun _ _ _ h => h) (by rfl) ?_ (by assumption) ?_
      rotate_left
      · (intro w hSw; (try dsimp only at hSw); go_simp; try with_reducible rfl)
      try simp only [Act.put, List.setIfInBounds_toArray, List.set_cons_zero, List.set_cons_succ]
      refine held_take 8 (v := ?_) rfl rfl (by kernel_rfl) (by kernel_rfl) (by kernel_rfl) (fun _ _ _ h => h) (by rfl) ?_ (by assumption) ?_
      rotate_left
      · (intro w hSw; (try dsimp only at hSw); go_simp; try with_reducible rfl)
      try simp only [Act.put, List.setIfInBounds_toArray, List.set_cons_zero, List.set_cons_succ]
      refine held_take 10 (v := ?_) rfl rfl (by kernel_rfl) (by kernel_rfl) (by kernel_rfl) (fun _ _ _ h => h) (by rfl) ?_ (by assumption) ?_
      rotate_left
      · (intro w hSw; (try dsimp only at hSw); go_simp; try with_reducible rfl)
      try simp only [Act.put, List.setIfInBounds_toArray, List.set_cons_zero, List.set_cons_succ]
      refine held_take 11 (v := ?_) rfl rfl (by kernel_rfl) (by kernel_rfl) (by kernel_rfl) (fun _ _ _ h => h) (by rfl) ?_ (by assumption) ?_
      rotate_left
      · (intro w hSw; (try dsimp only at hSw); go_simp; try with_reducible rfl)
      try simp only [Act.put, List.setIfInBounds_toArray, List.set_cons_zero, List.set_cons_succ]
      refine held_step 9 (by kernel_rfl) rfl rfl (by rfl) ?_
      go_simp
      refine (rLines_any _ l _ (HO68.out.gr (HG.out.trans HGF.out)) (by rw [HLN.out]; omega)).mono ?_
      rintro e wH ⟨u2, rfl, hr2, hgH⟩
      have hu2 : Rws 2 lnC u2 ls wH := by
        have h := rws_of_row (s := 2) (enc := lnC) (fun _ => rfl) hr2
        rw [HLNS.out] at h; exact h
      obtain ⟨ph, ch, rfl⟩ := hu2.shape
      have HU2 := Lib.hid hu2
      have HGH := Lib.hid (HGF.out.trans hgH)
      have hkH := HKq.out wH HGH.out
      clear hr2 hgH hu2 hHeld hkF
      refine ⟨_, rfl, Thn.mk hkH (fun hHeld => ?_)⟩
      try simp only [Act.put, List.setIfInBounds_toArray, List.set_cons_zero, List.set_cons_succ]
      refine held_step 12 (by kernel_rfl) rfl rfl (by rfl) ?_
      go_simp
      refine (same_ln _ _ ls _ HU2.out (HLi.out.gr (HG.out.trans HGH.out)) (by omega)).mono ?_
      rintro e wI ⟨rfl, hgI⟩
      have HGI := Lib.hid (HGH.out.trans hgI)
      have hkI := HKq.out wI HGI.out
      clear hgI HU2 hHeld hkH
      refine ⟨_, rfl, Thn.mk hkI (fun hHeld => ?_)⟩
      try simp only [Act.put, List.setIfInBounds_toArray, List.set_cons_zero, List.set_cons_succ]
      refine held_take 13 (v := ?_) rfl rfl (by kernel_rfl) (by kernel_rfl) (by kernel_rfl) (fun _ _ _ h => h) (by rfl) ?_ (by assumption) ?_
      rotate_left
      · (intro w hSw; (try dsimp only at hSw); go_simp; try with_reducible rfl)
      try simp only [Act.put, List.setIfInBounds_toArray, List.set_cons_zero, List.set_cons_succ]
      refine held_take 14 (v := ?_) rfl rfl (by kernel_rfl) (by kernel_rfl) (by kernel_rfl) (fun _ _ _ h => h) (by rfl) ?_ (by assumption) ?_
      rotate_left
      · (intro w hSw; (try dsimp only at hSw); go_simp; try with_reducible rfl)
      try simp only [Act.put, List.setIfInBounds_toArray, List.set_cons_zero, List.set_cons_succ]
      refine wpAnyH_done (by kernel_rfl) ?_ _
      refine NoPanic.normal ?_
      clear hHeld hkI hkd
      go_wp2_with fail
      go_ret
      exact ⟨rfl, HG68.out.trans (HG.out.trans HGI.out)⟩
end Go.Proofs.YtakhomofckcckaaDoor
