/- Package content: Encode, of a valid document. -/
import Derived.Test.YtaoggehdkddgeaaGreatDoorGCnA
import Derived.Test.YtaoggehdkddgeaaGreatDoorGEvA
section
namespace Go.Proofs.YtaoggehdkddgeaaGreatDoor
open Go Go.RowKit Go.Shelf
attribute [local go_sem] gAt gUpon
attribute [local simp] Gr.refl Gr.alloc

/-- what Encode holds: the document's box, and its writer -/
structure CnI (w : World) (b1 bw : Nat) (v1 v2 : Value) (wd : Int) (bits : ByteArray) (N : Nat) (W : World) : Prop where
  g : Gr w W
  r : W.heap[b1]? = some (.cells #[v1, v2, .int .i64 wd, .string bits] 35 (0, 0))
  b : ∃ l, Bld (fun k => k < bw) bw l W ∧ l.length ≤ N
theorem CnI.gr {w : World} {b1 bw : Nat} {v1 v2 : Value} {wd : Int} {bits : ByteArray} {N : Nat} {W x : World} (h : CnI w b1 bw v1 v2 wd bits N W) (hg : Gr W x) : CnI w b1 bw v1 v2 wd bits N x := by
  obtain ⟨l, hl, hn⟩ := h.b
  exact ⟨h.g.trans hg, hg.block h.r, l, hl.gr hg, hn⟩
/-- behind a write -/
theorem CnI.put {w : World} {b1 bw : Nat} {v1 v2 : Value} {wd : Int} {bits : ByteArray} {N M : Nat} {W x : World} {l : List UInt8} (h : CnI w b1 bw v1 v2 wd bits N W) (hw : w.heap.size ≤ bw) (hb : b1 < bw) (hl : Bld (fun k => k < bw) bw l x) (hn : l.length ≤ M) (hk : Kpt (fun k => k < bw) W x) : CnI w b1 bw v1 v2 wd bits M x :=
  ⟨Kpt.step h.g hk hw, hk.block hb h.r, l, hl, hn⟩
theorem row6c {W : World} {g : Nat} {a b c d e f : Value} {t : TypeId} (h : W.heap[g]? = some (.cells #[a, b, c, d, e, f] t (0, 0))) :
    W.cell? ⟨g, 0, none⟩ = some a ∧ W.cell? ⟨g, 1, none⟩ = some b ∧ W.cell? ⟨g, 2, none⟩ = some c ∧ W.cell? ⟨g, 3, none⟩ = some d ∧ W.cell? ⟨g, 4, none⟩ = some e ∧ W.cell? ⟨g, 5, none⟩ = some f :=
  ⟨by rw [cell_of_row _ _ _ _ _ _ h]; rfl, by rw [cell_of_row _ _ _ _ _ _ h]; rfl, by rw [cell_of_row _ _ _ _ _ _ h]; rfl, by rw [cell_of_row _ _ _ _ _ _ h]; rfl, by rw [cell_of_row _ _ _ _ _ _ h]; rfl, by rw [cell_of_row _ _ _ _ _ _ h]; rfl⟩
theorem cell_num {x : Ce} (h : ceB x = true) : Num0 x.row ∧ Num0 x.col ∧ Num0 x.value ∧ Num0 x.top ∧ Num0 x.left := by
  unfold ceB withinB at h
  unfold Num0
  cases hs : x.sum with
  | true =>
    rw [hs] at h
    simp at h
    omega
  | false =>
    rw [hs] at h
    simp at h
    omega
set_option maxRecDepth 100000 in
set_option maxHeartbeats 4000000 in
theorem encodeC_any (v1 v2 : Value) (ls : List Ln) (cs : List Ce) (wd : Int) (bits : ByteArray) (w : World) (hd : DocIn v1 v2 ls cs w) (h : validB ls cs wd bits = true) :
    Calls Tryz.prog 5 #[.agg #[v1, v2, .int .i64 wd, .string bits]] w fun e w' => ∃ s, e = .returned (.tuple #[.string s, .int .i64 0]) ∧ s.size ≤ 20000 ∧ Gr w w' := by
  obtain ⟨p1, c1, rfl⟩ := hd.1.shape
  obtain ⟨p2, c2, rfl⟩ := hd.2.shape
  obtain ⟨hls, hcs, hwd, hbt⟩ := validB_bounds h
  have HV : Hid (∀ y, Gr w y → Calls Tryz.prog 20 #[.agg #[.slice p1 ls.length c1, .slice p2 cs.length c2, .int .i64 wd, .string bits]] y fun e w' => e = .returned (.bool true) ∧ Gr y w') := Lib.hid (fun y hg => by
    have := validC_any (.slice p1 ls.length c1) (.slice p2 cs.length c2) ls cs wd bits y ⟨hd.1.gr hg, hd.2.gr hg⟩ (by omega) (by omega) (by omega) (by omega)
    rw [h] at this; exact this)
  have HL : Hid (∀ x ∈ ls, lnB x = true) := Lib.hid (fun x hx => List.all_eq_true.1 (validB_lines h).2 x hx)
  have HC : Hid (∀ x ∈ cs, ceB x = true) := Lib.hid (fun x hx => by
    unfold validB at h
    simp only [Bool.and_eq_true] at h
    exact List.all_eq_true.1 h.2.2.2.2.1 x hx)
  obtain ⟨nl, hnl⟩ : ∃ z, ls.length = z := ⟨_, rfl⟩
  obtain ⟨nc, hnc⟩ : ∃ z, cs.length = z := ⟨_, rfl⟩
  rw [hnl] at hls HV hd
  rw [hnc] at hcs HV hd
  have HD := Lib.hid hd
  have Hn := Lib.hid (And.intro hnl hnc)
  rw [hnl, hnc]
  clear hd h hnl hnc
  go_enter Tryz.func5, Tryz.ntmps5
  go_upto_region 1 with fail
  refine wp_gen (F := fun z => Gr w z ∧ z.heap[w.heap.size]? = some (.cells #[.slice p1 nl c1, .slice p2 nc c2, .int .i64 wd, .string bits] 35 (0, 0))) ⟨Gr.alloc _ _, heap_alloc_new _ _⟩ ?_
  rintro w1 ⟨hg1, hr1⟩
  obtain ⟨b1, hb1⟩ : ∃ z, w.heap.size = z := ⟨_, rfl⟩
  have Hb1 : Hid (w.heap.size = b1) := Lib.hid hb1
  rw [hb1] at hr1
  simp only [hb1]
  have HG1 := Lib.hid hg1
  have HR1 := Lib.hid hr1
  clear hg1 hr1 hb1
  obtain ⟨k0, k1, k2, k3⟩ := row4 HR1.out
  go_wp2_with fail
  clear k0 k1 k2 k3
  refine (HV.out w1 HG1.out).mono ?_
  rintro e w2 ⟨rfl, hg⟩
  have HG2 := Lib.hid (HG1.out.trans hg)
  have HR2 := Lib.hid (hg.block HR1.out)
  clear hg HG1 HR1 HV
  go_upto_region 4 with fail
  have HM : Hid (CnI w b1 w2.heap.size (.slice p1 nl c1) (.slice p2 nc c2) wd bits 0 (w2.alloc (.cells #[.pointer none, .slice none 0 0] 77))) := Lib.hid ⟨HG2.out.trans (Gr.alloc _ _), (Gr.alloc _ _).block HR2.out, [], Bld.made w2 _ (fun _ h => h), Nat.le_refl _⟩
  obtain ⟨bw, hbw⟩ : ∃ z, w2.heap.size = z := ⟨_, rfl⟩
  have Hbw : Hid (w.heap.size ≤ bw ∧ b1 < bw) := Lib.hid ⟨by rw [← hbw]; exact HG2.out.size, by rw [← hbw]; exact (Array.getElem?_eq_some_iff.1 HR2.out).1⟩
  rw [hbw] at HM
  simp only [hbw]
  clear hbw HG2 HR2
  generalize w2.alloc (.cells #[.pointer none, .slice none 0 0] 77) = w3 at HM ⊢
  obtain ⟨k0, k1, k2, k3⟩ := row4 HM.out.r
  obtain ⟨l3, hl3, hn3⟩ := HM.out.b
  go_wp2_with fail
  clear k0 k1 k2 k3
  refine (numW1 _ bw l3 (nl : Int) w3 hl3 ⟨by omega, by omega⟩ (by omega)).mono ?_
  rintro e w4 ⟨rfl, ⟨l4, h4, hn4⟩, hk4⟩
  have HM4 : Hid (CnI w b1 bw (.slice p1 nl c1) (.slice p2 nc c2) wd bits 10 w4) := Lib.hid (HM.out.put Hbw.out.1 Hbw.out.2 h4 (by omega) hk4)
  clear hl3 hn3 h4 hn4 hk4 HM
  obtain ⟨k0, k1, k2, k3⟩ := row4 HM4.out.r
  go_wp2_with fail
  clear k0 k1 k2 k3
  go_loopw [6, 23] (fun _ v23 W => ∃ i : Nat, i ≤ nl ∧ v23 = .int .i64 (i : Int) ∧ Hid (CnI w b1 bw (.slice p1 nl c1) (.slice p2 nc c2) wd bits (10 + 110 * i) W)) (fun _ v23 _ => nl - (intOf v23).toNat)
  case atStart => exact ⟨0, Nat.zero_le _, rfl, HM4⟩
  clear HM4
  case round =>
    obtain ⟨i, hi, rfl, HM⟩ := hrel
    by_cases hlt : i < nl
    · have i0 : (0 : Int) ≤ (i : Int) := by omega
      have i1 : (i : Int) < (nl : Int) := by omega
      have ht : decide ((i : Int) < (nl : Int)) = true := decide_eq_true i1
      have ht' : decide (i < nl) = true := decide_eq_true hlt
      obtain ⟨x, hx⟩ : ∃ x, ls[i]? = some x := ⟨_, List.getElem?_eq_getElem (by rw [Hn.out.1]; exact hlt)⟩
      have hxs := lnB_sz (HL.out x (List.mem_of_getElem? hx))
      obtain ⟨gl, ol, hpe, hlc, hcy⟩ := (HD.out.1.gr HM.out.g).at_n Hn.out.1 hx
      subst hpe
      have y0 := hcy 0 _ rfl
      have y1 := hcy 1 _ rfl
      rw [Nat.add_zero] at y0
      rw [← Nat.add_assoc] at y1
      obtain ⟨xt, xm⟩ := x
      simp only at y0 y1 hxs
      clear hcy hx
      go_upto_region 8 with fail
      clear y0 y1 i0 i1 ht ht'
      have hga := Gr.alloc wr (.cells #[.string xt, .int .i64 xm] 61)
      have hra := heap_alloc_new wr (.cells #[.string xt, .int .i64 xm] 61)
      obtain ⟨l5, hl5, hn5⟩ := HM.out.b
      have hl5' : Bld (fun k => k < bw ∨ k = wr.heap.size) bw l5 (wr.alloc (.cells #[.string xt, .int .i64 xm] 61)) := hl5.add hga (fun k hk => hk.imp id (fun e => ⟨by omega, by rw [World.size_alloc]; omega⟩))
      have HMa := Lib.hid (HM.out.gr hga)
      obtain ⟨b6, hb6⟩ : ∃ z, wr.heap.size = z := ⟨_, rfl⟩
      rw [hb6] at hra hl5'
      simp only [hb6]
      have HRa := Lib.hid hra
      have HL5 := Lib.hid hl5'
      have Hn5 := Lib.hid hn5
      clear hga hra hl5 hl5' hn5 hb6 HM
      generalize wr.alloc (.cells #[.string xt, .int .i64 xm] 61) = wa at HMa HRa HL5 ⊢
      have y0 : wa.cell? ⟨b6, 0, none⟩ = some (.string xt) := cell_of_row _ _ _ _ _ _ HRa.out
      go_wp2_with fail
      clear y0
      refine (text_bld _ bw l5 xt wa HL5.out (by omega) (by have := Hn5.out; omega)).mono ?_
      rintro e wb ⟨rfl, h6, hk6⟩
      have hz6 := numB_size xt.size
      have hn6 : (l5 ++ (numB xt.size ++ xt).data.toList).length ≤ 10 + 110 * i + 90 := by rw [List.length_append, data_len, ByteArray.size_append]; have := Hn5.out; omega
      obtain ⟨l6, hl6⟩ : ∃ z, l5 ++ (numB xt.size ++ xt).data.toList = z := ⟨_, rfl⟩
      rw [hl6] at h6 hn6
      have HMb := Lib.hid (HMa.out.put Hbw.out.1 Hbw.out.2 (h6.sub (fun k hk => .inl hk)) hn6 (hk6.sub (fun k hk => .inl hk)))
      have HRb := Lib.hid (hk6.block (k := b6) (.inr rfl) HRa.out)
      have HL6 := Lib.hid h6
      have Hn6 := Lib.hid hn6
      clear h6 hn6 hk6 hl6 hz6 HMa HRa HL5 Hn5
      have y1 : wb.cell? ⟨b6, 1, none⟩ = some (.int .i64 xm) := cell_of_row _ _ _ _ _ _ HRb.out
      go_wp2_with fail
      clear y1
      refine (numW1 _ bw l6 xm wb HL6.out ⟨by omega, by omega⟩ (by have := Hn6.out; omega)).mono ?_
      rintro e wc ⟨rfl, ⟨l7, h7, hn7⟩, hk7⟩
      have HMc : Hid (CnI w b1 bw (.slice (some ⟨gl, ol, none⟩) nl c1) (.slice p2 nc c2) wd bits (10 + 110 * (i + 1)) wc) := Lib.hid (HMb.out.put Hbw.out.1 Hbw.out.2 (h7.sub (fun k hk => .inl hk)) (by have := Hn6.out; omega) (hk7.sub (fun k hk => .inl hk)))
      clear h7 hn7 hk7 HMb HRb HL6 Hn6
      go_wp2_with fail
      go_roundw
      case rel => exact ⟨i + 1, by omega, by go_num, HMc⟩
      case measure => simp [intOf]; omega
    · have hin : i = nl := by omega
      subst hin
      clear hlt
      obtain ⟨k0, k1, k2, k3⟩ := row4 HM.out.r
      obtain ⟨l3, hl3, hn3⟩ := HM.out.b
      go_wp2_with fail
      clear k0 k1 k2 k3
      refine (numW1 _ bw l3 (nc : Int) wr hl3 ⟨by omega, by omega⟩ (by omega)).mono ?_
      rintro e w4 ⟨rfl, ⟨l4, h4, hn4⟩, hk4⟩
      have HM4 : Hid (CnI w b1 bw (.slice p1 i c1) (.slice p2 nc c2) wd bits 7060 w4) := Lib.hid (HM.out.put Hbw.out.1 Hbw.out.2 h4 (by omega) hk4)
      clear hl3 hn3 h4 hn4 hk4 HM
      obtain ⟨k0, k1, k2, k3⟩ := row4 HM4.out.r
      go_wp2_with fail
      clear k0 k1 k2 k3
      go_loopw [8, 46] (fun _ v46 W => ∃ j : Nat, j ≤ nc ∧ v46 = .int .i64 (j : Int) ∧ Hid (CnI w b1 bw (.slice p1 i c1) (.slice p2 nc c2) wd bits (7060 + 50 * j) W)) (fun _ v46 _ => nc - (intOf v46).toNat)
      case atStart => exact ⟨0, Nat.zero_le _, rfl, HM4⟩
      clear HM4
      case round =>
        obtain ⟨j, hj, rfl, HM⟩ := hrel
        by_cases hlt : j < nc
        · have i0 : (0 : Int) ≤ (j : Int) := by omega
          have i1 : (j : Int) < (nc : Int) := by omega
          have ht : decide ((j : Int) < (nc : Int)) = true := decide_eq_true i1
          have ht' : decide (j < nc) = true := decide_eq_true hlt
          obtain ⟨x, hx⟩ : ∃ x, cs[j]? = some x := ⟨_, List.getElem?_eq_getElem (by rw [Hn.out.2]; exact hlt)⟩
          have hxs := cell_num (HC.out x (List.mem_of_getElem? hx))
          obtain ⟨gl, ol, hpe, hlc, hcy⟩ := (HD.out.2.gr HM.out.g).at_n Hn.out.2 hx
          subst hpe
          have y0 := hcy 0 _ rfl
          have y1 := hcy 1 _ rfl
          have y2 := hcy 2 _ rfl
          have y3 := hcy 3 _ rfl
          have y4 := hcy 4 _ rfl
          have y5 := hcy 5 _ rfl
          rw [Nat.add_zero] at y0
          rw [← Nat.add_assoc] at y1 y2 y3 y4 y5
          obtain ⟨xr, xc, xs, xv, xt, xl⟩ := x
          simp only at y0 y1 y2 y3 y4 y5 hxs
          have HXs := Lib.hid hxs
          clear hcy hx hxs
          go_upto_region 15 with fail
          clear y0 y1 y2 y3 y4 y5 i0 i1 ht ht'
          have hga := Gr.alloc wr (.cells #[.int .i64 xr, .int .i64 xc, .bool xs, .int .i64 xv, .int .i64 xt, .int .i64 xl] 63)
          have hra := heap_alloc_new wr (.cells #[.int .i64 xr, .int .i64 xc, .bool xs, .int .i64 xv, .int .i64 xt, .int .i64 xl] 63)
          obtain ⟨l5, hl5, hn5⟩ := HM.out.b
          have hl5' : Bld (fun k => k < bw ∨ k = wr.heap.size) bw l5 (wr.alloc (.cells #[.int .i64 xr, .int .i64 xc, .bool xs, .int .i64 xv, .int .i64 xt, .int .i64 xl] 63)) := hl5.add hga (fun k hk => hk.imp id (fun e => ⟨by omega, by rw [World.size_alloc]; omega⟩))
          have HMa := Lib.hid (HM.out.gr hga)
          obtain ⟨b6, hb6⟩ : ∃ z, wr.heap.size = z := ⟨_, rfl⟩
          rw [hb6] at hra hl5'
          simp only [hb6]
          have HRa := Lib.hid hra
          have HL5 := Lib.hid hl5'
          have Hn5 := Lib.hid hn5
          clear hga hra hl5 hl5' hn5 hb6 HM
          generalize wr.alloc (.cells #[.int .i64 xr, .int .i64 xc, .bool xs, .int .i64 xv, .int .i64 xt, .int .i64 xl] 63) = wa at HMa HRa HL5 ⊢
          obtain ⟨z0, z1, z2, z3, z4, z5⟩ := row6c HRa.out
          go_wp2_with fail
          clear z0 z1 z2 z3 z4 z5
          refine (numW2 _ bw l5 xr xc wa HL5.out HXs.out.1 HXs.out.2.1 (by have := Hn5.out; omega)).mono ?_
          rintro e wb ⟨rfl, ⟨l6, h6, hn6⟩, hk6⟩
          have HMb : Hid (CnI w b1 bw (.slice p1 i c1) (.slice (some ⟨gl, ol, none⟩) nc c2) wd bits (7060 + 50 * j + 20) wb) := Lib.hid (HMa.out.put Hbw.out.1 Hbw.out.2 (h6.sub (fun k hk => .inl hk)) (by have := Hn5.out; omega) (hk6.sub (fun k hk => .inl hk)))
          have HRb := Lib.hid (hk6.block (k := b6) (.inr rfl) HRa.out)
          have HL6 := Lib.hid h6
          have Hn6 : Hid (l6.length ≤ 7060 + 50 * j + 20) := Lib.hid (by have := Hn5.out; omega)
          clear h6 hn6 hk6 HMa HRa HL5 Hn5
          obtain ⟨z0, z1, z2, z3, z4, z5⟩ := row6c HRb.out
          cases xs with
          | true =>
            go_wp2_with fail
            clear z0 z1 z2 z3 z4 z5
            refine (numW3 _ bw l6 1 xt xl wb HL6.out ⟨by decide, by decide⟩ HXs.out.2.2.2.1 HXs.out.2.2.2.2 (by have := Hn6.out; omega)).mono ?_
            rintro e wc ⟨rfl, ⟨l7, h7, hn7⟩, hk7⟩
            have HMc : Hid (CnI w b1 bw (.slice p1 i c1) (.slice (some ⟨gl, ol, none⟩) nc c2) wd bits (7060 + 50 * (j + 1)) wc) := Lib.hid (HMb.out.put Hbw.out.1 Hbw.out.2 (h7.sub (fun k hk => .inl hk)) (by have := Hn6.out; omega) (hk7.sub (fun k hk => .inl hk)))
            clear h7 hn7 hk7 HMb HRb HL6 Hn6
            go_wp2_with fail
            go_roundw
            case rel => exact ⟨j + 1, by omega, by go_num, HMc⟩
            case measure => simp [intOf]; omega
          | false =>
            go_wp2_with fail
            clear z0 z1 z2 z3 z4 z5
            refine (numW2 _ bw l6 0 xv wb HL6.out ⟨by decide, by decide⟩ HXs.out.2.2.1 (by have := Hn6.out; omega)).mono ?_
            rintro e wc ⟨rfl, ⟨l7, h7, hn7⟩, hk7⟩
            have HMc : Hid (CnI w b1 bw (.slice p1 i c1) (.slice (some ⟨gl, ol, none⟩) nc c2) wd bits (7060 + 50 * (j + 1)) wc) := Lib.hid (HMb.out.put Hbw.out.1 Hbw.out.2 (h7.sub (fun k hk => .inl hk)) (by have := Hn6.out; omega) (hk7.sub (fun k hk => .inl hk)))
            clear h7 hn7 hk7 HMb HRb HL6 Hn6
            go_wp2_with fail
            go_roundw
            case rel => exact ⟨j + 1, by omega, by go_num, HMc⟩
            case measure => simp [intOf]; omega
        · have hjn : j = nc := by omega
          subst hjn
          clear hlt
          obtain ⟨k0, k1, k2, k3⟩ := row4 HM.out.r
          obtain ⟨l3, hl3, hn3⟩ := HM.out.b
          go_wp2_with fail
          clear k0 k1 k2 k3
          refine (numW1 _ bw l3 wd wr hl3 ⟨by omega, by omega⟩ (by omega)).mono ?_
          rintro e w4 ⟨rfl, ⟨l4, h4, hn4⟩, hk4⟩
          have HM4 : Hid (CnI w b1 bw (.slice p1 i c1) (.slice p2 j c2) wd bits 11000 w4) := Lib.hid (HM.out.put Hbw.out.1 Hbw.out.2 h4 (by omega) hk4)
          clear hl3 hn3 h4 hn4 hk4 HM
          obtain ⟨k0, k1, k2, k3⟩ := row4 HM4.out.r
          obtain ⟨l3, hl3, hn3⟩ := HM4.out.b
          go_wp2_with fail
          clear k0 k1 k2 k3
          refine (text_bld _ bw l3 bits w4 hl3 (by omega) (by omega)).mono ?_
          rintro e w5 ⟨rfl, h5, hk5⟩
          have hz6 := numB_size bits.size
          have hn5 : (l3 ++ (numB bits.size ++ bits).data.toList).length ≤ 20000 := by rw [List.length_append, data_len, ByteArray.size_append]; omega
          have hne : l3 ++ (numB bits.size ++ bits).data.toList ≠ [] := by
            have := putD_ne bits
            unfold putD at this
            simp only [ne_eq, List.append_eq_nil_iff, not_and]
            intro _; exact this
          obtain ⟨l6, hl6⟩ : ∃ z, l3 ++ (numB bits.size ++ bits).data.toList = z := ⟨_, rfl⟩
          rw [hl6] at h5 hn5 hne
          have HG5 := Lib.hid (Kpt.step HM4.out.g hk5 Hbw.out.1)
          have HB5 := Lib.hid h5
          have Hn5 := Lib.hid (And.intro hn5 hne)
          obtain ⟨p, v, hp, hb, -⟩ := h5
          have d0 : w5.cell? ⟨bw, 0, none⟩ = some p := by rw [cell_of_row _ _ _ _ _ _ hb]; rfl
          clear hl3 hn3 hn5 hk5 hz6 hne hl6 HM4 hp hb
          go_wp2_with fail
          refine (string_bld _ bw l6 w5 HB5.out Hn5.out.2).mono ?_
          rintro e w6 ⟨rfl, hk6⟩
          have HG6 := Lib.hid (Kpt.step HG5.out hk6 Hbw.out.1)
          clear hk6 d0
          go_wp2_with fail
          go_ret2
          exact ⟨_, rfl, by show (List.toArray l6).size ≤ 20000; rw [List.size_toArray]; exact Hn5.out.1, HG6.out⟩
end Go.Proofs.YtaoggehdkddgeaaGreatDoor
end
section
namespace Go.Proofs.YtaoggehdkddgeaaGreatDoor
open Go Go.RowKit Go.Shelf
attribute [local go_sem] gAt gUpon
attribute [local simp] Gr.refl Gr.alloc

/-- the cells of the fixed document -/
def ceA : List Ce := [⟨0, 0, false, 5, 0, 0⟩, ⟨0, 1, false, 7, 0, 0⟩, ⟨1, 1, true, 0, 0, 0⟩]
def lnA : List Ln := [(⟨#[65, 98]⟩, 2)]
theorem docA_valid : validB lnA ceA 0 ⟨#[]⟩ = true := by decide +kernel
theorem withinC_true {n lo hi : Int} (h : lo ≤ n ∧ n ≤ hi) (w : World) : Calls Tryz.prog 101 #[.int .i64 n, .int .i64 lo, .int .i64 hi] w fun e w' => e = .returned (.bool true) ∧ w = w' := by
  have e : withinB n lo hi = true := withinB_iff.2 h
  rw [← e]; exact withinC_any n lo hi w
/-- six cells of a cell -/
def Ce6 (g o : Nat) (x : Ce) (w : World) : Prop := w.cell? ⟨g, o, none⟩ = some (.int .i64 x.row) ∧ w.cell? ⟨g, o + 1, none⟩ = some (.int .i64 x.col) ∧ w.cell? ⟨g, o + 2, none⟩ = some (.bool x.sum) ∧ w.cell? ⟨g, o + 3, none⟩ = some (.int .i64 x.value) ∧ w.cell? ⟨g, o + 4, none⟩ = some (.int .i64 x.top) ∧ w.cell? ⟨g, o + 5, none⟩ = some (.int .i64 x.left)
theorem Ce6.gr {g o : Nat} {x : Ce} {w y : World} (h : Ce6 g o x w) (hg : Gr w y) : Ce6 g o x y := ⟨hg.cell h.1, hg.cell h.2.1, hg.cell h.2.2.1, hg.cell h.2.2.2.1, hg.cell h.2.2.2.2.1, hg.cell h.2.2.2.2.2⟩
theorem ceA_parts {v : Value} {w : World} (h : Rws 6 ceC v ceA w) : ∃ g o c, v = .slice (some ⟨g, o, none⟩) 3 c ∧ 3 ≤ c ∧ Ce6 g o ⟨0, 0, false, 5, 0, 0⟩ w ∧ Ce6 g (o + 6) ⟨0, 1, false, 7, 0, 0⟩ w ∧ Ce6 g (o + 12) ⟨1, 1, true, 0, 0, 0⟩ w := by
  obtain ⟨p, c, rfl⟩ := h.shape
  obtain ⟨g, o, hp, hc, h0⟩ := h.at_ (i := 0) rfl
  subst hp
  obtain ⟨g1, o1, hp1, -, h1⟩ := h.at_ (i := 1) rfl
  obtain ⟨g2, o2, hp2, -, h2⟩ := h.at_ (i := 2) rfl
  injection hp1 with e1
  injection e1 with e1 e2
  subst e1 e2
  injection hp2 with e1
  injection e1 with e1 e2
  subst e1 e2
  refine ⟨g, o, c, rfl, hc, ?_, ?_, ?_⟩
  · exact ⟨by simpa using h0 0 _ rfl, by simpa using h0 1 _ rfl, by simpa using h0 2 _ rfl, by simpa using h0 3 _ rfl, by simpa using h0 4 _ rfl, by simpa using h0 5 _ rfl⟩
  · exact ⟨h1 0 _ rfl, h1 1 _ rfl, h1 2 _ rfl, h1 3 _ rfl, h1 4 _ rfl, h1 5 _ rfl⟩
  · exact ⟨h2 0 _ rfl, h2 1 _ rfl, h2 2 _ rfl, h2 3 _ rfl, h2 4 _ rfl, h2 5 _ rfl⟩
theorem infoIntV : (Tryz.prog.info? 3).map (fun i => (i.zero, i.size, i.bytes)) = some (some (.int .i64 0), 1, 8) := by kernel_rfl
set_option maxRecDepth 100000 in
set_option maxHeartbeats 4000000 in
theorem values_fix (v1 : Value) (g o c : Nat) (wd : Int) (bits : ByteArray) (w : World) (hc : 3 ≤ c) (h0 : Ce6 g o ⟨0, 0, false, 5, 0, 0⟩ w) (h1 : Ce6 g (o + 6) ⟨0, 1, false, 7, 0, 0⟩ w) (h2 : Ce6 g (o + 12) ⟨1, 1, true, 0, 0, 0⟩ w) :
    Calls Tryz.prog 51 #[.agg #[v1, .slice (some ⟨g, o, none⟩) 3 c, .int .i64 wd, .string bits]] w fun e w' => ∃ v, e = .returned v ∧ Own w.heap.size 1 v 3 [.int .i64 5, .int .i64 7, .int .i64 12] w' ∧ Gr w w' := by
  obtain ⟨iI, hiI, hI0, hI1, hI2⟩ := info_parts infoIntV
  have HiI := Lib.hid hiI
  have HI0 := Lib.hid hI0
  have HI1 := Lib.hid hI1
  have HI2 := Lib.hid hI2
  have H0 := Lib.hid h0
  have H1 := Lib.hid h1
  have H2 := Lib.hid h2
  have m5 : min (max (5 : Int) (-1000000000000)) 1000000000000 = 5 := by decide
  have m7 : min (max (7 : Int) (-1000000000000)) 1000000000000 = 7 := by decide
  have m12 : min (max (12 : Int) (-1000000000000)) 1000000000000 = 12 := by decide
  clear hiI hI0 hI1 hI2 h0 h1 h2
  go_enter Tryz.func51, Tryz.ntmps51
  go_upto_region 1 with fail
  refine wp_gen (F := fun z => Gr w z ∧ z.heap[w.heap.size]? = some (.cells #[v1, .slice (some ⟨g, o, none⟩) 3 c, .int .i64 wd, .string bits] 123 (0, 0))) ⟨Gr.alloc _ _, heap_alloc_new _ _⟩ ?_
  rintro w1 ⟨hg1, hr1⟩
  obtain ⟨b1, hb1⟩ : ∃ z, w.heap.size = z := ⟨_, rfl⟩
  have Hb1 : Hid (w.heap.size = b1) := Lib.hid hb1
  rw [hb1] at hr1
  simp only [hb1]
  have HG1 := Lib.hid hg1
  have HR1 := Lib.hid hr1
  clear hg1 hr1 hb1
  obtain ⟨k0, k1, k2, k3⟩ := row4 HR1.out
  go_wp2_with fail
  clear k0 k1 k2 k3
  go_loopw [3, 4, 5, 6, 7, 8, 13] (fun v3 _ _ _ _ _ v13 W => ∃ (k : Nat) (V : Value), k ≤ 3 ∧ V = v3 ∧ v13 = .int .i64 (k : Int) ∧ Hid (Own w1.heap.size 1 V k (([.int .i64 5, .int .i64 7, .int .i64 12] : List Value).take k) W) ∧ Hid (Gr w1 W)) (fun _ _ _ _ _ _ v13 _ => 3 - (intOf v13).toNat)
  case atStart => exact ⟨0, _, by omega, rfl, rfl, Lib.hid (Own.nil _ _ _), Lib.hid (Gr.refl _)⟩
  case round =>
    obtain ⟨k, V, hk, rfl, rfl, HO, HG⟩ := hrel
    rcases (show k = 0 ∨ k = 1 ∨ k = 2 ∨ k = 3 by omega) with rfl | rfl | rfl | rfl
    · obtain ⟨x0, x1, x2, x3, x4, x5⟩ := H0.out.gr (HG1.out.trans HG.out)
      simp only at x0 x1 x2 x3 x4 x5
      go_upto_region 5 with fail
      clear x0 x1 x2 x3 x4 x5
      have hga := Gr.alloc wr (.cells #[.int .i64 0, .int .i64 0, .bool false, .int .i64 5, .int .i64 0, .int .i64 0] 63)
      have hra := heap_alloc_new wr (.cells #[.int .i64 0, .int .i64 0, .bool false, .int .i64 5, .int .i64 0, .int .i64 0] 63)
      obtain ⟨b5, hb5⟩ : ∃ z, wr.heap.size = z := ⟨_, rfl⟩
      rw [hb5] at hra
      simp only [hb5]
      have HGa := Lib.hid (HG.out.trans hga)
      have HOa := Lib.hid (HO.out.gr hga)
      have HRa := Lib.hid hra
      clear hga hra hb5 HG HO
      generalize wr.alloc (.cells #[.int .i64 0, .int .i64 0, .bool false, .int .i64 5, .int .i64 0, .int .i64 0] 63) = wa at HGa HOa HRa ⊢
      obtain ⟨x0, x1, x2, x3, x4, x5⟩ := row6c HRa.out
      go_wp2_with ((with_reducible show wpList _ _ _ (⟨some 61, _, _, _, _, _⟩ :: _) _ _); refine wpList_append_Own rfl (.tmp 56) (.tmp 60) 37 rfl 3 iI (.int .i64 0) 1 8 Tryz.underlying37 HiI.out HI0.out HI1.out HI2.out rfl (by decide) rfl (HOa.out.gr (Gr.alloc _ _)) ⟨wa.heap.size, 0, none⟩ 1 1 [.int .i64 5] rfl rfl (row_at (heap_alloc_new _ _)) ?h1 (by decide) ?b1 ?b2 ?hB ?_)
      case h1 => intro u hu; obtain rfl := List.mem_singleton.1 hu; rfl
      case b1 => unfold maxLen; omega
      case b2 => omega
      case hB => exact (HGa.out.trans (Gr.alloc _ _)).size
      intro v9 w9 hown hchg _
      have HO9 : Hid (Own w1.heap.size 1 v9 1 (([.int .i64 5, .int .i64 7, .int .i64 12] : List Value).take 1) w9) := Lib.hid hown
      have HG9 : Hid (Gr w1 w9) := Lib.hid (gr_step (HGa.out.trans (Gr.alloc _ _)) (Gr.refl _) hchg (fun j e => Own.ge HOa.out e))
      clear hown hchg HGa HOa HRa x0 x1 x2 x3 x4 x5
      go_wp2_with fail
      go_roundw
      case rel => exact ⟨1, _, by omega, rfl, by go_num, HO9, HG9⟩
      case measure => simp [intOf]
    · obtain ⟨gv, ov, cv, rfl, -, -, -⟩ := HO.out.shape (by decide)
      obtain ⟨x0, x1, x2, x3, x4, x5⟩ := H1.out.gr (HG1.out.trans HG.out)
      simp only at x0 x1 x2 x3 x4 x5
      go_upto_region 5 with fail
      clear x0 x1 x2 x3 x4 x5
      have hga := Gr.alloc wr (.cells #[.int .i64 0, .int .i64 1, .bool false, .int .i64 7, .int .i64 0, .int .i64 0] 63)
      have hra := heap_alloc_new wr (.cells #[.int .i64 0, .int .i64 1, .bool false, .int .i64 7, .int .i64 0, .int .i64 0] 63)
      obtain ⟨b5, hb5⟩ : ∃ z, wr.heap.size = z := ⟨_, rfl⟩
      rw [hb5] at hra
      simp only [hb5]
      have HGa := Lib.hid (HG.out.trans hga)
      have HOa := Lib.hid (HO.out.gr hga)
      have HRa := Lib.hid hra
      clear hga hra hb5 HG HO
      generalize wr.alloc (.cells #[.int .i64 0, .int .i64 1, .bool false, .int .i64 7, .int .i64 0, .int .i64 0] 63) = wa at HGa HOa HRa ⊢
      obtain ⟨x0, x1, x2, x3, x4, x5⟩ := row6c HRa.out
      go_wp2_with ((with_reducible show wpList _ _ _ (⟨some 61, _, _, _, _, _⟩ :: _) _ _); refine wpList_append_Own rfl (.tmp 56) (.tmp 60) 37 rfl 3 iI (.int .i64 0) 1 8 Tryz.underlying37 HiI.out HI0.out HI1.out HI2.out rfl (by decide) rfl (HOa.out.gr (Gr.alloc _ _)) ⟨wa.heap.size, 0, none⟩ 1 1 [.int .i64 7] rfl rfl (row_at (heap_alloc_new _ _)) ?h1 (by decide) ?b1 ?b2 ?hB ?_)
      case h1 => intro u hu; obtain rfl := List.mem_singleton.1 hu; rfl
      case b1 => unfold maxLen; omega
      case b2 => omega
      case hB => exact (HGa.out.trans (Gr.alloc _ _)).size
      intro v9 w9 hown hchg _
      have HO9 : Hid (Own w1.heap.size 1 v9 2 (([.int .i64 5, .int .i64 7, .int .i64 12] : List Value).take 2) w9) := Lib.hid hown
      have HG9 : Hid (Gr w1 w9) := Lib.hid (gr_step (HGa.out.trans (Gr.alloc _ _)) (Gr.refl _) hchg (fun j e => Own.ge HOa.out e))
      clear hown hchg HGa HOa HRa x0 x1 x2 x3 x4 x5
      go_wp2_with fail
      go_roundw
      case rel => exact ⟨2, _, by omega, rfl, by go_num, HO9, HG9⟩
      case measure => simp [intOf]
    · obtain ⟨gv, ov, cv, rfl, -, hv2, -⟩ := HO.out.shape (by decide)
      rw [show ((2 : Nat) : Int) = 2 from rfl]
      obtain ⟨x0, x1, x2, x3, x4, x5⟩ := H2.out.gr (HG1.out.trans HG.out)
      simp only at x0 x1 x2 x3 x4 x5
      go_upto_region 5 with fail
      clear x0 x1 x2 x3 x4 x5
      have hga := Gr.alloc wr (.cells #[.int .i64 1, .int .i64 1, .bool true, .int .i64 0, .int .i64 0, .int .i64 0] 63)
      have hra := heap_alloc_new wr (.cells #[.int .i64 1, .int .i64 1, .bool true, .int .i64 0, .int .i64 0, .int .i64 0] 63)
      obtain ⟨b5, hb5⟩ : ∃ z, wr.heap.size = z := ⟨_, rfl⟩
      rw [hb5] at hra
      simp only [hb5]
      have HGa := Lib.hid (HG.out.trans hga)
      have HOa := Lib.hid (HO.out.gr hga)
      have HRa := Lib.hid hra
      clear hga hra hb5 HG HO
      generalize wr.alloc (.cells #[.int .i64 1, .int .i64 1, .bool true, .int .i64 0, .int .i64 0, .int .i64 0] 63) = wa at HGa HOa HRa ⊢
      obtain ⟨x0, x1, x2, x3, x4, x5⟩ := row6c HRa.out
      obtain ⟨k0, k1, k2, k3⟩ := row4 (HGa.out.block HR1.out)
      have hc2 : (2 : Int) ≤ (c : Int) := by omega
      have hc3 : 2 ≤ c := by omega
      go_wp2_with fail
      clear k0 k1 k2 k3 x0 x1 x2 x3 x4 x5
      go_loopw [6, 7, 8, 28] (fun v6 _ _ v28 W => ∃ i : Nat, i ≤ 2 ∧ v28 = .int .i64 (i : Int) ∧ v6 = .int .i64 ((if i = 0 then 0 else if i = 1 then 5 else 12 : Nat) : Int) ∧ Hid (Gr wa W)) (fun _ _ _ v28 _ => 2 - (intOf v28).toNat)
      case atStart => exact ⟨0, by omega, rfl, rfl, Lib.hid (Gr.refl _)⟩
      case round =>
        obtain ⟨i, hi, rfl, rfl, HGi⟩ := hrel
        rcases (show i = 0 ∨ i = 1 ∨ i = 2 by omega) with rfl | rfl | rfl
        · obtain ⟨x0, x1, x2, x3, x4, x5⟩ := H0.out.gr ((HG1.out.trans HGa.out).trans HGi.out)
          simp only at x0 x1 x2 x3 x4 x5
          go_upto_region 10 with fail
          clear x0 x1 x2 x3 x4 x5
          have hga := Gr.alloc wr (.cells #[.int .i64 0, .int .i64 0, .bool false, .int .i64 5, .int .i64 0, .int .i64 0] 63)
          have hra := heap_alloc_new wr (.cells #[.int .i64 0, .int .i64 0, .bool false, .int .i64 5, .int .i64 0, .int .i64 0] 63)
          obtain ⟨b8, hb8⟩ : ∃ z, wr.heap.size = z := ⟨_, rfl⟩
          rw [hb8] at hra
          simp only [hb8]
          have HGb := Lib.hid (HGi.out.trans hga)
          have HRb := Lib.hid hra
          clear hga hra hb8 HGi
          generalize wr.alloc (.cells #[.int .i64 0, .int .i64 0, .bool false, .int .i64 5, .int .i64 0, .int .i64 0] 63) = wb at HGb HRb ⊢
          obtain ⟨x0, x1, x2, x3, x4, x5⟩ := row6c HRb.out
          obtain ⟨y0, y1, y2, y3, y4, y5⟩ := row6c (HGb.out.block HRa.out)
          go_wp2_with fail
          refine (withinC_true (n := 0) (lo := 0) (hi := 1) ⟨by decide, by decide⟩ _).mono ?_
          rintro e w' ⟨rfl, rfl⟩
          go_wp2_with fail
          refine (withinC_true (n := 0) (lo := 0) (hi := 1) ⟨by decide, by decide⟩ _).mono ?_
          rintro e w' ⟨rfl, rfl⟩
          have q : wb.cell? ⟨gv, ov, none⟩ = some (.int .i64 5) := by simpa using Own.cell (HOa.out.gr HGb.out) 0 _ rfl
          go_wp2_with fail
          clear x0 x1 x2 x3 x4 x5 y0 y1 y2 y3 y4 y5 q
          go_roundw
          case rel => exact ⟨1, by omega, by go_num, by go_num, HGb⟩
          case measure => simp [intOf]
        · obtain ⟨x0, x1, x2, x3, x4, x5⟩ := H1.out.gr ((HG1.out.trans HGa.out).trans HGi.out)
          simp only at x0 x1 x2 x3 x4 x5
          go_upto_region 10 with fail
          clear x0 x1 x2 x3 x4 x5
          have hga := Gr.alloc wr (.cells #[.int .i64 0, .int .i64 1, .bool false, .int .i64 7, .int .i64 0, .int .i64 0] 63)
          have hra := heap_alloc_new wr (.cells #[.int .i64 0, .int .i64 1, .bool false, .int .i64 7, .int .i64 0, .int .i64 0] 63)
          obtain ⟨b8, hb8⟩ : ∃ z, wr.heap.size = z := ⟨_, rfl⟩
          rw [hb8] at hra
          simp only [hb8]
          have HGb := Lib.hid (HGi.out.trans hga)
          have HRb := Lib.hid hra
          clear hga hra hb8 HGi
          generalize wr.alloc (.cells #[.int .i64 0, .int .i64 1, .bool false, .int .i64 7, .int .i64 0, .int .i64 0] 63) = wb at HGb HRb ⊢
          obtain ⟨x0, x1, x2, x3, x4, x5⟩ := row6c HRb.out
          obtain ⟨y0, y1, y2, y3, y4, y5⟩ := row6c (HGb.out.block HRa.out)
          go_wp2_with fail
          refine (withinC_true (n := 0) (lo := 0) (hi := 1) ⟨by decide, by decide⟩ _).mono ?_
          rintro e w' ⟨rfl, rfl⟩
          go_wp2_with fail
          refine (withinC_true (n := 1) (lo := 0) (hi := 1) ⟨by decide, by decide⟩ _).mono ?_
          rintro e w' ⟨rfl, rfl⟩
          have q : wb.cell? ⟨gv, ov + 1, none⟩ = some (.int .i64 7) := Own.cell (HOa.out.gr HGb.out) 1 _ rfl
          go_wp2_with fail
          clear x0 x1 x2 x3 x4 x5 y0 y1 y2 y3 y4 y5 q
          go_roundw
          case rel => exact ⟨2, by omega, by go_num, by go_num, HGb⟩
          case measure => simp [intOf]
        · have HOi := Lib.hid (HOa.out.gr HGi.out)
          go_wp2_with ((with_reducible show wpList _ _ _ (⟨some 61, _, _, _, _, _⟩ :: _) _ _); refine wpList_append_Own rfl (.tmp 56) (.tmp 60) 37 rfl 3 iI (.int .i64 0) 1 8 Tryz.underlying37 HiI.out HI0.out HI1.out HI2.out rfl (by decide) rfl (HOi.out.gr (Gr.alloc _ _)) ⟨wr.heap.size, 0, none⟩ 1 1 [.int .i64 12] rfl rfl (row_at (heap_alloc_new _ _)) ?h1 (by decide) ?b1 ?b2 ?hB ?_)
          case h1 => intro u hu; obtain rfl := List.mem_singleton.1 hu; rfl
          case b1 => unfold maxLen; omega
          case b2 => omega
          case hB => exact ((HGa.out.trans HGi.out).trans (Gr.alloc _ _)).size
          intro v9 w9 hown hchg _
          have HO9 : Hid (Own w1.heap.size 1 v9 3 (([.int .i64 5, .int .i64 7, .int .i64 12] : List Value).take 3) w9) := Lib.hid hown
          have HG9 : Hid (Gr w1 w9) := Lib.hid (gr_step ((HGa.out.trans HGi.out).trans (Gr.alloc _ _)) (Gr.refl _) hchg (fun j e => Own.ge HOa.out e))
          clear hown hchg HGa HOa HRa HOi HGi
          go_wp2_with fail
          go_roundw
          case rel => exact ⟨3, _, by omega, rfl, by go_num, HO9, HG9⟩
          case measure => simp [intOf]
    · go_wp2_with fail
      go_ret
      exact ⟨_, rfl, HO.out.mono HG1.out.size, HG1.out.trans HG.out⟩
end Go.Proofs.YtaoggehdkddgeaaGreatDoor
end
section
namespace Go.Proofs.YtaoggehdkddgeaaGreatDoor
open Go Go.RowKit Go.Shelf
attribute [local go_sem] gAt gUpon
attribute [local simp] Gr.refl Gr.alloc

set_option maxRecDepth 100000 in
theorem value1_any (r c v t l : Int) (s : Bool) (b4 b5 : Nat) (w : World) (h4 : w.cell? ⟨b4, 0, none⟩ = some (.int .i64 1)) (h5 : w.cell? ⟨b5, 0, none⟩ = some (.int .i64 1)) :
    Calls Tryz.prog 50 #[.agg #[.int .i64 r, .int .i64 c, .bool s, .int .i64 v, .int .i64 t, .int .i64 l], .pointer (some ⟨b4, 0, none⟩), .pointer (some ⟨b5, 0, none⟩)] w fun e w' => e = .returned (.bool (r == 1 && c == 1)) ∧ Gr w w' := by
  have H4 := Lib.hid h4
  have H5 := Lib.hid h5
  clear h4 h5
  obtain ⟨B1, hB1⟩ : ∃ z, (r == 1) = z := ⟨_, rfl⟩
  obtain ⟨B2, hB2⟩ : ∃ z, (c == 1) = z := ⟨_, rfl⟩
  rw [hB1, hB2]
  go_enter Tryz.func50, Tryz.ntmps50
  go_upto_region 1 with fail
  refine wp_gen (F := fun z => Gr w z ∧ z.heap[w.heap.size]? = some (.cells #[.int .i64 r, .int .i64 c, .bool s, .int .i64 v, .int .i64 t, .int .i64 l] 63 (0, 0))) ⟨Gr.alloc _ _, heap_alloc_new _ _⟩ ?_
  rintro w1 ⟨hg1, hr1⟩
  obtain ⟨k0, k1, k2, k3, k4, k5⟩ := row6c hr1
  have q4 := hg1.cell H4.out
  have q5 := hg1.cell H5.out
  have HG1 := Lib.hid hg1
  clear hg1 hr1
  generalize w.heap.size = b3 at k0 k1 k2 k3 k4 k5 ⊢
  cases B1 with
  | true =>
    go_wp2_with fail
    go_ret
    exact ⟨by simp, HG1.out⟩
  | false =>
    go_wp2_with fail
    go_ret
    exact ⟨by simp, HG1.out⟩
set_option maxRecDepth 100000 in
set_option maxHeartbeats 1000000 in
theorem idx_fix (g o c b4 b5 : Nat) (w : World) (h4 : w.cell? ⟨b4, 0, none⟩ = some (.int .i64 1)) (h5 : w.cell? ⟨b5, 0, none⟩ = some (.int .i64 1)) (h0 : Ce6 g o ⟨0, 0, false, 5, 0, 0⟩ w) (h1 : Ce6 g (o + 6) ⟨0, 1, false, 7, 0, 0⟩ w) (h2 : Ce6 g (o + 12) ⟨1, 1, true, 0, 0, 0⟩ w) :
    Calls Tryz.prog 49 #[.slice (some ⟨g, o, none⟩) 3 c, .func (.func 50) #[] #[.pointer (some ⟨b4, 0, none⟩), .pointer (some ⟨b5, 0, none⟩)]] w fun e w' => e = .returned (.int .i64 2) ∧ Gr w w' := by
  have HF := Lib.hid (fun (r c v t l : Int) (s : Bool) (y : World) (hg : Gr w y) => value1_any r c v t l s b4 b5 y (hg.cell h4) (hg.cell h5))
  have H0 := Lib.hid h0
  have H1 := Lib.hid h1
  have H2 := Lib.hid h2
  clear h4 h5 h0 h1 h2
  go_enter Tryz.func49, Tryz.ntmps49
  go_wp2_with fail
  go_loopw [5, 8] (fun _ v8 W => ∃ i : Nat, i ≤ 2 ∧ v8 = .int .i64 (i : Int) ∧ Hid (Gr w W)) (fun _ v8 _ => 3 - (intOf v8).toNat)
  case atStart => exact ⟨0, by omega, rfl, Lib.hid (Gr.refl _)⟩
  case round =>
    obtain ⟨i, hi, rfl, HG⟩ := hrel
    rcases (show i = 0 ∨ i = 1 ∨ i = 2 by omega) with rfl | rfl | rfl
    · obtain ⟨k0, k1, k2, k3, k4, k5⟩ := H0.out.gr HG.out
      simp only at k0 k1 k2 k3 k4 k5
      go_wp2_with fail
      clear k0 k1 k2 k3 k4 k5
      refine (HF.out 0 0 5 0 0 false _ HG.out).mono ?_
      rintro e w2 ⟨rfl, hg⟩
      have HG2 := Lib.hid (HG.out.trans hg)
      clear hg HG
      go_wp2_with fail
      go_roundw
      case rel => exact ⟨1, by omega, by go_num, HG2⟩
      case measure => simp [intOf]
    · obtain ⟨k0, k1, k2, k3, k4, k5⟩ := H1.out.gr HG.out
      simp only at k0 k1 k2 k3 k4 k5
      go_wp2_with fail
      clear k0 k1 k2 k3 k4 k5
      refine (HF.out 0 1 7 0 0 false _ HG.out).mono ?_
      rintro e w2 ⟨rfl, hg⟩
      have HG2 := Lib.hid (HG.out.trans hg)
      clear hg HG
      go_wp2_with fail
      go_roundw
      case rel => exact ⟨2, by omega, by go_num, HG2⟩
      case measure => simp [intOf]
    · obtain ⟨k0, k1, k2, k3, k4, k5⟩ := H2.out.gr HG.out
      simp only at k0 k1 k2 k3 k4 k5
      go_wp2_with fail
      clear k0 k1 k2 k3 k4 k5
      refine (HF.out 1 1 0 0 0 true _ HG.out).mono ?_
      rintro e w2 ⟨rfl, hg⟩
      have HG2 := Lib.hid (HG.out.trans hg)
      clear hg HG
      go_wp2_with fail
      go_ret
      exact ⟨rfl, HG2.out⟩
set_option maxRecDepth 100000 in
set_option maxHeartbeats 2000000 in
theorem value_fix (v1 v2 : Value) (w : World) (hd : DocIn v1 v2 lnA ceA w) :
    Calls Tryz.prog 17 #[.agg #[v1, v2, .int .i64 0, .string ⟨#[]⟩], .int .i64 1, .int .i64 1] w fun e w' => e = .returned (.tuple #[.int .i64 12, .bool true]) ∧ Gr w w' := by
  have HV : Hid (∀ y, Gr w y → Calls Tryz.prog 20 #[.agg #[v1, v2, .int .i64 0, .string ⟨#[]⟩]] y fun e w' => e = .returned (.bool true) ∧ Gr y w') := Lib.hid (fun y hg => by
    have := validC_any v1 v2 lnA ceA 0 ⟨#[]⟩ y ⟨hd.1.gr hg, hd.2.gr hg⟩ (by decide) (by decide) (by decide) (by decide)
    rw [docA_valid] at this; exact this)
  obtain ⟨p1, c1, rfl⟩ := hd.1.shape
  obtain ⟨g, o, c, rfl, hc, h0, h1, h2⟩ := ceA_parts hd.2
  have HI := Lib.hid (fun (b4 b5 : Nat) (y : World) (hg : Gr w y) (h4 : y.cell? ⟨b4, 0, none⟩ = some (.int .i64 1)) (h5 : y.cell? ⟨b5, 0, none⟩ = some (.int .i64 1)) => idx_fix g o c b4 b5 y h4 h5 (h0.gr hg) (h1.gr hg) (h2.gr hg))
  have HVs := Lib.hid (fun (y : World) (hg : Gr w y) => values_fix (.slice p1 lnA.length c1) g o c 0 ⟨#[]⟩ y hc (h0.gr hg) (h1.gr hg) (h2.gr hg))
  clear hd h0 h1 h2 hc
  go_enter Tryz.func17, Tryz.ntmps17
  go_upto_region 1 with fail
  refine wp_gen (F := fun z => Gr w z ∧ z.heap[w.heap.size]? = some (.cells #[.slice p1 lnA.length c1, .slice (some ⟨g, o, none⟩) 3 c, .int .i64 0, .string ⟨#[]⟩] 35 (0, 0)) ∧ z.heap[w.heap.size + 1]? = some (.cells #[.int .i64 1] 3 (0, 0)) ∧ z.heap[w.heap.size + 1 + 1]? = some (.cells #[.int .i64 1] 3 (0, 0))) ?_ ?_
  · refine ⟨((Gr.alloc _ _).trans (Gr.alloc _ _)).trans (Gr.alloc _ _), (Gr.alloc _ _).block ((Gr.alloc _ _).block (heap_alloc_new _ _)), (Gr.alloc _ _).block ?_, ?_⟩
    · have := heap_alloc_new (w.alloc (.cells #[.slice p1 lnA.length c1, .slice (some ⟨g, o, none⟩) 3 c, .int .i64 0, .string ⟨#[]⟩] 35)) (.cells #[.int .i64 1] 3)
      rw [World.size_alloc] at this; exact this
    · have := heap_alloc_new ((w.alloc (.cells #[.slice p1 lnA.length c1, .slice (some ⟨g, o, none⟩) 3 c, .int .i64 0, .string ⟨#[]⟩] 35)).alloc (.cells #[.int .i64 1] 3)) (.cells #[.int .i64 1] 3)
      rw [World.size_alloc, World.size_alloc] at this; exact this
  rintro w1 ⟨hg1, hr3, hr4, hr5⟩
  obtain ⟨b3, hb3⟩ : ∃ z, w.heap.size = z := ⟨_, rfl⟩
  rw [hb3] at hr3 hr4 hr5
  simp only [hb3]
  obtain ⟨b4, hb4⟩ : ∃ z, b3 + 1 = z := ⟨_, rfl⟩
  rw [hb4] at hr4 hr5
  simp only [hb4]
  obtain ⟨b5, hb5⟩ : ∃ z, b4 + 1 = z := ⟨_, rfl⟩
  rw [hb5] at hr5
  simp only [hb5]
  have HG1 := Lib.hid hg1
  have HR3 := Lib.hid hr3
  have HR4 := Lib.hid hr4
  have HR5 := Lib.hid hr5
  clear hg1 hr3 hr4 hr5 hb3 hb4 hb5
  obtain ⟨k0, k1, k2, k3⟩ := row4 HR3.out
  go_wp2_with fail
  clear k0 k1 k2 k3
  refine (HI.out b4 b5 w1 HG1.out (cell_of_row _ _ _ _ _ _ HR4.out) (cell_of_row _ _ _ _ _ _ HR5.out)).mono ?_
  rintro e w2 ⟨rfl, hg⟩
  have HG2 := Lib.hid (HG1.out.trans hg)
  have HR2 := Lib.hid (hg.block HR3.out)
  clear hg HG1 HR3 HR4 HR5 HI
  obtain ⟨k0, k1, k2, k3⟩ := row4 HR2.out
  go_wp2_with fail
  clear k0 k1 k2 k3
  refine (HV.out w2 HG2.out).mono ?_
  rintro e w3 ⟨rfl, hg⟩
  have HG3 := Lib.hid (HG2.out.trans hg)
  have HR3 := Lib.hid (hg.block HR2.out)
  clear hg HG2 HR2 HV
  obtain ⟨k0, k1, k2, k3⟩ := row4 HR3.out
  go_wp2_with fail
  clear k0 k1 k2 k3
  refine (HVs.out w3 HG3.out).mono ?_
  rintro e w4 ⟨v, rfl, ho, hg⟩
  obtain ⟨gv, ov, cv, rfl, -, -, -⟩ := ho.shape (by decide)
  have q : w4.cell? ⟨gv, ov + 2, none⟩ = some (.int .i64 12) := Own.cell ho 2 _ rfl
  have HG4 := Lib.hid (HG3.out.trans hg)
  clear hg ho HG3 HR3 HVs
  go_wp2_with fail
  go_ret2
  exact ⟨rfl, HG4.out⟩
end Go.Proofs.YtaoggehdkddgeaaGreatDoor
end
