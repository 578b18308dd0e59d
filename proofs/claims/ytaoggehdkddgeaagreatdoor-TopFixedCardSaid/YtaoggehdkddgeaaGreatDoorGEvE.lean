/- Package evidence: Check, of a first stamp. -/
import Derived.Test.YtaoggehdkddgeaaGreatDoorGEvA
section
namespace Go.Proofs.YtaoggehdkddgeaaGreatDoor
open Go Go.RowKit Go.Shelf
attribute [local go_sem] gAt gUpon hUpon
attribute [local simp] Gr.refl Gr.alloc

/-- one stamp in memory -/
def St1 (g o d : Nat) (V : ByteArray) (w : World) : Prop := w.cell? ⟨g, o, none⟩ = some (.int .i64 (d : Int)) ∧ w.cell? ⟨g, o + 1, none⟩ = some (.int .i64 1) ∧ w.cell? ⟨g, o + 2, none⟩ = some (.int .i64 7) ∧ w.cell? ⟨g, o + 3, none⟩ = some (.string V)
theorem St1.gr {g o d : Nat} {V : ByteArray} {w x : World} (h : St1 g o d V w) (hg : Gr w x) : St1 g o d V x := ⟨hg.cell h.1, hg.cell h.2.1, hg.cell h.2.2.1, hg.cell h.2.2.2⟩
theorem own_st {B d : Nat} {V : ByteArray} {v : Value} {w : World} (h : Own B 4 v 1 (stC2 d V) w) : ∃ g o c, v = .slice (some ⟨g, o, none⟩) 1 c ∧ 1 ≤ c ∧ c ≤ maxLen ∧ St1 g o d V w := by
  rcases h.2 with ⟨_, h0⟩ | ⟨g, o, c, hv, _, h2, h3, hc, _⟩
  · omega
  · refine ⟨g, o, c, hv, h2, h3, ?_⟩
    exact ⟨by simpa using hc 0 _ rfl, hc 1 _ rfl, hc 2 _ rfl, hc 3 _ rfl⟩
set_option maxRecDepth 100000 in
theorem wrong_any (d : Nat) (V : ByteArray) (w : World) (hd : d ≤ 100000) (hV : V.size = 32) :
    Calls Tryz.prog 84 #[.agg #[.int .i64 (d : Int), .int .i64 1, .int .i64 7, .string V]] w fun e w' => e = .returned (.bool false) ∧ Gr w w' := by
  have HV := Lib.hid (fun y => stampValid d hd V y)
  have hv : ((V.size : Int) != 32) = false := by rw [hV]; rfl
  have hv2 : (V.size : Int) = 32 := by rw [hV]; rfl
  clear hd hV
  go_enter Tryz.func84, Tryz.ntmps84
  go_upto_region 1 with fail
  refine wp_gen (F := fun z => Gr w z ∧ z.heap[w.heap.size]? = some (.cells #[.int .i64 (d : Int), .int .i64 1, .int .i64 7, .string V] 85 (0, 0))) ⟨Gr.alloc _ _, heap_alloc_new _ _⟩ ?_
  rintro w1 ⟨hg1, hr1⟩
  obtain ⟨k0, k1, k2, k3⟩ := row4 hr1
  have HR1 := Lib.hid hr1
  have HG1 := Lib.hid hg1
  clear hg1 hr1
  generalize w.heap.size = b at k0 k1 k2 k3 HR1 ⊢
  go_wp2_with fail
  clear k0 k1 k2 k3
  refine (HV.out _).mono ?_
  rintro e w2 ⟨rfl, hg⟩
  obtain ⟨k0, k1, k2, k3⟩ := row4 (hg.block HR1.out)
  have HG2 := Lib.hid (HG1.out.trans hg)
  clear hg HG1 HR1
  go_wp2_with fail
  go_ret
  exact ⟨by simp, HG2.out⟩
set_option maxRecDepth 100000 in
set_option maxHeartbeats 1000000 in
theorem idx_wrong (g o c d : Nat) (V : ByteArray) (w : World) (hd : d ≤ 100000) (hV : V.size = 32) (h : St1 g o d V w) :
    Calls Tryz.prog 39 #[.slice (some ⟨g, o, none⟩) 1 c, .func (.func 84) #[] #[]] w fun e w' => e = .returned (.int .i64 (-1)) ∧ Gr w w' := by
  have HF := Lib.hid (fun y => wrong_any d V y hd hV)
  have HS := Lib.hid h
  clear h hd hV
  go_enter Tryz.func39, Tryz.ntmps39
  go_wp2_with fail
  go_loopw [5, 8] (fun _ v8 W => ∃ i : Nat, i ≤ 1 ∧ v8 = .int .i64 (i : Int) ∧ Hid (Gr w W)) (fun _ v8 _ => 1 - (intOf v8).toNat)
  case atStart => exact ⟨0, by omega, rfl, Lib.hid (Gr.refl _)⟩
  case round =>
    obtain ⟨i, hi, rfl, HG⟩ := hrel
    rcases (show i = 0 ∨ i = 1 by omega) with rfl | rfl
    · obtain ⟨k0, k1, k2, k3⟩ := HS.out.gr HG.out
      go_wp2_with fail
      clear k0 k1 k2 k3
      refine (HF.out _).mono ?_
      rintro e w2 ⟨rfl, hg⟩
      have HG2 := Lib.hid (HG.out.trans hg)
      clear hg HG
      go_wp2_with fail
      go_roundw
      case rel => exact ⟨1, by omega, by go_num, HG2⟩
      case measure => simp [intOf]
    · go_wp2_with fail
      go_ret
      exact ⟨rfl, HG.out⟩
theorem contains_wrong (g o c d : Nat) (V : ByteArray) (w : World) (hd : d ≤ 100000) (hV : V.size = 32) (h : St1 g o d V w) :
    Calls Tryz.prog 86 #[.slice (some ⟨g, o, none⟩) 1 c, .func (.func 84) #[] #[]] w fun e w' => e = .returned (.bool false) ∧ Gr w w' := by
  have HI := Lib.hid (idx_wrong g o c d V w hd hV h)
  clear h hd hV
  go_enter Tryz.func86, Tryz.ntmps86
  go_wp2_with fail
  refine HI.out.mono ?_
  rintro e w2 ⟨rfl, hg⟩
  have HG := Lib.hid hg
  clear hg HI
  go_wp2_with fail
  go_ret
  exact ⟨rfl, HG.out⟩
theorem sorted_one (g o c : Nat) (f : Value) (w : World) :
    Calls Tryz.prog 87 #[.slice (some ⟨g, o, none⟩) 1 c, f] w fun e w' => e = .returned (.bool true) ∧ Gr w w' := by
  go_enter Tryz.func87, Tryz.ntmps87
  go_wp2_with fail
  go_loopw [5] (fun v5 W => v5 = .int .i64 0 ∧ Hid (Gr w W)) (fun _ _ => 0)
  case atStart => exact ⟨rfl, Lib.hid (Gr.refl _)⟩
  case round =>
    obtain ⟨rfl, HG⟩ := hrel
    go_wp2_with fail
    go_ret
    exact ⟨rfl, HG.out⟩
theorem firstE_size (s : ByteArray) (d : Nat) : (firstE s d).size = 32 := sha_size _
set_option maxRecDepth 100000 in
set_option maxHeartbeats 2000000 in
theorem checkE_any (g o c d : Nat) (V s : ByteArray) (w : World) (hd : d ≤ 100000) (hs : s.size ≤ 65536) (hV : firstE s d = V) (h : St1 g o d V w) (hT : Tab w) :
    Calls Tryz.prog 38 #[.slice (some ⟨g, o, none⟩) 1 c, .string s] w fun e w' => e = .returned (.bool true) ∧ Gr w w' := by
  have hVs : V.size = 32 := by rw [← hV]; exact firstE_size s d
  have H1 := Lib.hid (fun y => withinE_true (n := 1) (lo := 1) (hi := 64) ⟨by decide, by decide⟩ y)
  have H2 := Lib.hid (fun y (hg : Gr w y) => contains_wrong g o c d V y hd hVs (h.gr hg))
  have H3 := Lib.hid (fun y => sorted_one g o c (.func (.func 83) #[] #[]) y)
  have H4 := Lib.hid (fun y => newScroll_any s y hs)
  have HFst : Hid (valE (putD s).data.toList d = V) := Lib.hid hV
  have hz := numB_size s.size
  have HL : Hid ((putD s).data.toList.length ≤ 1000000) := Lib.hid (by
    rw [Array.length_toList]
    show (putD s).size ≤ _
    unfold putD
    rw [ByteArray.size_append]; omega)
  have HNe := Lib.hid (putD_ne s)
  have HSt := Lib.hid h
  have HT := Lib.hid hT
  have HVs := Lib.hid hVs
  have hs1 : decide ((65536 : Int) < (s.size : Int)) = false := decide_eq_false (by omega)
  have hs2 : decide (65536 < s.size) = false := decide_eq_false (by omega)
  obtain ⟨LP, hLP⟩ : ∃ z, (putD s).data.toList = z := ⟨_, rfl⟩
  rw [hLP] at HFst HL HNe H4
  clear hV h hT hVs hz hLP
  go_enter Tryz.func38, Tryz.ntmps38
  go_wp2_with fail
  refine (H1.out _).mono ?_
  rintro e w' ⟨rfl, rfl⟩
  go_wp2_with fail
  clear hs1 hs2
  refine (H2.out w (Gr.refl _)).mono ?_
  rintro e w1 ⟨rfl, hg1⟩
  go_wp2_with fail
  refine (H3.out _).mono ?_
  rintro e w2 ⟨rfl, hg2⟩
  have HG2 := Lib.hid (hg1.trans hg2)
  clear hg1 hg2 H1 H2 H3
  go_wp2_with fail
  refine (H4.out _).mono ?_
  rintro e w3 ⟨b, rfl, hbl, hs3, hg3⟩
  have HG3 := Lib.hid (HG2.out.trans hg3)
  have HB3 := Lib.hid hs3
  have Hg23 := Lib.hid hg3
  have Hw2 := Lib.hid HG2.out.size
  have HT2 := Lib.hid (HT.out.gr HG2.out)
  clear hbl hs3 hg3 H4
  go_wp2_with fail
  go_loopw [9, 34] (fun _ v34 W => ∃ i : Nat, i ≤ 1 ∧ v34 = .int .i64 (i : Int) ∧ Hid (Gr w W) ∧ Hid (i = 0 → Gr w2 W ∧ Scr (fun k => k < w2.heap.size) b LP W)) (fun _ v34 _ => 1 - (intOf v34).toNat)
  case atStart => exact ⟨0, by omega, rfl, HG3, Lib.hid (fun _ => ⟨Hg23.out, HB3.out⟩)⟩
  clear HG3 HB3 Hg23
  case round =>
    obtain ⟨i, hi, rfl, HG, HC⟩ := hrel
    rcases (show i = 0 ∨ i = 1 by omega) with rfl | rfl
    · obtain ⟨hg2r, hB⟩ := HC.out rfl
      have HB := Lib.hid hB
      have HG2r := Lib.hid hg2r
      obtain ⟨k0, k1, k2, k3⟩ := HSt.out.gr HG.out
      clear hg2r hB HC
      go_upto_region 9 with fail
      clear k0 k1 k2 k3
      have hra := heap_alloc_new wr (.cells #[.int .i64 (d : Int), .int .i64 1, .int .i64 7, .string V] 85)
      have hga := Gr.alloc wr (.cells #[.int .i64 (d : Int), .int .i64 1, .int .i64 7, .string V] 85)
      obtain ⟨b9, hb9⟩ : ∃ z, wr.heap.size = z := ⟨_, rfl⟩
      have hsz : (wr.alloc (.cells #[.int .i64 (d : Int), .int .i64 1, .int .i64 7, .string V] 85)).heap.size = b9 + 1 := by rw [World.size_alloc, hb9]
      have HBa : Hid (Scr (fun k => k < w2.heap.size ∨ k = b9) b LP (wr.alloc (.cells #[.int .i64 (d : Int), .int .i64 1, .int .i64 7, .string V] 85))) := Lib.hid (HB.out.add hga (fun k hk => hk.imp id (fun e => ⟨by omega, by omega⟩)))
      rw [hb9] at hra
      simp only [hb9]
      have HGa := Lib.hid (HG.out.trans hga)
      have HG2a := Lib.hid (HG2r.out.trans hga)
      have HRa := Lib.hid hra
      clear hra hga hb9 hsz HB HG HG2r
      generalize wr.alloc (.cells #[.int .i64 (d : Int), .int .i64 1, .int .i64 7, .string V] 85) = wa at HBa HGa HG2a HRa ⊢
      have hkd := row4 ((Gr.drew wa).block HRa.out)
      have HBd := Lib.hid (HBa.out.gr (Gr.drew wa))
      have HRd := Lib.hid ((Gr.drew wa).block HRa.out)
      have HGd := Lib.hid (HGa.out.trans (Gr.drew wa))
      have HG2d := Lib.hid (HG2a.out.trans (Gr.drew wa))
      have HTK : Hid (∀ (z : World), Gr w2 z → ∀ y, Kpt (fun k => k < w2.heap.size ∨ k = b9) z y → Tab y) := Lib.hid (fun z hz y hy => HT2.out.gr (Kpt.step hz (hy.sub (K' := fun k => k < w2.heap.size) (fun k hk => .inl hk)) (Nat.le_refl _)))
      refine wp_region_noPanic ?_
      refine wp_region_held_drew (S := (fun y : World => y.cell? ⟨b9, 0, none⟩ = some (.int .i64 (d : Int)) ∧ y.cell? ⟨b9, 1, none⟩ = some (.int .i64 1) ∧ y.cell? ⟨b9, 2, none⟩ = some (.int .i64 7) ∧ y.cell? ⟨b9, 3, none⟩ = some (.string V))) (by kernel_rfl) hkd (fun hHeld => ?_)
      refine held_take 0 (v := ?_) rfl rfl (by kernel_rfl) (by kernel_rfl) (by kernel_rfl) (fun _ _ _ h => h) (by rfl) ?_ (by assumption) ?_
      rotate_left
      · (intro w hSw; (try dsimp only at hSw); go_simp; try with_reducible rfl)
      try simp only [Act.put, List.setIfInBounds_toArray, List.set_cons_zero, List.set_cons_succ]
      refine held_take 1 (v := ?_) rfl rfl (by kernel_rfl) (by kernel_rfl) (by kernel_rfl) (fun _ _ _ h => h) (by rfl) ?_ (by assumption) ?_
      rotate_left
      · (intro w hSw; (try dsimp only at hSw); go_simp; try with_reducible rfl)
      try simp only [Act.put, List.setIfInBounds_toArray, List.set_cons_zero, List.set_cons_succ]
      refine held_take 2 (v := ?_) rfl rfl (by kernel_rfl) (by kernel_rfl) (by kernel_rfl) (fun _ _ _ h => h) (by rfl) ?_ (by assumption) ?_
      rotate_left
      · (intro w hSw; (try dsimp only at hSw); go_simp; try with_reducible rfl)
      try simp only [Act.put, List.setIfInBounds_toArray, List.set_cons_zero, List.set_cons_succ]
      refine held_take 3 (v := ?_) rfl rfl (by kernel_rfl) (by kernel_rfl) (by kernel_rfl) (fun _ _ _ h => h) (by rfl) ?_ (by assumption) ?_
      rotate_left
      · (intro w hSw; (try dsimp only at hSw); go_simp; try with_reducible rfl)
      try simp only [Act.put, List.setIfInBounds_toArray, List.set_cons_zero, List.set_cons_succ]
      refine held_take 4 (v := ?_) rfl rfl (by kernel_rfl) (by kernel_rfl) (by kernel_rfl) (fun _ _ _ h => h) (by rfl) ?_ (by assumption) ?_
      rotate_left
      · (intro w hSw; (try dsimp only at hSw); go_simp; try with_reducible rfl)
      try simp only [Act.put, List.setIfInBounds_toArray, List.set_cons_zero, List.set_cons_succ]
      refine held_step 5 (by kernel_rfl) rfl rfl (by rfl) ?_
      go_simp
      refine (value_any _ b LP d V _ HBd.out HNe.out HL.out (by omega) (HTK.out _ HG2d.out)).mono ?_
      rintro e wb ⟨rfl, hsb, hkb⟩
      have hkb2 := hkb.sub (K' := fun k => k < w2.heap.size) (fun k hk => .inl hk)
      have HRb := Lib.hid (hkb.block (k := b9) (.inr rfl) HRd.out)
      have HBb := Lib.hid hsb
      have HGb := Lib.hid (Kpt.step HGd.out hkb2 Hw2.out)
      have HG2b := Lib.hid (Kpt.step HG2d.out hkb2 (Nat.le_refl _))
      rw [HFst.out]
      clear hsb hkb hkb2 hkd hHeld HBa HGa HG2a HRa HBd HRd HGd HG2d
      refine ⟨_, rfl, Thn.mk (row4 HRb.out) (fun hHeld => ?_)⟩
      try simp only [Act.put, List.setIfInBounds_toArray, List.set_cons_zero, List.set_cons_succ]
      refine held_take 6 (v := ?_) rfl rfl (by kernel_rfl) (by kernel_rfl) (by kernel_rfl) (fun _ _ _ h => h) (by rfl) ?_ (by assumption) ?_
      rotate_left
      · (intro w hSw; (try dsimp only at hSw); go_simp; try with_reducible rfl)
      try simp only [Act.put, List.setIfInBounds_toArray, List.set_cons_zero, List.set_cons_succ]
      refine wpAnyH_done (by kernel_rfl) ?_ _
      refine NoPanic.normal ?_
      clear hHeld
      obtain ⟨k0, k1, k2, k3⟩ := row4 HRb.out
      go_wp2_with fail
      clear k0 k1 k2 k3
      refine (numbers_scr _ b LP d V wb HBb.out (by omega) (by have := HL.out; omega)).mono ?_
      rintro e wc ⟨rfl, hsc, hkc⟩
      have hkc2 := hkc.sub (K' := fun k => k < w2.heap.size) (fun k hk => .inl hk)
      have HRc := Lib.hid (hkc.block (k := b9) (.inr rfl) HRb.out)
      have HBc := Lib.hid hsc
      have HGc := Lib.hid (Kpt.step HGb.out hkc2 Hw2.out)
      clear hsc hkc hkc2 HRb HBb HGb HG2b
      obtain ⟨k0, k1, k2, k3⟩ := row4 HRc.out
      go_wp2_with fail
      clear k0 k1 k2 k3
      refine (text_scr _ b _ V wc HBc.out (by have := HVs.out; omega) (by
        have h1 := HL.out
        have h2 := stmB_len d
        have h3 := HVs.out
        rw [List.length_append]; omega)).mono ?_
      rintro e wd ⟨rfl, -, hkd⟩
      have HGd := Lib.hid (Kpt.step HGc.out (hkd.sub (K' := fun k => k < w2.heap.size) (fun k hk => .inl hk)) Hw2.out)
      clear hkd HRc HBc HGc HTK
      go_wp2_with fail
      go_roundw
      case rel => exact ⟨1, by omega, by go_num, HGd, Lib.hid (fun h => by omega)⟩
      case measure => simp [intOf]
    · go_wp2_with fail
      go_ret
      exact ⟨rfl, HG.out⟩
end Go.Proofs.YtaoggehdkddgeaaGreatDoor
end
section
namespace Go.Proofs.YtaoggehdkddgeaaGreatDoor
open Go Go.RowKit Go.Shelf
attribute [local go_sem] gAt gUpon hUpon
attribute [local simp] Gr.refl Gr.alloc

/-- nothing is known to be broken -/
def TrustAt (b : Nat) (w : World) : Prop := ∀ j, j < 17 → w.cell? ⟨b, j, none⟩ = some (.slice none 0 0)
theorem TrustAt.gr {b : Nat} {w x : World} (h : TrustAt b w) (hg : Gr w x) : TrustAt b x := fun j hj => hg.cell (h j hj)
set_option maxRecDepth 100000 in
set_option maxHeartbeats 1000000 in
theorem newTrust_any (day : Int) (w : World) : Calls Tryz.prog 40 #[.slice none 0 0, .int .i64 day] w fun e w' => ∃ b, e = .returned (.pointer (some ⟨b, 0, none⟩)) ∧ w.heap.size ≤ b ∧ TrustAt b w' ∧ Gr w w' := by
  go_enter Tryz.func40, Tryz.ntmps40
  go_upto_region 2 with fail
  refine wp_gen (F := fun z => Gr w z ∧ TrustAt w.heap.size z) ⟨Gr.alloc _ _, fun j hj => ?_⟩ ?_
  · rw [cell_of_row _ _ _ _ _ _ (heap_alloc_new w _)]
    show (Array.replicate 17 (Value.slice none 0 0))[j]? = _
    rw [Array.getElem?_replicate, if_pos hj]
  rintro w1 ⟨hg1, ht1⟩
  have HG1 := Lib.hid hg1
  have HT1 := Lib.hid ht1
  clear hg1 ht1
  obtain ⟨b, hb⟩ : ∃ z, w.heap.size = z := ⟨_, rfl⟩
  have Hb : Hid (w.heap.size = b) := Lib.hid hb
  rw [hb] at HT1
  simp only [hb]
  clear hb
  go_wp2_with fail
  go_loopw [7, 12, 16, 21, 47] (fun _ v12 _ _ _ W => v12 = .int .i64 0 ∧ Hid (TrustAt b W) ∧ Hid (Gr w W)) (fun _ _ _ _ _ _ => 0)
  case atStart => exact ⟨rfl, HT1, HG1⟩
  clear HT1 HG1
  case round =>
    obtain ⟨rfl, HT1, HG1⟩ := hrel
    go_wp2_with fail
    go_ret
    exact ⟨b, rfl, by rw [Hb.out]; exact Nat.le_refl _, HT1.out, HG1.out⟩
theorem broken_nil (day : Int) (w : World) : Calls Tryz.prog 91 #[.slice none 0 0, .int .i64 day] w fun e w' => e = .returned (.bool false) ∧ w = w' := by
  go_enter Tryz.func91, Tryz.ntmps91
  go_wp2_with fail
  go_ret
  exact ⟨rfl, rfl⟩
set_option maxRecDepth 100000 in
theorem later_any (d : Nat) (day : Int) (V : ByteArray) (b : Nat) (w : World) (h : w.cell? ⟨b, 0, none⟩ = some (.int .i64 day)) (hle : (d : Int) ≤ day) :
    Calls Tryz.prog 37 #[.agg #[.int .i64 (d : Int), .int .i64 1, .int .i64 7, .string V], .pointer (some ⟨b, 0, none⟩)] w fun e w' => e = .returned (.bool false) ∧ Gr w w' := by
  have t1 : decide (day < (d : Int)) = false := decide_eq_false (by omega)
  have HB := Lib.hid h
  clear h hle
  go_enter Tryz.func37, Tryz.ntmps37
  go_upto_region 1 with fail
  refine wp_gen (F := fun z => Gr w z ∧ z.heap[w.heap.size]? = some (.cells #[.int .i64 (d : Int), .int .i64 1, .int .i64 7, .string V] 85 (0, 0))) ⟨Gr.alloc _ _, heap_alloc_new _ _⟩ ?_
  rintro w1 ⟨hg1, hr1⟩
  obtain ⟨k0, k1, k2, k3⟩ := row4 hr1
  have kb := hg1.cell HB.out
  have HG1 := Lib.hid hg1
  clear hg1 hr1
  generalize w.heap.size = b2 at k0 k1 k2 k3 ⊢
  go_wp2_with fail
  go_ret
  exact ⟨rfl, HG1.out⟩
set_option maxRecDepth 100000 in
set_option maxHeartbeats 1000000 in
theorem idx_later (g o c d : Nat) (day : Int) (V : ByteArray) (b : Nat) (w : World) (hb : w.cell? ⟨b, 0, none⟩ = some (.int .i64 day)) (hle : (d : Int) ≤ day) (h : St1 g o d V w) :
    Calls Tryz.prog 39 #[.slice (some ⟨g, o, none⟩) 1 c, .func (.func 37) #[] #[.pointer (some ⟨b, 0, none⟩)]] w fun e w' => e = .returned (.int .i64 (-1)) ∧ Gr w w' := by
  have HF := Lib.hid (fun y (hg : Gr w y) => later_any d day V b y (hg.cell hb) hle)
  have HS := Lib.hid h
  clear h hb hle
  go_enter Tryz.func39, Tryz.ntmps39
  go_wp2_with fail
  go_loopw [5, 8] (fun _ v8 W => ∃ i : Nat, i ≤ 1 ∧ v8 = .int .i64 (i : Int) ∧ Hid (Gr w W)) (fun _ v8 _ => 1 - (intOf v8).toNat)
  case atStart => exact ⟨0, by omega, rfl, Lib.hid (Gr.refl _)⟩
  case round =>
    obtain ⟨i, hi, rfl, HG⟩ := hrel
    rcases (show i = 0 ∨ i = 1 by omega) with rfl | rfl
    · obtain ⟨k0, k1, k2, k3⟩ := HS.out.gr HG.out
      go_wp2_with fail
      clear k0 k1 k2 k3
      refine (HF.out _ HG.out).mono ?_
      rintro e w2 ⟨rfl, hg⟩
      have HG2 := Lib.hid (HG.out.trans hg)
      clear hg HG
      go_wp2_with fail
      go_roundw
      case rel => exact ⟨1, by omega, by go_num, HG2⟩
      case measure => simp [intOf]
    · go_wp2_with fail
      go_ret
      exact ⟨rfl, HG.out⟩
set_option maxRecDepth 100000 in
set_option maxHeartbeats 2000000 in
theorem good_any (bt d : Nat) (day : Int) (V : ByteArray) (w : World) (hd : d ≤ 100000) (hT : TrustAt bt w) :
    Calls Tryz.prog 42 #[.pointer (some ⟨bt, 0, none⟩), .agg #[.int .i64 (d : Int), .int .i64 1, .int .i64 7, .string V], .int .i64 day] w fun e w' => e = .returned (.bool true) ∧ Gr w w' := by
  have HV := Lib.hid (fun y => stampValid d hd V y)
  have HBk := Lib.hid (fun y => broken_nil day y)
  have HT := Lib.hid hT
  clear hd hT
  go_enter Tryz.func42, Tryz.ntmps42
  go_upto_region 1 with fail
  refine wp_gen (F := fun z => Gr w z ∧ z.heap[w.heap.size]? = some (.cells #[.int .i64 (d : Int), .int .i64 1, .int .i64 7, .string V] 85 (0, 0))) ⟨Gr.alloc _ _, heap_alloc_new _ _⟩ ?_
  rintro w1 ⟨hg1, hr1⟩
  have HG1 := Lib.hid hg1
  have HR1 := Lib.hid hr1
  clear hg1 hr1
  obtain ⟨b4, hb4⟩ : ∃ z, w.heap.size = z := ⟨_, rfl⟩
  rw [hb4] at HR1
  simp only [hb4]
  clear hb4
  have S0 : ∀ q : GrS w1.drew, q.w.cell? ⟨b4, 0, none⟩ = some (.int .i64 (d : Int)) := fun q => q.h.cell (w := w1.drew) (row4 HR1.out).1
  have S1 : ∀ q : GrS w1.drew, q.w.cell? ⟨b4, 1, none⟩ = some (.int .i64 1) := fun q => q.h.cell (w := w1.drew) (row4 HR1.out).2.1
  have S2 : ∀ q : GrS w1.drew, q.w.cell? ⟨b4, 2, none⟩ = some (.int .i64 7) := fun q => q.h.cell (w := w1.drew) (row4 HR1.out).2.2.1
  have S3 : ∀ q : GrS w1.drew, q.w.cell? ⟨b4, 3, none⟩ = some (.string V) := fun q => q.h.cell (w := w1.drew) (row4 HR1.out).2.2.2
  have X1 : ∀ q : GrS w1.drew, q.w.cell? ⟨bt, 1, none⟩ = some (.slice none 0 0) := fun q => q.h.cell (w := w1.drew) (HT.out.gr HG1.out 1 (by decide))
  refine region_grow 15 50 (by kernel_rfl) rfl (by kernel_rfl) rfl rfl ?_
  simp only [List.take_succ_cons, List.take_zero, List.drop_succ_cons, List.drop_zero]
  refine seg 1 rfl rfl rfl rfl ?_
  simp only [List.take_succ_cons, List.take_zero, List.drop_succ_cons, List.drop_zero]
  repeat (go_big_quiet_step (fail))
  refine wpQuiet_nil ?_
  intro _
  refine grow_det (v := .agg #[.int .i64 (d : Int), .int .i64 1, .int .i64 7, .string V]) rfl rfl rfl rfl rfl ?_ ?_
  · intro w1 hG
    go_simp
  simp only [Act.put, List.setIfInBounds_toArray, List.set_cons_zero, List.set_cons_succ]
  refine grow_det (v := .bool true) rfl rfl rfl rfl rfl ?_ ?_
  · intro w1 hG
    go_simp
    refine (HV.out w1).mono ?_
    rintro e w' ⟨rfl, hb⟩
    exact ⟨rfl, hb⟩
  simp only [Act.put, List.setIfInBounds_toArray, List.set_cons_zero, List.set_cons_succ]
  refine seg 2 rfl rfl rfl rfl ?_
  simp only [List.take_succ_cons, List.take_zero, List.drop_succ_cons, List.drop_zero]
  repeat (go_big_quiet_step (fail))
  refine wpQuiet_nil ?_
  intro _
  refine seg 8 rfl rfl rfl rfl ?_
  simp only [List.take_succ_cons, List.take_zero, List.drop_succ_cons, List.drop_zero]
  repeat (go_big_quiet_step (fail))
  refine wpQuiet_nil ?_
  intro _
  refine grow_det (v := .bool false) rfl rfl rfl rfl rfl ?_ ?_
  · intro w1 hG
    go_simp
    refine (HBk.out w1).mono ?_
    rintro e w' ⟨rfl, rfl⟩
    exact ⟨rfl, Gr.refl _⟩
  simp only [Act.put, List.setIfInBounds_toArray, List.set_cons_zero, List.set_cons_succ]
  refine seg 1 rfl rfl rfl rfl ?_
  simp only [List.take_succ_cons, List.take_zero, List.drop_succ_cons, List.drop_zero]
  repeat (go_big_quiet_step (fail))
  refine wpQuiet_nil ?_
  intro _
  refine grow_end0 rfl rfl ?_
  intro w2 hG
  have HG2 := Lib.hid (HG1.out.trans ((Gr.drew w1).trans hG))
  have HR2 := Lib.hid (((Gr.drew w1).trans hG).block HR1.out)
  clear hG HG1 HR1 S0 S1 S2 S3 X1 HV
  go_wp2_with fail
  go_loopw [7, 8] (fun v7 v8 W => ∃ i : Nat, 1 ≤ i ∧ i ≤ 9 ∧ v8 = .int .i64 (i : Int) ∧ v7 = .int .i64 ((min (i - 1) 3 : Nat) : Int) ∧ Hid (Gr w W) ∧ Hid (Gr w2 W)) (fun _ v8 _ => 9 - (intOf v8).toNat)
  case atStart => exact ⟨1, by omega, by omega, rfl, rfl, HG2, Lib.hid (Gr.refl _)⟩
  case round =>
    obtain ⟨i, hi0, hi, rfl, rfl, HG, HGr⟩ := hrel
    rcases (show i = 1 ∨ i = 2 ∨ i = 3 ∨ i = 4 ∨ i = 5 ∨ i = 6 ∨ i = 7 ∨ i = 8 ∨ i = 9 by omega) with rfl | rfl | rfl | rfl | rfl | rfl | rfl | rfl | rfl
    · obtain ⟨k0, k1, k2, k3⟩ := row4 (HGr.out.block HR2.out)
      have kt := HT.out.gr HG.out 9 (by decide)
      go_wp2_with fail
      refine (HBk.out _).mono ?_
      rintro e w' ⟨rfl, rfl⟩
      clear k0 k1 k2 k3 kt
      go_wp2_with fail
      go_roundw
      case rel => exact ⟨2, by omega, by omega, by go_num, by go_num, HG, HGr⟩
      case measure => simp [intOf]
    · obtain ⟨k0, k1, k2, k3⟩ := row4 (HGr.out.block HR2.out)
      have kt := HT.out.gr HG.out 10 (by decide)
      go_wp2_with fail
      refine (HBk.out _).mono ?_
      rintro e w' ⟨rfl, rfl⟩
      clear k0 k1 k2 k3 kt
      go_wp2_with fail
      go_roundw
      case rel => exact ⟨3, by omega, by omega, by go_num, by go_num, HG, HGr⟩
      case measure => simp [intOf]
    · obtain ⟨k0, k1, k2, k3⟩ := row4 (HGr.out.block HR2.out)
      have kt := HT.out.gr HG.out 11 (by decide)
      go_wp2_with fail
      refine (HBk.out _).mono ?_
      rintro e w' ⟨rfl, rfl⟩
      clear k0 k1 k2 k3 kt
      go_wp2_with fail
      go_roundw
      case rel => exact ⟨4, by omega, by omega, by go_num, by go_num, HG, HGr⟩
      case measure => simp [intOf]
    · obtain ⟨k0, k1, k2, k3⟩ := row4 (HGr.out.block HR2.out)
      go_wp2_with fail
      clear k0 k1 k2 k3
      go_roundw
      case rel => exact ⟨5, by omega, by omega, by go_num, by go_num, HG, HGr⟩
      case measure => simp [intOf]
    · obtain ⟨k0, k1, k2, k3⟩ := row4 (HGr.out.block HR2.out)
      go_wp2_with fail
      clear k0 k1 k2 k3
      go_roundw
      case rel => exact ⟨6, by omega, by omega, by go_num, by go_num, HG, HGr⟩
      case measure => simp [intOf]
    · obtain ⟨k0, k1, k2, k3⟩ := row4 (HGr.out.block HR2.out)
      go_wp2_with fail
      clear k0 k1 k2 k3
      go_roundw
      case rel => exact ⟨7, by omega, by omega, by go_num, by go_num, HG, HGr⟩
      case measure => simp [intOf]
    · obtain ⟨k0, k1, k2, k3⟩ := row4 (HGr.out.block HR2.out)
      go_wp2_with fail
      clear k0 k1 k2 k3
      go_roundw
      case rel => exact ⟨8, by omega, by omega, by go_num, by go_num, HG, HGr⟩
      case measure => simp [intOf]
    · obtain ⟨k0, k1, k2, k3⟩ := row4 (HGr.out.block HR2.out)
      go_wp2_with fail
      clear k0 k1 k2 k3
      go_roundw
      case rel => exact ⟨9, by omega, by omega, by go_num, by go_num, HG, HGr⟩
      case measure => simp [intOf]
    · go_wp2_with fail
      go_ret
      exact ⟨rfl, HG.out⟩
end Go.Proofs.YtaoggehdkddgeaaGreatDoor
end
