/- Package abstraction: Apply at the fixed example. -/
import Derived.Test.YtaoggehdkddgeaaGreatDoorGAbE
import Derived.Test.YtaoggehdkddgeaaGreatDoorGCnA
import Derived.Test.YtaoggehdkddgeaaGreatDoorGCnC
section
namespace Go.Proofs.YtaoggehdkddgeaaGreatDoor
open Go Go.RowKit Go.Shelf
attribute [local go_sem] gAt gUpon pUpon
attribute [local simp] Gr.refl Gr.alloc

/-- what lies in memory through Apply's rounds -/
def ApS (b6 b7 b8 b9 c1 g o c gs os : Nat) (w : World) (i : Nat) (W : World) : Prop := Gr w W ∧ W.heap[b6]? = some (.cells #[.string ⟨#[]⟩] 9 (0, 0)) ∧ W.heap[b7]? = some (.cells #[.int .i64 0] 29 (0, 0)) ∧
  W.heap[b8]? = some (.cells #[.bool false, .slice (some ⟨g, o, none⟩) 1 c, .int .i64 0, .int .i64 0, .string ⟨#[]⟩] 136 (0, 0)) ∧ StepAt gs os W ∧
  Own (b7 + 1) 2 (.slice (some ⟨g, o, none⟩) 1 c) 1 [.string (if i = 0 then tA else tB), .slice none 0 0] W ∧
  (i = 0 → W.cell? ⟨b9, 5, none⟩ = some (.func (.func 176) #[] #[.pointer (some ⟨c1, 0, none⟩)]) ∧ W.cell? ⟨c1, 0, none⟩ = some (.func (.func 122) #[] #[]) ∧ c1 ≠ g ∧ b8 ≠ g ∧ b9 ≠ g)
set_option maxRecDepth 100000 in
set_option maxHeartbeats 4000000 in
theorem applyA_any (gs os cs : Nat) (w : World) (h : StepAt gs os w) : Calls Tryz.prog 19 #[.int .i64 1, .slice (some ⟨gs, os, none⟩) 1 cs, .string sA] w fun e w' => e = .returned (.tuple #[.string rA, .int .i64 0]) ∧ Gr w w' := by
  have HS := Lib.hid h
  have HVa := Lib.hid (fun y hy => validA_any gs os cs y hy)
  have HM := Lib.hid (fun y => mustA_true y)
  have HRd := Lib.hid (fun y => readA_any y)
  have HKd := Lib.hid (fun y => kinds_any y)
  clear h
  go_enter_defers Tryz.func19, Tryz.ntmps19
  go_upto_region 2 with fail
  refine wp_gen (F := fun z => Gr w z ∧ z.heap[w.heap.size]? = some (.cells #[.string ⟨#[]⟩] 9 (0, 0)) ∧ z.heap[w.heap.size + 1]? = some (.cells #[.int .i64 0] 29 (0, 0))) ?_ ?_
  · refine ⟨(Gr.alloc _ _).trans (Gr.alloc _ _), (Gr.alloc _ _).block (heap_alloc_new _ _), ?_⟩
    have := heap_alloc_new (w.alloc (.cells #[.string ⟨#[]⟩] 9)) (.cells #[.int .i64 0] 29)
    rw [World.size_alloc] at this; exact this
  rintro w1 ⟨hg1, hr6, hr7⟩
  obtain ⟨b6, hb6⟩ : ∃ z, w.heap.size = z := ⟨_, rfl⟩
  rw [hb6] at hr6 hr7
  simp only [hb6]
  obtain ⟨b7, hb7⟩ : ∃ z, b6 + 1 = z := ⟨_, rfl⟩
  rw [hb7] at hr7
  simp only [hb7]
  have Hb : Hid (w.heap.size = b6 ∧ b6 + 1 = b7 ∧ b7 < w1.heap.size) := Lib.hid ⟨hb6, hb7, (Array.getElem?_eq_some_iff.1 hr7).1⟩
  have HG1 := Lib.hid hg1
  have HR6 := Lib.hid hr6
  have HR7 := Lib.hid hr7
  clear hg1 hr6 hr7 hb6 hb7
  go_wp2_with fail
  refine (HVa.out w1 (HS.out.gr HG1.out)).mono ?_
  rintro e w2 ⟨rfl, hg2⟩
  have HG2 := Lib.hid hg2
  clear hg2 HVa
  go_wp2_with fail
  refine (HM.out _).mono ?_
  rintro e w' ⟨rfl, rfl⟩
  go_wp2_with fail
  refine (HRd.out w2).mono ?_
  rintro e w3 ⟨v, rfl, hown, hg3⟩
  obtain ⟨g, o, c, rfl, -, -, -⟩ := hown.shape (by decide)
  have HOw3 : Hid (Own (b7 + 1) 2 (.slice (some ⟨g, o, none⟩) 1 c) 1 [.string tA, .slice none 0 0] w3) := Lib.hid (hown.mono (by have h1 := Hb.out.2.2; have h2 := HG2.out.size; omega))
  have HG3 := Lib.hid (HG2.out.trans hg3)
  clear hown hg3 HG2 HRd HM
  go_upto_region 4 with fail
  refine wp_gen (F := fun z => Gr w3 z ∧ z.heap[w3.heap.size]? = some (.cells #[.bool false, .slice (some ⟨g, o, none⟩) 1 c, .int .i64 0, .int .i64 0, .string ⟨#[]⟩] 136 (0, 0))) ⟨Gr.alloc _ _, heap_alloc_new _ _⟩ ?_
  rintro w4 ⟨hg4, hr8⟩
  obtain ⟨b8, hb8⟩ : ∃ z, w3.heap.size = z := ⟨_, rfl⟩
  have Hb8 : Hid (w3.heap.size = b8 ∧ b8 < w4.heap.size ∧ g < b8 ∧ b7 < g) := Lib.hid ⟨hb8, by rw [← hb8]; exact (Array.getElem?_eq_some_iff.1 hr8).1, by rw [← hb8]; exact (own_two HOw3.out (by decide)).2.2.2.2, (own_two HOw3.out (by decide)).2.2.2.1⟩
  rw [hb8] at hr8
  simp only [hb8]
  have HG4 := Lib.hid hg4
  have HR8 := Lib.hid hr8
  clear hg4 hr8 hb8
  go_wp2_with fail
  refine (HKd.out _).mono ?_
  rintro e w5 ⟨b1, c1, R, rfl, hR, hone, hk, hg5, hc1⟩
  have HR := Lib.hid hR
  have HOne := Lib.hid hone
  have HK := Lib.hid hk
  have HG5 := Lib.hid hg5
  have hlen : (kdL b1 c1 R).toArray.size = 21 := by simp [kdL, hR]
  have HLen := Lib.hid hlen
  have Hc1 := Lib.hid hc1
  clear hR hone hk hg5 HKd hlen hc1
  go_upto_region 5 with ((with_reducible show wpList _ _ _ (⟨none, .store 142 _ _, _, _, _, _⟩ :: _) _ _); refine wpList_store_mid rfl 142 (.tmp 9) (.tmp 19) rfl w5.heap.size 0 (kdL b1 c1 R).toArray rfl ?hy ?ht ?hi ?ho ?_)
  case hy => rfl
  case ht => rw [HLen.out]; exact there_row (heap_alloc_new _ _) 21 (Nat.le_refl _)
  case hi => rw [HLen.out]; exact info21 Tryz.prog rfl
  case ho => exact all_oneCell_toArray (kdL_one HOne.out)
  obtain ⟨wF, hwF⟩ : ∃ z, (w5.alloc (.cells #[Value.slice none 0 0, Value.nilFunc, Value.nilFunc, Value.slice none 0 0, Value.nilFunc, Value.nilFunc, Value.slice none 0 0, Value.nilFunc, Value.nilFunc, Value.slice none 0 0, Value.nilFunc, Value.nilFunc, Value.slice none 0 0, Value.nilFunc, Value.nilFunc, Value.slice none 0 0, Value.nilFunc, Value.nilFunc, Value.slice none 0 0, Value.nilFunc, Value.nilFunc] 142)).setCells w5.heap.size 0 (kdL b1 c1 R).toArray.toList = z := ⟨_, rfl⟩
  have hx := kds_store (w0 := w5) (b5 := w5.heap.size) HR.out rfl (heap_alloc_new w5 (.cells #[Value.slice none 0 0, Value.nilFunc, Value.nilFunc, Value.slice none 0 0, Value.nilFunc, Value.nilFunc, Value.slice none 0 0, Value.nilFunc, Value.nilFunc, Value.slice none 0 0, Value.nilFunc, Value.nilFunc, Value.slice none 0 0, Value.nilFunc, Value.nilFunc, Value.slice none 0 0, Value.nilFunc, Value.nilFunc, Value.slice none 0 0, Value.nilFunc, Value.nilFunc] 142)) (HK.out.gr (Gr.alloc _ _)) (Nat.le_refl _) ⟨Nat.ne_of_lt (World.block_lt_of_cell? _ _ HK.out.1), Nat.ne_of_lt (World.block_lt_of_cell? _ _ HK.out.2)⟩ (Gr.alloc _ _) hwF
  simp only [hwF]
  have hz9 : g < w5.heap.size := by
    have h8 := Hb8.out
    have h5 := HG5.out.size
    omega
  generalize w5.heap.size = b9 at hx hz9 ⊢
  have HFin : Hid (ApS b6 b7 b8 b9 c1 g o c gs os w 0 wF) := Lib.hid (by
    have e1 := HG4.out.trans (HG5.out.trans hx.1)
    have e2 := HG3.out.trans e1
    have e3 := HG1.out.trans e2
    have hc := Hc1.out
    have h8 := Hb8.out
    exact ⟨e3, e2.block HR6.out, e2.block HR7.out, (HG5.out.trans hx.1).block HR8.out, HS.out.gr e3, HOw3.out.gr e1, fun _ => ⟨hx.2.2.2.1, hx.2.2.2.2.2, by omega, by omega, by omega⟩⟩)
  clear hz9 hx hwF HR6 HR7 HR8 HK HG1 HG3 HG4 HG5 HOw3 HR HOne HLen Hc1
  go_wp2_with fail
  go_loopw [11, 22] (fun _ v22 W => ∃ i : Nat, i ≤ 1 ∧ v22 = .int .i64 (i : Int) ∧ Hid (ApS b6 b7 b8 b9 c1 g o c gs os w i W)) (fun _ v22 _ => 1 - (intOf v22).toNat)
  case atStart => exact ⟨0, by omega, rfl, HFin⟩
  clear HFin
  case round =>
    obtain ⟨i, hi, rfl, HG⟩ := hrel
    rcases (show i = 0 ∨ i = 1 by omega) with rfl | rfl
    · obtain ⟨k0, k1⟩ := HG.out.2.2.2.2.1
      have k0' : wr.cell? ⟨gs, os + 0, none⟩ = some (.int .i64 1) := k0
      go_upto_region 8 with fail
      clear k0 k0' k1
      refine wp_gen (F := fun z => Gr wr z ∧ z.heap[wr.heap.size]? = some (.cells #[.int .i64 1, .int .i64 0] 68 (0, 0))) ⟨Gr.alloc _ _, heap_alloc_new _ _⟩ ?_
      rintro w6 ⟨hg6, hr11⟩
      obtain ⟨b11, hb11⟩ : ∃ z, wr.heap.size = z := ⟨_, rfl⟩
      have Hb11 : Hid (wr.heap.size = b11 ∧ b11 < w6.heap.size) := Lib.hid ⟨hb11, by rw [← hb11]; exact (Array.getElem?_eq_some_iff.1 hr11).1⟩
      rw [hb11] at hr11
      simp only [hb11]
      have HR11 := Lib.hid hr11
      have HG6 := Lib.hid hg6
      clear hg6 hr11 hb11
      obtain ⟨hgw, hr6, hr7, hr8, hst, how, hki⟩ := HG.out
      obtain ⟨hk5, hkc, hn1, hn2, hn3⟩ := hki rfl
      have HGw := Lib.hid (hgw.trans HG6.out)
      have HR6 := Lib.hid (HG6.out.block hr6)
      have HR7 := Lib.hid (HG6.out.block hr7)
      have HR8 := Lib.hid (HG6.out.block hr8)
      have HSt := Lib.hid (hst.gr HG6.out)
      have HOw : Hid (Own (b7 + 1) 2 (.slice (some ⟨g, o, none⟩) 1 c) 1 [.string tA, .slice none 0 0] w6) := Lib.hid (how.gr HG6.out)
      have HK5 := Lib.hid (HG6.out.cell hk5)
      have HKc := Lib.hid (HG6.out.cell hkc)
      have HNe : Hid (c1 ≠ g ∧ b8 ≠ g ∧ b9 ≠ g ∧ b11 ≠ g) := Lib.hid ⟨hn1, hn2, hn3, by have := (own_two how (by decide)).2.2.2.2; have := Hb11.out.1; omega⟩
      clear hgw hr6 hr7 hr8 hst how hki hk5 hkc hn1 hn2 hn3 HG HG6
      obtain ⟨m0, m1, m2, m3, m4⟩ := row5c HR8.out
      go_upto_region 9 with fail
      clear m0 m1 m2 m3 m4
      have hS0 : (fun y : World => y.cell? ⟨b11, 0, none⟩ = some (.int .i64 1) ∧ y.cell? ⟨b11, 1, none⟩ = some (.int .i64 0) ∧ y.cell? ⟨b9, 5, none⟩ = some (.func (.func 176) #[] #[.pointer (some ⟨c1, 0, none⟩)]) ∧ y.cell? ⟨b11, 0, none⟩ = some (.int .i64 1)) w6.drew :=
        ⟨(Gr.drew w6).cell (row2c HR11.out).1, (Gr.drew w6).cell (row2c HR11.out).2, (Gr.drew w6).cell HK5.out, (Gr.drew w6).cell (row2c HR11.out).1⟩
      refine wp_region_noPanic ?_
      refine u_begin (fun y : World => y.cell? ⟨b11, 0, none⟩ = some (.int .i64 1) ∧ y.cell? ⟨b11, 1, none⟩ = some (.int .i64 0) ∧ y.cell? ⟨b9, 5, none⟩ = some (.func (.func 176) #[] #[.pointer (some ⟨c1, 0, none⟩)]) ∧ y.cell? ⟨b11, 0, none⟩ = some (.int .i64 1)) (fun _ => false) (by kernel_rfl) (by assumption) (fun hHeld => ?_)
      refine u_take 0 (v := ?_) rfl rfl (by kernel_rfl) (by kernel_rfl) (by kernel_rfl) (by kernel_rfl) (fun _ _ _ h => h) (by rfl) (by assumption) ?_ ?_
      rotate_left
      · (intro w hSw; obtain ⟨z0, z1, z2, z3⟩ := hSw; go_simp; try with_reducible rfl)
      try simp only [Act.put, List.setIfInBounds_toArray, List.set_cons_zero, List.set_cons_succ]
      refine u_take 1 (v := ?_) rfl rfl (by kernel_rfl) (by kernel_rfl) (by kernel_rfl) (by kernel_rfl) (fun _ _ _ h => h) (by rfl) (by assumption) ?_ ?_
      rotate_left
      · (intro w hSw; obtain ⟨z0, z1, z2, z3⟩ := hSw; go_simp; try with_reducible rfl)
      try simp only [Act.put, List.setIfInBounds_toArray, List.set_cons_zero, List.set_cons_succ]
      refine u_take 2 (v := ?_) rfl rfl (by kernel_rfl) (by kernel_rfl) (by kernel_rfl) (by kernel_rfl) (fun _ _ _ h => h) (by rfl) (by assumption) ?_ ?_
      rotate_left
      · (intro w hSw; obtain ⟨z0, z1, z2, z3⟩ := hSw; go_simp; try with_reducible rfl)
      try simp only [Act.put, List.setIfInBounds_toArray, List.set_cons_zero, List.set_cons_succ]
      refine u_take 3 (v := ?_) rfl rfl (by kernel_rfl) (by kernel_rfl) (by kernel_rfl) (by kernel_rfl) (fun _ _ _ h => h) (by rfl) (by assumption) ?_ ?_
      rotate_left
      · (intro w hSw; obtain ⟨z0, z1, z2, z3⟩ := hSw; go_simp; try with_reducible rfl)
      try simp only [Act.put, List.setIfInBounds_toArray, List.set_cons_zero, List.set_cons_succ]
      refine u_take 4 (v := ?_) rfl rfl (by kernel_rfl) (by kernel_rfl) (by kernel_rfl) (by kernel_rfl) (fun _ _ _ h => h) (by rfl) (by assumption) ?_ ?_
      rotate_left
      · (intro w hSw; obtain ⟨z0, z1, z2, z3⟩ := hSw; go_simp; try with_reducible rfl)
      try simp only [Act.put, List.setIfInBounds_toArray, List.set_cons_zero, List.set_cons_succ]
      refine u_take 5 (v := ?_) rfl rfl (by kernel_rfl) (by kernel_rfl) (by kernel_rfl) (by kernel_rfl) (fun _ _ _ h => h) (by rfl) (by assumption) ?_ ?_
      rotate_left
      · (intro w hSw; obtain ⟨z0, z1, z2, z3⟩ := hSw; go_simp; try with_reducible rfl)
      try simp only [Act.put, List.setIfInBounds_toArray, List.set_cons_zero, List.set_cons_succ]
      refine u_take 6 (v := ?_) rfl rfl (by kernel_rfl) (by kernel_rfl) (by kernel_rfl) (by kernel_rfl) (fun _ _ _ h => h) (by rfl) (by assumption) ?_ ?_
      rotate_left
      · (intro w hSw; obtain ⟨z0, z1, z2, z3⟩ := hSw; go_simp; try with_reducible rfl)
      try simp only [Act.put, List.setIfInBounds_toArray, List.set_cons_zero, List.set_cons_succ]
      refine u_step 7 (by kernel_rfl) rfl (by rfl) ?_
      go_simp
      have ht := own_two (HOw.out.gr (Gr.drew w6)) (by decide)
      refine (each1_any b8 g o c c1 w6.drew ((Gr.drew w6).cell (row5c HR8.out).2.1) ((Gr.drew w6).cell HKc.out) ht.1 ht.2.2.1 ⟨HNe.out.1, HNe.out.2.1⟩).mono ?_
      rintro e w' ⟨rfl, w7, hg, rfl⟩
      have hch : Chg (some g) w7 (w7.setCell ⟨g, o, none⟩ (.string tB)) := setCells_chg g [.string tB] o w7
      have hS1 : (fun y : World => y.cell? ⟨b11, 0, none⟩ = some (.int .i64 1) ∧ y.cell? ⟨b11, 1, none⟩ = some (.int .i64 0) ∧ y.cell? ⟨b9, 5, none⟩ = some (.func (.func 176) #[] #[.pointer (some ⟨c1, 0, none⟩)]) ∧ y.cell? ⟨b11, 0, none⟩ = some (.int .i64 1)) (w7.setCell ⟨g, o, none⟩ (.string tB)) := by
        have hn := HNe.out
        exact ⟨hch.cell (hg.cell hHeld.1) (by simp; exact hn.2.2.2), hch.cell (hg.cell hHeld.2.1) (by simp; exact hn.2.2.2), hch.cell (hg.cell hHeld.2.2.1) (by simp; exact hn.2.2.1), hch.cell (hg.cell hHeld.2.2.2) (by simp; exact hn.2.2.2)⟩
      refine .inl ⟨_, rfl, hS1, ?_⟩
      have hg7 := (Gr.drew w6).trans hg
      have HFin : Hid (ApS b6 b7 b8 b9 c1 g o c gs os w 1 (w7.setCell ⟨g, o, none⟩ (.string tB))) := Lib.hid (by
        have hB := Hb.out
        have hB8 := Hb8.out
        have hG7 := HGw.out.trans hg7
        have hgw := gr_step hG7 (Gr.refl _) hch (fun k e => by cases e; omega)
        have hOx := (HOw.out.gr hg7).put1 0 (by decide) (.string tB)
        refine ⟨hgw, hch.block (hg7.block HR6.out) (by simp; omega), hch.block (hg7.block HR7.out) (by simp; omega), hch.block (hg7.block HR8.out) (by simp; omega), HS.out.gr hgw, ?_, fun h => by cases h⟩
        exact hOx)
      clear ht hS1 hch hg hHeld hS0 hg7 HGw HR6 HR7 HR8 HSt HOw HK5 HKc HNe
      refine u_done (by kernel_rfl) ?_ _
      refine NoPanic.normal ?_
      try simp only [Act.put, List.setIfInBounds_toArray, List.set_cons_zero, List.set_cons_succ]
      go_wp2_with fail
      go_roundw
      case rel => exact ⟨1, by omega, by go_num, HFin⟩
      case measure => simp [intOf]
    · obtain ⟨hgw, hr6, hr7, hr8, hst, how, -⟩ := HG.out
      have HGw := Lib.hid hgw
      have HR6 := Lib.hid hr6
      have HR7 := Lib.hid hr7
      have ht := own_two how (by decide)
      rw [if_neg (by decide)] at ht
      have HWr := Lib.hid (writeA_any g o c wr ht.1 ht.2.1)
      obtain ⟨m0, m1, m2, m3, m4⟩ := row5c hr8
      clear hgw hr6 hr7 hr8 hst how ht HG
      go_wp2_with fail
      clear m0 m1 m2 m3 m4
      refine HWr.out.mono ?_
      rintro e w8 ⟨rfl, hg8⟩
      have HR68 := Lib.hid (hg8.block HR6.out)
      have HR78 := Lib.hid (hg8.block HR7.out)
      have HG8 := Lib.hid (HGw.out.trans hg8)
      clear hg8 HR6 HR7 HGw HWr
      have k6 := cell_of_row _ b6 0 _ _ _ HR68.out
      have k7 := cell_of_row _ b7 0 _ _ _ HR78.out
      have f6 := frozen_of_row _ b6 0 _ _ HR68.out
      have f7 := frozen_of_row _ b7 0 _ _ HR78.out
      have hn1 : ¬ b6 = b7 := by have := Hb.out; omega
      have hn2 : ¬ b7 = b6 := by have := Hb.out; omega
      go_wp2_with fail
      refine leaves_cons (f := 53) (args := #[.pointer (some ⟨b6, 0, none⟩), .pointer (some ⟨b7, 0, none⟩)]) (by simp) (by simp [go_sem]) ?_
      clear k6 k7 f6 f7
      have hch1 : Chg (some b6) w8 (w8.setCell ⟨b6, 0, none⟩ (.string rA)) := setCells_chg b6 [.string rA] 0 w8
      have hrow6 := row1_set (a' := .string rA) HR68.out
      have hrow7 := hch1.block HR78.out (by simp; exact hn2)
      generalize w8.setCell ⟨b6, 0, none⟩ (.string rA) = wy at hch1 hrow6 hrow7 ⊢
      have hch2 : Chg (some b7) wy (wy.setCell ⟨b7, 0, none⟩ (.int .i64 0)) := setCells_chg b7 [.int .i64 0] 0 wy
      have hrow6' := hch2.block hrow6 (by simp; exact hn1)
      have hrow7' := row1_set (a' := .int .i64 0) hrow7
      have hGf : Gr w (wy.setCell ⟨b7, 0, none⟩ (.int .i64 0)) := gr_step (gr_step HG8.out (Gr.refl _) hch1 (fun g e => by cases e; have := Hb.out; omega)) (Gr.refl _) hch2 (fun g e => by cases e; have := Hb.out; omega)
      refine (caught_idle b6 b7 _).mono ?_
      rintro e u' w2 ⟨rfl, rfl, rfl⟩
      have e0 := cell_of_row _ b6 0 _ _ _ hrow6'
      have e1 := cell_of_row _ b7 0 _ _ _ hrow7'
      refine ⟨_, ?_, ⟨rfl, hGf⟩⟩
      simp [results, Tryz.results19, go_sem, e0, e1]
end Go.Proofs.YtaoggehdkddgeaaGreatDoor
end
section
namespace Go.Proofs.YtaoggehdkddgeaaGreatDoor
open Go Go.RowKit Go.Shelf
attribute [local go_sem] gAt gUpon
attribute [local simp] Gr.refl Gr.alloc

theorem rA_is : (rA.toList == ([2, 4, 97, 98] : List UInt8)) = true := by decide +kernel
theorem sA_is : (sA.toList == ([2, 4, 65, 98] : List UInt8)) = true := by decide +kernel
theorem propA_eq : (⟨(propB txB lnA.length lnA).toArray⟩ : ByteArray) = sA := by kernel_rfl
set_option maxRecDepth 100000 in
set_option maxHeartbeats 2000000 in
theorem awake_any (w : World) : Calls Tryz.prog 4 #[] w fun e w' => e = .returned (.bool true) ∧ Gr w w' := by
  have HVl := Lib.hid (fun v1 v2 y hd => value_fix v1 v2 y hd)
  have HPr : Hid (∀ v1 v2 y, DocIn v1 v2 lnA ceA y → Calls Tryz.prog 18 #[.agg #[v1, v2, .int .i64 0, .string ⟨#[]⟩], .int .i64 1] y fun e w' => e = .returned (.tuple #[.string sA, .int .i64 0]) ∧ Gr y w') := Lib.hid (fun v1 v2 y hd => by
    have := property1_any v1 v2 lnA ceA 0 ⟨#[]⟩ y hd docA_valid
    unfold PropIs at this
    rw [propA_eq] at this
    exact this)
  have HAp := Lib.hid (fun gs os cs y hy => applyA_any gs os cs y hy)
  go_enter Tryz.func4, Tryz.ntmps4
  go_upto_region 2 with fail
  refine wp_gen (F := fun z => Gr w z ∧ DocIn (.slice (some ⟨w.heap.size, 0, none⟩) 1 1) (.slice (some ⟨w.heap.size + 1, 0, none⟩) 3 3) lnA ceA z ∧ z.heap[w.heap.size + 1 + 1]? = some (.cells #[.slice (some ⟨w.heap.size, 0, none⟩) 1 1, .slice (some ⟨w.heap.size + 1, 0, none⟩) 3 3, .int .i64 0, .string ⟨#[]⟩] 35 (0, 0))) ?_ ?_
  · refine ⟨((Gr.alloc _ _).trans (Gr.alloc _ _)).trans (Gr.alloc _ _), ⟨?_, ?_⟩, ?_⟩
    · have := rows_new (enc := lnC) (s := 2) (fun _ => rfl) w lnA 61 1 rfl
      exact this.gr ((Gr.alloc _ _).trans (Gr.alloc _ _))
    · have := rows_new (enc := ceC) (s := 6) (fun _ => rfl) (w.alloc (.cells #[.string ⟨#[65, 98]⟩, .int .i64 2] 61)) ceA 63 3 rfl
      rw [World.size_alloc] at this
      exact this.gr (Gr.alloc _ _)
    · have := heap_alloc_new ((w.alloc (.cells #[.string ⟨#[65, 98]⟩, .int .i64 2] 61)).alloc (.cells (ceA.flatMap ceC).toArray 63)) (.cells #[.slice (some ⟨w.heap.size, 0, none⟩) 1 1, .slice (some ⟨w.heap.size + 1, 0, none⟩) 3 3, .int .i64 0, .string ⟨#[]⟩] 35)
      rw [World.size_alloc, World.size_alloc] at this; exact this
  rintro w1 ⟨hg1, hd1, hr1⟩
  obtain ⟨b1, hb1⟩ : ∃ z, w.heap.size + 1 + 1 = z := ⟨_, rfl⟩
  rw [hb1] at hr1
  simp only [hb1]
  generalize w.heap.size + 1 = bC at hd1 hr1 hb1 ⊢
  clear hb1
  generalize w.heap.size = bL at hd1 hr1 ⊢
  have HG1 := Lib.hid hg1
  have HD1 := Lib.hid hd1
  have HR1 := Lib.hid hr1
  clear hg1 hd1 hr1
  obtain ⟨k0, k1, k2, k3⟩ := row4 HR1.out
  go_wp2_with fail
  clear k0 k1 k2 k3
  refine (HVl.out _ _ w1 HD1.out).mono ?_
  rintro e w2 ⟨rfl, hg⟩
  have HG2 := Lib.hid (HG1.out.trans hg)
  have HR2 := Lib.hid (hg.block HR1.out)
  have HD2 : Hid (DocIn (.slice (some ⟨bL, 0, none⟩) 1 1) (.slice (some ⟨bC, 0, none⟩) 3 3) lnA ceA w2) := Lib.hid ⟨HD1.out.1.gr hg, HD1.out.2.gr hg⟩
  clear hg HR1 HD1 HG1
  obtain ⟨k0, k1, k2, k3⟩ := row4 HR2.out
  go_wp2_with fail
  clear k0 k1 k2 k3
  refine (HPr.out _ _ w2 HD2.out).mono ?_
  rintro e w3 ⟨rfl, hg⟩
  have HG3 := Lib.hid (HG2.out.trans hg)
  clear hg HR2 HD2 HG2 HPr HVl
  go_wp2_with fail
  refine (HAp.out w3.heap.size 0 1 _ ⟨cell_of_row _ _ _ _ _ _ (heap_alloc_new _ _), cell_of_row _ _ _ _ _ _ (heap_alloc_new _ _)⟩).mono ?_
  rintro e w4 ⟨rfl, hg⟩
  have HG4 := Lib.hid (HG3.out.trans ((Gr.alloc _ _).trans hg))
  clear hg HG3 HAp
  have eA : (rA.toList == [2, 4, 97, 98]) = true := rA_is
  have eB : (sA.toList == [2, 4, 65, 98]) = true := sA_is
  go_wp2_with fail
  go_ret
  exact ⟨rfl, HG4.out⟩
end Go.Proofs.YtaoggehdkddgeaaGreatDoor
end
