/- The contract of the disk's Crash. -/
import Derived.Test.YtmkdnfiiehgcaaaDsI
namespace Go.Proofs.Ytmkdnfiiehgcaaa
open Go.RowKit

theorem gr_stepJ {b : Option Nat} {w wr w1 w2 : World} (hG : Gr w wr) (hg : Gr wr w1) (hc : Chg b w1 w2) (hb : ∀ g, b = some g → w.heap.size ≤ g) : Gr w w2 :=
  Below.trans (hG.trans hg) (hc.below hb (hG.trans hg).size)
theorem own_geJ {B s : Nat} {v : Value} {n : Nat} {xs : List Value} {w : World} (h : Own B s v n xs w) {g : Nat} (hg : v.ownBlock = some g) : B ≤ g := by
  rcases h.2 with ⟨rfl, _⟩ | ⟨g', off, cap, rfl, hB, _⟩
  · simp [Value.ownBlock] at hg
  · simp [Value.ownBlock] at hg; omega
theorem crash_nil (v : Value) (t : Int) (w : World) : Calls Try.prog 25 #[.pointer none, v, .int .i64 t] w fun e w' => e = .returned (.int .i64 1) ∧ Gr w w' := by
  go_enter Try.func25, Try.ntmps25
  go_wp2
  go_ret
  exact ⟨rfl, Gr.alloc _ _⟩
theorem ints_slice {n₀ : Nat} {v : Value} {zs : List Int} {W : World} (h : IntsBelow n₀ v zs W) : ∃ p c, v = .slice p zs.length c := by
  rcases h with ⟨rfl, p, c, rfl⟩ | ⟨b, off, c, rfl, -⟩
  · exact ⟨p, c, rfl⟩
  · exact ⟨_, c, rfl⟩
/-- Values, and then Sorted over what it gives -/
theorem values_sorted {p : Option Addr} {c : Nat} {zs : List Int} {w : World} (hz : IntsBelow w.heap.size (.slice p zs.length c) zs w) (hmax : zs.length ≤ 1000000) :
    Calls Try.prog 40 #[.slice p zs.length c] w fun e x => ∃ Bs, e = .returned (.func (.func 47) #[] #[.pointer (some ⟨Bs, 0, none⟩)]) ∧ Gr w x ∧
      Hid (Calls Try.prog 39 #[.func (.func 47) #[] #[.pointer (some ⟨Bs, 0, none⟩)]] x fun e y => ∃ u, e = .returned u ∧ Own w.heap.size 1 u zs.length (iC (sortI zs)) y ∧ Gr w y) := by
  refine (values_any p zs.length c w).mono ?_
  rintro e x ⟨rfl, rfl⟩
  have hg : Gr w (w.alloc (.cells #[.slice p zs.length c] 37)) := Gr.alloc _ _
  refine ⟨_, rfl, hg, Lib.hid ?_⟩
  have hz' : IntsBelow (w.alloc (.cells #[.slice p zs.length c] 37)).heap.size (.slice p zs.length c) zs (w.alloc (.cells #[.slice p zs.length c] 37)) := by
    rcases hz with h | ⟨b, off, c', he, hlt, hc⟩
    · exact .inl h
    · exact .inr ⟨b, off, c', he, Nat.lt_of_lt_of_le hlt hg.size, fun j x hj => hg.cell (hc j x hj)⟩
  refine (sorted_any w.heap.size _ zs hmax _ (by simp) (by rw [cell_of_row _ _ _ _ _ _ (heap_alloc_new w _)]; rfl) hz').mono ?_
  rintro e y ⟨u, rfl, hO, hgy⟩
  exact ⟨u, rfl, hO.mono hg.size, hg.trans hgy⟩
/-- what holds at a round of the crash's loop -/
def CrI (g1 : Nat) (d : Dk) (keep : List Int) (t : Int) (k : Nat) (w W : World) : Prop := Chs (fun j => j = g1) w W ∧ ByRow 5 g1 (applyL d.dur ((lastCut t (survive keep d.pend)).take k)) W
set_option maxHeartbeats 2000000 in
theorem crash_any {S : Nat → Prop} {gd n : Nat} {d : Dk} {w : World} (v : Value) (keep : List Int) (t : Int) (h : DkAt S gd n d w) (hi : d.inv n) (hn : n ≤ 4194304) (hp : d.pend.length ≤ 1000000) (hk : keep.length ≤ 1000000) (hz : IntsBelow w.heap.size v keep w)
    (ht : -9223372036854775808 ≤ t ∧ t ≤ 9223372036854775807) (hS : ∀ k, S k → k < w.heap.size) :
    Calls Try.prog 25 #[.pointer (some ⟨gd, 0, none⟩), v, .int .i64 t] w fun e w' => e = .returned (.int .i64 0) ∧ DkAt S gd n (crashD d keep t) w' ∧ Chs S w w' := by
  obtain ⟨g1, g2, vp, s0, s1, s2, n1, n2, n3, hv, hb, h1, h2, ho⟩ := h
  obtain ⟨p, c, rfl⟩ := ints_slice hz
  obtain ⟨pp, cp, rfl⟩ := ho.slice2
  have hgd := hS gd s0
  have HB := Lib.hid hb
  have HV := Lib.hid hv
  have HO := Lib.hid ho
  have H1 := Lib.hid h1
  have H2 := Lib.hid h2
  have HI := Lib.hid hi
  have HZ := Lib.hid hz
  have HT := Lib.hid ht
  clear hb hv ho h1 h2 hi hz ht
  go_enter Try.func25, Try.ntmps25
  go_upto_region 1 with fail
  refine wp_gen (F := fun x => Gr w x ∧ w.heap.size < x.heap.size ∧ x.cell? ⟨w.heap.size, 0, none⟩ = some (.pointer (some ⟨gd, 0, none⟩))) ⟨Gr.alloc _ _, by simp, by rw [cell_of_row _ _ _ _ _ _ (heap_alloc_new w _)]; rfl⟩ ?_
  rintro wA ⟨hgA, hlA, cA⟩
  have HGA := Lib.hid hgA
  have HBx := Lib.hid cA
  have HzA : Hid (IntsBelow wA.heap.size (.slice p keep.length c) keep wA) := Lib.hid (by
    rcases HZ.out with h | ⟨b, off, c', he, hlt, hc⟩
    · exact .inl h
    · exact .inr ⟨b, off, c', he, Nat.lt_of_lt_of_le hlt hgA.size, fun j x hj => hgA.cell (hc j x hj)⟩)
  have HVs := Lib.hid (values_sorted HzA.out hk)
  clear hgA HzA HZ
  go_wp2_with fail
  clear cA
  refine HVs.out.mono ?_
  rintro e w1 ⟨Bs, rfl, hg1, HSo⟩
  clear hg1 HVs
  go_wp2_with fail
  refine HSo.out.mono ?_
  rintro e w2 ⟨u, rfl, hO2, hg2⟩
  have HCm := Lib.hid (compact_any hO2 hk)
  have HG2 := Lib.hid hg2
  have HO2 := Lib.hid hO2
  clear HSo hO2 hg2
  go_wp2_with fail
  refine HCm.out.mono ?_
  rintro e w3 ⟨u3, rfl, hO3, hc3, hu3⟩
  have hg3 : Gr wA w3 := gr_stepJ HG2.out (Gr.refl _) hc3 (fun g hg => own_geJ HO2.out hg)
  have hc4 : w3.cell? ⟨gd, 4, none⟩ = some (.slice pp d.pend.length cp) := by
    obtain ⟨-, -, -, -, c4, -⟩ := cells5 ((HGA.out.trans hg3).block HB.out)
    exact c4
  have hgA2 := HGA.out.size
  have hgA3 := hg3.size
  have HDr := Lib.hid (drop_any (B := w.heap.size) hO3 (Nat.le_trans (Nat.le_trans (compact_len _) (by rw [sortI_length]; exact Nat.le_refl _)) hk) hlA (by omega) (by omega) (by omega) (hg3.cell HBx.out) hc4)
  have HG3 := Lib.hid hg3
  have HO3 := Lib.hid hO3
  clear hO3 hc3 hu3 hg3 HCm HG2 HO2 hc4 hgA3
  go_wp2_with fail
  refine HDr.out.mono ?_
  rintro e w4 ⟨u4, rfl, hO4, hc4⟩
  have HG4 : Hid (Gr wA w4) := Lib.hid (gr_stepJ HG3.out (Gr.refl _) hc4 (fun g hg => own_geJ HO3.out hg))
  have e4 : ((Go.Lib.compact (sortI keep)).filter fun i => !(decide (i < 0) || decide ((d.pend.length : Int) ≤ i))) = (ordN keep d.pend.length).map fun i : Nat => (i : Int) := order_eq keep d.pend.length
  rw [e4, List.length_map] at hO4
  obtain ⟨p4, c4, rfl⟩ := hO4.slice2
  have HO4 := Lib.hid hO4
  generalize hm : (ordN keep d.pend.length).length = m at hO4 HO4
  have hmle : m ≤ 1000000 := by rw [← hm]; exact Nat.le_trans (Nat.le_trans (List.length_filter_le _ _) (by simp)) hp
  have Hm := Lib.hid hm
  clear hO4 hc4 HG3 HO3 HDr e4 hm
  have H14 : Hid (CrI g1 d keep t 0 w4 w4) := Lib.hid ⟨Chs.refl _ _, Gr.block (HGA.out.trans HG4.out) H1.out⟩
  go_wp2_with fail
  go_loopw [22] (fun v22 W => ∃ k : Nat, k ≤ m ∧ v22 = .int .i64 (k : Int) ∧ Hid (CrI g1 d keep t k w4 W)) (fun v22 _ => m - (intOf v22).toNat)
  case atStart => exact ⟨0, Nat.zero_le _, rfl, H14⟩
  case round =>
    obtain ⟨k, hkm, rfl, HC⟩ := hrel
    by_cases hlt : k < m
    · have tk : decide (k < m) = true := decide_eq_true hlt
      have hlt1 := hS g1 s1
      obtain ⟨i, hi⟩ : ∃ i, (ordN keep d.pend.length)[k]? = some i := ⟨_, List.getElem?_eq_getElem (by rw [Hm.out]; exact hlt)⟩
      have hil := ordN_get_lt hi
      obtain ⟨x, hx⟩ : ∃ x, d.pend[i]? = some x := ⟨_, List.getElem?_eq_getElem hil⟩
      obtain ⟨g4, o4, rfl, k4⟩ : ∃ g4 o4, p4 = some ⟨g4, o4, none⟩ ∧ wr.cell? ⟨g4, o4 + k, none⟩ = some (.int .i64 (i : Int)) := by
        rcases HO4.out.2 with ⟨_, h0⟩ | ⟨g, off, cap, he, hB, hc, hm, hx4, hw⟩
        · omega
        · injection he with e1 e2 e3
          refine ⟨g, off, e1, HC.out.1.cell (hx4 k _ (by simp [iC, hi])) (fun e => ?_)⟩
          have e' : g = g1 := e
          omega
      obtain ⟨gp, op, rfl, q0, q1⟩ : ∃ gp op, pp = some ⟨gp, op, none⟩ ∧ wr.cell? ⟨gp, op + i * 2, none⟩ = some (.int .i64 (x.1 : Int)) ∧ wr.cell? ⟨gp, op + i * 2 + 1, none⟩ = some (.string x.2) := by
        rcases HO.out.2 with ⟨_, h0⟩ | ⟨g, off, cap, he, hB, hc, hm, hx4, hw⟩
        · omega
        · injection he with e1 e2 e3
          have hne : g ≠ g1 := (HV.out g (by rw [e1]; rfl)).2.2.1
          obtain ⟨y0, y1⟩ := pC_get d.pend i x hx
          exact ⟨g, off, e1, HC.out.1.cell ((HGA.out.trans HG4.out).cell (hx4 _ _ y0)) hne, HC.out.1.cell ((HGA.out.trans HG4.out).cell (hx4 _ _ y1)) hne⟩
      have bx : wr.cell? ⟨w.heap.size, 0, none⟩ = some (.pointer (some ⟨gd, 0, none⟩)) := HC.out.1.cell (HG4.out.cell HBx.out) (fun e => by have e' : w.heap.size = g1 := e; omega)
      obtain ⟨-, -, r2, -, r4, -⟩ := cells5 (HC.out.1.block ((HGA.out.trans HG4.out).block HB.out) n1)
      have hgr : gd < wr.heap.size := World.block_lt_of_cell? wr ⟨gd, 2, none⟩ r2
      have hbr : w.heap.size < wr.heap.size := World.block_lt_of_cell? wr ⟨w.heap.size, 0, none⟩ bx
      have HX := Lib.hid hx
      have HIx := Lib.hid hi
      obtain ⟨o, s⟩ := x
      simp only at q0 q1
      clear hx hi
      go_upto_region 9 with fail
      refine wp_gen (F := fun y => Gr wr y ∧ y.heap[wr.heap.size]? = some (.cells #[.int .i64 (o : Int), .string s] 69 (0, 0))) ⟨Gr.alloc _ _, heap_alloc_new _ _⟩ ?_
      rintro wB ⟨hgB, hrB⟩
      have w0 : wB.cell? ⟨wr.heap.size, 0, none⟩ = some (.int .i64 (o : Int)) := by rw [cell_of_row _ _ _ _ _ _ hrB]; rfl
      have w1' : wB.cell? ⟨wr.heap.size, 1, none⟩ = some (.string s) := by rw [cell_of_row _ _ _ _ _ _ hrB]; rfl
      have wf : wB.frozen? ⟨wr.heap.size, 1, none⟩ = false := frozen_of_row _ _ _ _ _ hrB
      have HgB := Lib.hid hgB
      have HrB := Lib.hid hrB
      have Hbx := Lib.hid bx
      have Hr2 := Lib.hid r2
      clear hgB hrB bx r2 r4 q0 q1 k4
      have ew : IntKind.i64.wrap ((m : Int) - 1) = (m : Int) - 1 := IntWalk.i64_in _ (by have := HT.out; have := hp; have := ordN_get_lt HIx.out; have hm' := Hm.out; have hml : m ≤ d.pend.length := (by rw [← hm']; exact Nat.le_trans (List.length_filter_le _ _) (by simp)); constructor <;> omega)
      by_cases hl : k + 1 = m
      · have tl : ((k : Int) == (m : Int) - 1) = true := by rw [beq_iff_eq]; omega
        by_cases h0 : 0 ≤ t
        · have t0 : decide (0 ≤ t) = true := decide_eq_true h0
          have emn : min t (s.size : Int) = ((min t.toNat s.size : Nat) : Int) := by omega
          have hms : min t.toNat s.size ≤ s.size := Nat.min_le_right _ _
          go_upto_region 11 with fail
          have HS2 : Hid (s.extract 0 (min t.toNat s.size) = (if k + 1 = (ordN keep d.pend.length).length then tornS t s else s)) := Lib.hid (by rw [Hm.out, if_pos hl, tornS_pos h0])
          have HLe : Hid ((s.extract 0 (min t.toNat s.size)).size ≤ s.size) := Lib.hid (by simp only [ByteArray.size_extract]; omega)
          generalize s.extract 0 (min t.toNat s.size) = s2 at HS2 HLe ⊢
          have HW : Hid (CrI g1 d keep t k w4 (wB.setCell ⟨wr.heap.size, 1, none⟩ (.string s2)) ∧ (wB.setCell ⟨wr.heap.size, 1, none⟩ (.string s2)).heap[wr.heap.size]? = some (.cells #[.int .i64 (o : Int), .string s2] 69 (0, 0))) := Lib.hid (by
            have hcw : Chs (fun j => wr.heap.size ≤ j) wr (wB.setCell ⟨wr.heap.size, 1, none⟩ (.string s2)) := (Chs.of_gr HgB.out).trans (chs_setCell (S := fun j => wr.heap.size ≤ j) wB (Nat.le_refl _) 1 (.string s2)) (fun _ _ h => h)
            refine ⟨⟨HC.out.1.trans hcw (fun j hj h => ?_), hcw.block HC.out.2 (fun e => by have := HC.out.2.lt; omega)⟩, ?_⟩
            · have := HC.out.1.size; omega
            · rw [heap_setCell_same wB wr.heap.size 1 _ _ (.string s2) HrB.out]; rfl)
          have HSz : Hid (o + s2.size ≤ n) := Lib.hid (by have h := HI.out.2.2.1 (o, s) (List.mem_of_getElem? HX.out); unfold Wr.ok at h; have h2 := HLe.out; simp only at h; omega)
          clear w0 w1' wf
          refine wp_gen (F := fun y => CrI g1 d keep t k w4 y ∧ y.heap[wr.heap.size]? = some (.cells #[.int .i64 (o : Int), .string s2] 69 (0, 0))) HW.out ?_
          rintro wC ⟨hcC, hrC⟩
          have hw0 : wC.cell? ⟨wr.heap.size, 0, none⟩ = some (.int .i64 (o : Int)) := by rw [cell_of_row _ _ _ _ _ _ hrC]; rfl
          have hw1 : wC.cell? ⟨wr.heap.size, 1, none⟩ = some (.string s2) := by rw [cell_of_row _ _ _ _ _ _ hrC]; rfl
          have hbx : wC.cell? ⟨w.heap.size, 0, none⟩ = some (.pointer (some ⟨gd, 0, none⟩)) := hcC.1.cell (HG4.out.cell HBx.out) (fun e => by have e' : w.heap.size = g1 := e; omega)
          obtain ⟨-, -, hr2, -⟩ := cells5 (hcC.1.block ((HGA.out.trans HG4.out).block HB.out) n1)
          have hS0 : ∀ y : GrS wC.drew, y.w.cell? ⟨wr.heap.size, 0, none⟩ = some (.int .i64 (o : Int)) := fun y => y.h.cell (w := wC.drew) hw0
          have hS1 : ∀ y : GrS wC.drew, y.w.cell? ⟨wr.heap.size, 1, none⟩ = some (.string s2) := fun y => y.h.cell (w := wC.drew) hw1
          have hS2 : ∀ y : GrS wC.drew, y.w.cell? ⟨w.heap.size, 0, none⟩ = some (.pointer (some ⟨gd, 0, none⟩)) := fun y => y.h.cell (w := wC.drew) hbx
          have hS3 : ∀ y : GrS wC.drew, y.w.cell? ⟨gd, 2, none⟩ = some (.slice (some ⟨g1, 0, none⟩) n n) := fun y => y.h.cell (w := wC.drew) hr2
          have HcC := Lib.hid hcC
          clear hw0 hw1 hbx hr2 hcC hrC HW HgB HrB
          refine region_grow 5 73 (by kernel_rfl) rfl (by kernel_rfl) rfl rfl ?_
          simp only [List.take_succ_cons, List.take_zero, List.drop_succ_cons, List.drop_zero]
          refine seg 5 rfl rfl rfl rfl ?_
          simp only [List.take_succ_cons, List.take_zero, List.drop_succ_cons, List.drop_zero]
          repeat (go_big_quiet_step (fail))
          refine wpQuiet_nil ?_
          intro _
          refine grow_end0 rfl rfl ?_
          intro wD hG
          have HGD : Hid (Gr wC wD) := Lib.hid (Gr.trans (Gr.drew wC) hG)
          have HOn := Lib.hid (onto_any (S := fun j => j = g1) (o := o) (s := s2) (w := wD) (Gr.block HGD.out HcC.out.2) (crash_ok HI.out.2.2.1 HI.out.1 k) HSz.out hn rfl)
          clear hS0 hS1 hS2 hS3 hG
          go_wp2_with fail
          refine HOn.out.mono ?_
          rintro e wE ⟨rfl, hrE, hcE⟩
          have HF : Hid (CrI g1 d keep t (k + 1) w4 wE) := Lib.hid (by
            refine ⟨(HcC.out.1.trans (Chs.of_gr (S := fun j => j = g1) HGD.out) (fun _ _ h => h)).trans hcE (fun _ _ h => h), ?_⟩
            rw [crash_step HIx.out HX.out, ← HS2.out]; exact hrE)
          clear hrE hcE HOn HGD HcC
          go_wp2_with fail
          go_roundw
          case rel => exact ⟨k + 1, by omega, by go_num, HF⟩
          case measure => simp [intOf]; omega
        · have t0 : decide (0 ≤ t) = false := decide_eq_false h0
          go_upto_region 11 with fail
          have HS2 : Hid (s = (if k + 1 = (ordN keep d.pend.length).length then tornS t s else s)) := Lib.hid (by rw [Hm.out, if_pos hl, tornS_neg (by omega)])
          have HLe : Hid (s.size ≤ s.size) := Lib.hid (Nat.le_refl _)
          have HW : Hid (CrI g1 d keep t k w4 wB ∧ wB.heap[wr.heap.size]? = some (.cells #[.int .i64 (o : Int), .string s] 69 (0, 0))) := Lib.hid ⟨⟨HC.out.1.trans (Chs.of_gr (S := fun j => j = g1) HgB.out) (fun _ _ h => h), Gr.block HgB.out HC.out.2⟩, HrB.out⟩
          have HSz : Hid (o + s.size ≤ n) := Lib.hid (by have h := HI.out.2.2.1 (o, s) (List.mem_of_getElem? HX.out); unfold Wr.ok at h; have h2 := HLe.out; simp only at h; omega)
          clear w0 w1' wf
          refine wp_gen (F := fun y => CrI g1 d keep t k w4 y ∧ y.heap[wr.heap.size]? = some (.cells #[.int .i64 (o : Int), .string s] 69 (0, 0))) HW.out ?_
          rintro wC ⟨hcC, hrC⟩
          have hw0 : wC.cell? ⟨wr.heap.size, 0, none⟩ = some (.int .i64 (o : Int)) := by rw [cell_of_row _ _ _ _ _ _ hrC]; rfl
          have hw1 : wC.cell? ⟨wr.heap.size, 1, none⟩ = some (.string s) := by rw [cell_of_row _ _ _ _ _ _ hrC]; rfl
          have hbx : wC.cell? ⟨w.heap.size, 0, none⟩ = some (.pointer (some ⟨gd, 0, none⟩)) := hcC.1.cell (HG4.out.cell HBx.out) (fun e => by have e' : w.heap.size = g1 := e; omega)
          obtain ⟨-, -, hr2, -⟩ := cells5 (hcC.1.block ((HGA.out.trans HG4.out).block HB.out) n1)
          have hS0 : ∀ y : GrS wC.drew, y.w.cell? ⟨wr.heap.size, 0, none⟩ = some (.int .i64 (o : Int)) := fun y => y.h.cell (w := wC.drew) hw0
          have hS1 : ∀ y : GrS wC.drew, y.w.cell? ⟨wr.heap.size, 1, none⟩ = some (.string s) := fun y => y.h.cell (w := wC.drew) hw1
          have hS2 : ∀ y : GrS wC.drew, y.w.cell? ⟨w.heap.size, 0, none⟩ = some (.pointer (some ⟨gd, 0, none⟩)) := fun y => y.h.cell (w := wC.drew) hbx
          have hS3 : ∀ y : GrS wC.drew, y.w.cell? ⟨gd, 2, none⟩ = some (.slice (some ⟨g1, 0, none⟩) n n) := fun y => y.h.cell (w := wC.drew) hr2
          have HcC := Lib.hid hcC
          clear hw0 hw1 hbx hr2 hcC hrC HW HgB HrB
          refine region_grow 5 73 (by kernel_rfl) rfl (by kernel_rfl) rfl rfl ?_
          simp only [List.take_succ_cons, List.take_zero, List.drop_succ_cons, List.drop_zero]
          refine seg 5 rfl rfl rfl rfl ?_
          simp only [List.take_succ_cons, List.take_zero, List.drop_succ_cons, List.drop_zero]
          repeat (go_big_quiet_step (fail))
          refine wpQuiet_nil ?_
          intro _
          refine grow_end0 rfl rfl ?_
          intro wD hG
          have HGD : Hid (Gr wC wD) := Lib.hid (Gr.trans (Gr.drew wC) hG)
          have HOn := Lib.hid (onto_any (S := fun j => j = g1) (o := o) (s := s) (w := wD) (Gr.block HGD.out HcC.out.2) (crash_ok HI.out.2.2.1 HI.out.1 k) HSz.out hn rfl)
          clear hS0 hS1 hS2 hS3 hG
          go_wp2_with fail
          refine HOn.out.mono ?_
          rintro e wE ⟨rfl, hrE, hcE⟩
          have HF : Hid (CrI g1 d keep t (k + 1) w4 wE) := Lib.hid (by
            refine ⟨(HcC.out.1.trans (Chs.of_gr (S := fun j => j = g1) HGD.out) (fun _ _ h => h)).trans hcE (fun _ _ h => h), ?_⟩
            rw [crash_step HIx.out HX.out, ← HS2.out]; exact hrE)
          clear hrE hcE HOn HGD HcC
          go_wp2_with fail
          go_roundw
          case rel => exact ⟨k + 1, by omega, by go_num, HF⟩
          case measure => simp [intOf]; omega
      · have tl : ((k : Int) == (m : Int) - 1) = false := by rw [beq_eq_false_iff_ne]; omega
        go_upto_region 11 with fail
        have HS2 : Hid (s = (if k + 1 = (ordN keep d.pend.length).length then tornS t s else s)) := Lib.hid (by rw [Hm.out, if_neg hl])
        have HLe : Hid (s.size ≤ s.size) := Lib.hid (Nat.le_refl _)
        have HW : Hid (CrI g1 d keep t k w4 wB ∧ wB.heap[wr.heap.size]? = some (.cells #[.int .i64 (o : Int), .string s] 69 (0, 0))) := Lib.hid ⟨⟨HC.out.1.trans (Chs.of_gr (S := fun j => j = g1) HgB.out) (fun _ _ h => h), Gr.block HgB.out HC.out.2⟩, HrB.out⟩
        have HSz : Hid (o + s.size ≤ n) := Lib.hid (by have h := HI.out.2.2.1 (o, s) (List.mem_of_getElem? HX.out); unfold Wr.ok at h; have h2 := HLe.out; simp only at h; omega)
        clear w0 w1' wf
        refine wp_gen (F := fun y => CrI g1 d keep t k w4 y ∧ y.heap[wr.heap.size]? = some (.cells #[.int .i64 (o : Int), .string s] 69 (0, 0))) HW.out ?_
        rintro wC ⟨hcC, hrC⟩
        have hw0 : wC.cell? ⟨wr.heap.size, 0, none⟩ = some (.int .i64 (o : Int)) := by rw [cell_of_row _ _ _ _ _ _ hrC]; rfl
        have hw1 : wC.cell? ⟨wr.heap.size, 1, none⟩ = some (.string s) := by rw [cell_of_row _ _ _ _ _ _ hrC]; rfl
        have hbx : wC.cell? ⟨w.heap.size, 0, none⟩ = some (.pointer (some ⟨gd, 0, none⟩)) := hcC.1.cell (HG4.out.cell HBx.out) (fun e => by have e' : w.heap.size = g1 := e; omega)
        obtain ⟨-, -, hr2, -⟩ := cells5 (hcC.1.block ((HGA.out.trans HG4.out).block HB.out) n1)
        have hS0 : ∀ y : GrS wC.drew, y.w.cell? ⟨wr.heap.size, 0, none⟩ = some (.int .i64 (o : Int)) := fun y => y.h.cell (w := wC.drew) hw0
        have hS1 : ∀ y : GrS wC.drew, y.w.cell? ⟨wr.heap.size, 1, none⟩ = some (.string s) := fun y => y.h.cell (w := wC.drew) hw1
        have hS2 : ∀ y : GrS wC.drew, y.w.cell? ⟨w.heap.size, 0, none⟩ = some (.pointer (some ⟨gd, 0, none⟩)) := fun y => y.h.cell (w := wC.drew) hbx
        have hS3 : ∀ y : GrS wC.drew, y.w.cell? ⟨gd, 2, none⟩ = some (.slice (some ⟨g1, 0, none⟩) n n) := fun y => y.h.cell (w := wC.drew) hr2
        have HcC := Lib.hid hcC
        clear hw0 hw1 hbx hr2 hcC hrC HW HgB HrB
        refine region_grow 5 73 (by kernel_rfl) rfl (by kernel_rfl) rfl rfl ?_
        simp only [List.take_succ_cons, List.take_zero, List.drop_succ_cons, List.drop_zero]
        refine seg 5 rfl rfl rfl rfl ?_
        simp only [List.take_succ_cons, List.take_zero, List.drop_succ_cons, List.drop_zero]
        repeat (go_big_quiet_step (fail))
        refine wpQuiet_nil ?_
        intro _
        refine grow_end0 rfl rfl ?_
        intro wD hG
        have HGD : Hid (Gr wC wD) := Lib.hid (Gr.trans (Gr.drew wC) hG)
        have HOn := Lib.hid (onto_any (S := fun j => j = g1) (o := o) (s := s) (w := wD) (Gr.block HGD.out HcC.out.2) (crash_ok HI.out.2.2.1 HI.out.1 k) HSz.out hn rfl)
        clear hS0 hS1 hS2 hS3 hG
        go_wp2_with fail
        refine HOn.out.mono ?_
        rintro e wE ⟨rfl, hrE, hcE⟩
        have HF : Hid (CrI g1 d keep t (k + 1) w4 wE) := Lib.hid (by
          refine ⟨(HcC.out.1.trans (Chs.of_gr (S := fun j => j = g1) HGD.out) (fun _ _ h => h)).trans hcE (fun _ _ h => h), ?_⟩
          rw [crash_step HIx.out HX.out, ← HS2.out]; exact hrE)
        clear hrE hcE HOn HGD HcC
        go_wp2_with fail
        go_roundw
        case rel => exact ⟨k + 1, by omega, by go_num, HF⟩
        case measure => simp [intOf]; omega
    · have tk : decide (k < m) = false := decide_eq_false hlt
      have hlt1 := hS g1 s1
      have hkm' : k = m := by omega
      subst hkm'
      have HE : Hid (ByRow 5 g1 (applyL d.dur (lastCut t (survive keep d.pend))) wr) := Lib.hid (by
        have h := HC.out.2
        rw [← Hm.out, crash_end] at h; exact h)
      have bx : wr.cell? ⟨w.heap.size, 0, none⟩ = some (.pointer (some ⟨gd, 0, none⟩)) := HC.out.1.cell (HG4.out.cell HBx.out) (fun e => by have e' : w.heap.size = g1 := e; omega)
      have hbr := HC.out.1.block ((HGA.out.trans HG4.out).block HB.out) n1
      obtain ⟨-, -, r2, r3, -⟩ := cells5 hbr
      have HBr := Lib.hid hbr
      have H2r := Lib.hid (HC.out.1.block ((HGA.out.trans HG4.out).block H2.out) n3.symm)
      have HOr := Lib.hid ((HO.out.gr (HGA.out.trans HG4.out)).keepS HC.out.1 (fun g hg => (HV.out g hg).2.2.1))
      have HCw : Hid (Chs S w wr) := Lib.hid ((Chs.of_gr (HGA.out.trans HG4.out)).trans HC.out.1 (fun j _ e => e ▸ s1))
      clear hbr HC
      go_upto_region 13 with fail
      have hS2 : ∀ y : GrS wr.drew, y.w.cell? ⟨gd, 2, none⟩ = some (.slice (some ⟨g1, 0, none⟩) n n) := fun y => y.h.cell (w := wr.drew) r2
      have hS3 : ∀ y : GrS wr.drew, y.w.cell? ⟨gd, 3, none⟩ = some (.slice (some ⟨g2, 0, none⟩) n n) := fun y => y.h.cell (w := wr.drew) r3
      have hSb : ∀ y : GrS wr.drew, y.w.cell? ⟨w.heap.size, 0, none⟩ = some (.pointer (some ⟨gd, 0, none⟩)) := fun y => y.h.cell (w := wr.drew) bx
      have Hbx := Lib.hid bx
      clear r2 r3 bx
      refine region_grow 9 73 (by kernel_rfl) rfl (by kernel_rfl) rfl rfl ?_
      simp only [List.take_succ_cons, List.take_zero, List.drop_succ_cons, List.drop_zero]
      refine seg 9 rfl rfl rfl rfl ?_
      simp only [List.take_succ_cons, List.take_zero, List.drop_succ_cons, List.drop_zero]
      repeat (go_big_quiet_step (fail))
      refine wpQuiet_nil ?_
      intro _
      refine grow_end0 rfl rfl ?_
      intro wD hG
      have HGD : Hid (Gr wr wD) := Lib.hid (Gr.trans (Gr.drew wr) hG)
      have HSe := Lib.hid (settle_any (S := S) (n := n) (HGD.out.block HBr.out) (Gr.block HGD.out HE.out) (Gr.block HGD.out H2r.out) (by have h := crash_ok (keep := keep) (t := t) HI.out.2.2.1 HI.out.1 (ordN keep d.pend.length).length; rw [crash_end] at h; exact h) HI.out.2.1 (HOr.out.gr HGD.out)
        (fun g hg => ⟨(HV.out g hg).1, (HV.out g hg).2.1, (HV.out g hg).2.2.2⟩) (fun g hg => (HV.out g hg).2.2.1) s0 s2 n2 n1.symm n3.symm)
      have HbD := Lib.hid (HGD.out.cell Hbx.out)
      clear hS2 hS3 hSb hG
      go_wp2_with fail
      refine HSe.out.mono ?_
      rintro e wE ⟨rfl, vp', hbE, hoE, hvE, htE, hfE, hcE⟩
      obtain ⟨-, -, -, -, -, f0, f1, -⟩ := cells5 hbE
      obtain ⟨c0, c1, -⟩ := cells5 hbE
      have bE : wE.cell? ⟨w.heap.size, 0, none⟩ = some (.pointer (some ⟨gd, 0, none⟩)) := hcE.cell HbD.out (fun e => by have := hS _ e; simp at this)
      have HbE := Lib.hid hbE
      have HoE := Lib.hid hoE
      have HvE := Lib.hid hvE
      have HtE := Lib.hid htE
      have HfE := Lib.hid hfE
      have HcE := Lib.hid hcE
      clear hbE hoE hvE htE hfE hcE HSe
      have HFin : Hid (DkAt S gd n (crashD d keep t) ((wE.setCell ⟨gd, 0, none⟩ (.bool false)).setCell ⟨gd, 1, none⟩ (.int .i64 0)) ∧ Chs S w ((wE.setCell ⟨gd, 0, none⟩ (.bool false)).setCell ⟨gd, 1, none⟩ (.int .i64 0))) := Lib.hid (by
        have e1 := heap_setCell_same wE gd 0 _ _ (.bool false) HbE.out
        have e2 := heap_setCell_same _ gd 1 _ _ (.int .i64 0) e1
        have hc1 : Chs (fun j => j = gd) wE ((wE.setCell ⟨gd, 0, none⟩ (.bool false)).setCell ⟨gd, 1, none⟩ (.int .i64 0)) := (chs_setCell (S := fun j => j = gd) wE rfl 0 (.bool false)).trans (chs_setCell (S := fun j => j = gd) _ rfl 1 (.int .i64 0)) (fun _ _ h => h)
        refine ⟨⟨g1, g2, vp', s0, s1, s2, n1, n2, n3, fun g hg => HV.out g (HvE.out g hg), e2, hc1.block HfE.out (fun e => n1 e.symm), hc1.block HtE.out (fun e => n2 e.symm), HoE.out.keepS hc1 (fun g hg => (HV.out g (HvE.out g hg)).2.1)⟩, ?_⟩
        exact ((HCw.out.trans (Chs.of_gr (S := S) HGD.out) (fun _ _ h => h)).trans HcE.out (fun _ _ h => h)).trans (hc1.mono (S' := S) (fun j e => e ▸ s0)) (fun _ _ h => h))
      go_wp2_with fail
      go_ret
      exact ⟨rfl, HFin.out⟩
end Go.Proofs.Ytmkdnfiiehgcaaa
