/- Package abstraction: the kinds of steps, as far as the fixed example needs them. -/
import Derived.Test.YtaoggehdkddgeaaGreatDoorGCnC
import Derived.Deep.MidRow
import Derived.Test.YtaoggehdkddgeaaGreatDoorND
import Derived.Test.YtaoggehdkddgeaaGreatDoorGEvA
import Derived.Test.YtaoggehdkddgeaaGreatDoorGNN
section
namespace Go.Proofs.YtaoggehdkddgeaaGreatDoor
open Go Go.RowKit Go.Shelf
attribute [local go_sem] gAt gUpon
attribute [local simp] Gr.refl Gr.alloc

theorem withinA_true {n lo hi : Int} (h : lo ≤ n ∧ n ≤ hi) (w : World) : Calls Tryz.prog 112 #[.int .i64 n, .int .i64 lo, .int .i64 hi] w fun e w' => e = .returned (.bool true) ∧ w = w' := by
  have t1 : decide (lo ≤ n) = true := decide_eq_true h.1
  have t2 : decide (n ≤ hi) = true := decide_eq_true h.2
  clear h
  go_enter Tryz.func112, Tryz.ntmps112
  go_wp2
  go_ret
  exact ⟨rfl, rfl⟩
theorem none0_any (w : World) : Calls Tryz.prog 120 #[.int .i64 0] w fun e w' => e = .returned (.bool true) ∧ w = w' := by
  go_enter Tryz.func120, Tryz.ntmps120
  go_wp2
  go_ret
  exact ⟨rfl, rfl⟩
theorem mustA_true (w : World) : Calls Tryz.prog 54 #[.bool true] w fun e w' => e = .returned (.tuple #[]) ∧ w = w' := by
  go_enter Tryz.func54, Tryz.ntmps54
  go_wp2
  go_end0
  exact ⟨rfl, rfl⟩
theorem each_any (k : Nat) (w : World) : Calls Tryz.prog 121 #[.func (.func k) #[] #[]] w fun e w' => e = .returned (.func (.func 176) #[] #[.pointer (some ⟨w.heap.size, 0, none⟩)]) ∧ w.alloc (.cells #[.func (.func k) #[] #[]] 209) = w' := by
  go_enter Tryz.func121, Tryz.ntmps121
  go_wp2
  go_ret
  exact ⟨rfl, rfl⟩
theorem info21 (P : Program) (h : P = Tryz.prog) : (P.info? 142).map (·.size) = some 21 := by subst h; kernel_rfl
/-- cells that lie in a block -/
def CsAt (b : Nat) (cs : List Value) (w : World) : Prop := ∀ (j : Nat) u, cs[j]? = some u → w.cell? ⟨b, j, none⟩ = some u
theorem CsAt.gr {b : Nat} {cs : List Value} {w y : World} (h : CsAt b cs w) (hg : Gr w y) : CsAt b cs y := fun j u hu => hg.cell (h j u hu)
theorem csAt_set (w : World) (b : Nat) (cs : List Value) (ht : w.there b 0 cs.length) : CsAt b cs (w.setCells b 0 cs) := fun j u hu => by
  have := World.rangeAt_setCells_same w b 0 cs ht j u hu
  simpa using this
theorem there_row {w : World} {b : Nat} {cs : Array Value} {t : TypeId} (hr : w.heap[b]? = some (.cells cs t (0, 0))) (n : Nat) (h : n ≤ cs.size) : w.there b 0 n := by
  intro j hj
  refine ⟨?_, frozen_of_row _ _ _ _ _ hr⟩
  rw [cell_of_row _ _ _ _ _ _ hr]
  simp; omega
/-- the cells of the kinds -/
def kdL (b1 c1 : Nat) (R : List Value) : List Value := [.slice none 0 0, .nilFunc, .nilFunc, .slice (some ⟨b1, 0, none⟩) 1 1, .func (.func 120) #[] #[], .func (.func 176) #[] #[.pointer (some ⟨c1, 0, none⟩)]] ++ R
/-- what the kinds' first step needs in memory -/
def KdAt (b1 c1 : Nat) (w : World) : Prop := w.cell? ⟨b1, 0, none⟩ = some (.int .i64 1) ∧ w.cell? ⟨c1, 0, none⟩ = some (.func (.func 122) #[] #[])
theorem KdAt.gr {b1 c1 : Nat} {w y : World} (h : KdAt b1 c1 w) (hg : Gr w y) : KdAt b1 c1 y := ⟨hg.cell h.1, hg.cell h.2⟩
theorem kd_results (L : List Value) (b0 : Nat) (tmps : Array Value) (w : World) (h0 : tmps[0]?.getD undef = .pointer (some ⟨b0, 0, none⟩)) (hL : L.length = 21) (hc : CsAt b0 L w) : (results Tryz.f57 tmps).run Tryz.prog w = .ok (.agg L.toArray) w := by
  obtain ⟨i, hi, hs⟩ := Option.map_eq_some_iff.1 (info21 Tryz.prog rfl)
  have hr : w.rangeAt b0 0 L := fun j u hu => by simpa using hc j u hu
  have := run_loadVar_mid (P := Tryz.prog) w b0 0 142 L _ hr Tryz.underlying142 rfl (by rw [hi]; simp [hs, hL])
  simp [results, Tryz.results57, h0, asAddr, this]
def KdRes (w : World) (e : Ending) (w' : World) : Prop := ∃ b1 c1 R, e = .returned (.agg (kdL b1 c1 R).toArray) ∧ R.length = 15 ∧ (∀ u ∈ R, u.oneCell' = true) ∧ KdAt b1 c1 w' ∧ Gr w w' ∧ w.heap.size ≤ c1
set_option maxRecDepth 100000 in
set_option maxHeartbeats 4000000 in
theorem kinds_any (w : World) : Calls Tryz.prog 57 #[] w (KdRes w) := by
  go_enter Tryz.func57, Tryz.ntmps57
  go_upto_region 1 with fail
  refine wp_gen (F := fun z => Gr w z ∧ ∃ cs : Array Value, cs.size = 21 ∧ z.heap[w.heap.size]? = some (.cells cs 142 (0, 0))) ⟨Gr.alloc _ _, _, rfl, heap_alloc_new _ _⟩ ?_
  rintro w0 ⟨hg0, cs, hcs, hr0⟩
  obtain ⟨b0, hb0⟩ : ∃ z, w.heap.size = z := ⟨_, rfl⟩
  have Hb0 : Hid (w.heap.size = b0) := Lib.hid hb0
  rw [hb0] at hr0
  simp only [hb0]
  have HG0 := Lib.hid hg0
  have HR0 := Lib.hid hr0
  have Hcs := Lib.hid hcs
  clear hg0 hr0 hb0 hcs
  go_wp2_with fail
  refine (each_any _ _).mono ?_
  rintro e w1 ⟨rfl, hw1⟩
  have hd1 : Gr w0 w1 ∧ KdAt w0.heap.size (w0.alloc (.cells #[.int .i64 1] 3)).heap.size w1 := by
    rw [← hw1]
    exact ⟨(Gr.alloc _ _).trans (Gr.alloc _ _), cell_of_row _ _ _ _ _ _ ((Gr.alloc _ _).block (heap_alloc_new _ _)), cell_of_row _ _ _ _ _ _ (heap_alloc_new _ _)⟩
  obtain ⟨c1, hc1⟩ : ∃ z, (w0.alloc (.cells #[.int .i64 1] 3)).heap.size = z := ⟨_, rfl⟩
  obtain ⟨b1, hb1⟩ : ∃ z, w0.heap.size = z := ⟨_, rfl⟩
  have Hbc : Hid (w0.heap.size ≤ b1 ∧ w0.heap.size ≤ c1) := Lib.hid ⟨by omega, by rw [← hc1, World.size_alloc]; omega⟩
  rw [hc1, hb1] at hd1
  simp only [hc1, hb1]
  have HG1 := Lib.hid hd1.1
  have HK1 := Lib.hid hd1.2
  clear hd1 hw1 hc1 hb1
  go_wp2_with fail
  refine (each_any _ _).mono ?_
  rintro e w2 ⟨rfl, hw2⟩
  have HG2 : Hid (Gr w1 w2) := Lib.hid (by rw [← hw2]; exact (Gr.alloc _ _).trans (Gr.alloc _ _))
  clear hw2
  go_wp2_with fail
  refine (each_any _ _).mono ?_
  rintro e w3 ⟨rfl, hw3⟩
  have HG3 : Hid (Gr w2 w3) := Lib.hid (by rw [← hw3]; exact (Gr.alloc _ _).trans (Gr.alloc _ _))
  clear hw3
  go_wp2_with fail
  refine (each_any _ _).mono ?_
  rintro e w4 ⟨rfl, hw4⟩
  have HG4 : Hid (Gr w3 w4) := Lib.hid (by rw [← hw4]; exact (Gr.alloc _ _).trans (Gr.alloc _ _))
  clear hw4
  have HR4 := Lib.hid ((((HG1.out.trans HG2.out).trans HG3.out).trans HG4.out).block HR0.out)
  obtain ⟨R, hR⟩ : ∃ z : List Value, z = [.slice (some ⟨w1.heap.size, 0, none⟩) 1 1, .func (.func 120) #[] #[], .func (.func 176) #[] #[.pointer (some ⟨w1.heap.size + 1, 0, none⟩)], .slice (some ⟨w2.heap.size, 0, none⟩) 2 2, .func (.func 124) #[] #[], .func (.func 176) #[] #[.pointer (some ⟨w2.heap.size + 1, 0, none⟩)], .slice (some ⟨w3.heap.size, 0, none⟩) 1 1, .func (.func 126) #[] #[], .func (.func 176) #[] #[.pointer (some ⟨w3.heap.size + 1, 0, none⟩)], .slice (some ⟨w4.heap.size, 0, none⟩) 2 2, .func (.func 120) #[] #[], .func (.func 128) #[] #[], .slice (some ⟨w4.heap.size + 1, 0, none⟩) 8 8, .func (.func 120) #[] #[], .func (.func 129) #[] #[]] := ⟨_, rfl⟩
  have hone : (kdL b1 c1 R).toArray.all (·.oneCell') = true := by
    rw [hR]
    refine all_oneCell_toArray ?_
    repeat (refine List.forall_mem_cons.2 ⟨rfl, ?_⟩)
    exact fun u hu => by cases hu
  have hlen : (kdL b1 c1 R).toArray.size = 21 := by rw [hR]; rfl
  go_wp2_with ((with_reducible show wpList _ _ _ (⟨none, .store 142 _ _, _, _, _, _⟩ :: _) _ _); refine wpList_store_mid rfl 142 (.tmp 0) (.tmp 17) rfl b0 0 (kdL b1 c1 R).toArray rfl ?hy ?ht ?hi hone ?_)
  case hy => rw [hR]; rfl
  case ht => rw [hlen]; exact there_row (((Gr.alloc _ _).trans (Gr.alloc _ _)).block HR4.out) 21 (by rw [Hcs.out]; exact Nat.le_refl _)
  case hi => rw [hlen]; exact info21 Tryz.prog rfl
  have hF : ∃ wF, ((w4.alloc (.cells #[.int .i64 6, .int .i64 7] 3)).alloc (.cells #[.int .i64 1, .int .i64 2, .int .i64 3, .int .i64 4, .int .i64 5, .int .i64 6, .int .i64 7, .int .i64 8] 3)).setCells b0 0 (kdL b1 c1 R).toArray.toList = wF ∧ Gr w wF ∧ KdAt b1 c1 wF ∧ CsAt b0 (kdL b1 c1 R) wF := by
    have hgX := (((HG1.out.trans HG2.out).trans HG3.out).trans HG4.out).trans ((Gr.alloc w4 (.cells #[.int .i64 6, .int .i64 7] 3)).trans (Gr.alloc _ (.cells #[.int .i64 1, .int .i64 2, .int .i64 3, .int .i64 4, .int .i64 5, .int .i64 6, .int .i64 7, .int .i64 8] 3)))
    have hgK := ((HG2.out.trans HG3.out).trans HG4.out).trans ((Gr.alloc w4 (.cells #[.int .i64 6, .int .i64 7] 3)).trans (Gr.alloc _ (.cells #[.int .i64 1, .int .i64 2, .int .i64 3, .int .i64 4, .int .i64 5, .int .i64 6, .int .i64 7, .int .i64 8] 3)))
    have hb0 : b0 < w0.heap.size := (Array.getElem?_eq_some_iff.1 HR0.out).1
    have hbc := Hbc.out
    have hHb0 := Hb0.out
    have hch := setCells_chg b0 (kdL b1 c1 R).toArray.toList 0 ((w4.alloc (.cells #[.int .i64 6, .int .i64 7] 3)).alloc (.cells #[.int .i64 1, .int .i64 2, .int .i64 3, .int .i64 4, .int .i64 5, .int .i64 6, .int .i64 7, .int .i64 8] 3))
    have hk := HK1.out.gr hgK
    refine ⟨_, rfl, gr_step (HG0.out.trans hgX) (Gr.refl _) hch (fun g e => by cases e; omega), ⟨hch.cell hk.1 (by simp; omega), hch.cell hk.2 (by simp; omega)⟩, csAt_set _ b0 (kdL b1 c1 R) ?_⟩
    rw [show (kdL b1 c1 R).length = 21 from by rw [hR]; rfl]
    exact there_row (hgX.block HR0.out) 21 (by rw [Hcs.out]; exact Nat.le_refl _)
  obtain ⟨wF, hwF, hgF, hkF, hcF⟩ := hF
  simp only [hwF]
  have hone2 : ∀ u ∈ R, u.oneCell' = true := by
    rw [hR]
    repeat (refine List.forall_mem_cons.2 ⟨rfl, ?_⟩)
    exact fun u hu => by cases hu
  refine bodyPost_ret (v := .agg (kdL b1 c1 R).toArray) ?_ rfl ⟨b1, c1, R, rfl, by rw [hR]; rfl, hone2, hkF, hgF, Nat.le_trans HG0.out.size Hbc.out.2⟩
  exact kd_results (kdL b1 c1 R) b0 _ wF rfl (by rw [hR]; rfl) hcF
end Go.Proofs.YtaoggehdkddgeaaGreatDoor
end
section
namespace Go.Proofs.YtaoggehdkddgeaaGreatDoor
open Go Go.RowKit Go.Shelf
attribute [local go_sem] gAt gUpon
attribute [local simp] Gr.refl Gr.alloc

theorem withinA_any (n lo hi : Int) (w : World) : Calls Tryz.prog 112 #[.int .i64 n, .int .i64 lo, .int .i64 hi] w fun e w' => e = .returned (.bool (withinB n lo hi)) ∧ w = w' := by
  by_cases h : lo ≤ n
  · have t1 : decide (lo ≤ n) = true := decide_eq_true h
    have e : withinB n lo hi = decide (n ≤ hi) := by unfold withinB; rw [t1]; simp
    rw [e]
    clear e h
    go_enter Tryz.func112, Tryz.ntmps112
    go_wp2
    go_ret
    exact ⟨rfl, rfl⟩
  · have t1 : decide (lo ≤ n) = false := decide_eq_false h
    have e : withinB n lo hi = false := by unfold withinB; rw [t1]; simp
    rw [e]
    clear e h
    go_enter Tryz.func112, Tryz.ntmps112
    go_wp2
    go_ret
    exact ⟨rfl, rfl⟩
theorem line1_gives (r : Nat) (hr : r ≤ 1114111) (W : World) : FnGives Tryz.prog 172 #[] #[encR r] (.bool (otherR r)) W := by
  unfold FnGives encR
  have HW := Lib.hid (fun y => withinA_any (r : Int) 32 126 y)
  have e : otherR r = !withinB (r : Int) 32 126 := by
    unfold otherR withinB
    by_cases h1 : r < 32
    · rw [decide_eq_true h1, decide_eq_false (show ¬ ((32 : Int) ≤ (r : Int)) by omega)]; rfl
    · rw [decide_eq_false h1, decide_eq_true (show (32 : Int) ≤ (r : Int) by omega)]
      by_cases h2 : 126 < r
      · rw [decide_eq_true h2, decide_eq_false (show ¬ ((r : Int) ≤ 126) by omega)]; rfl
      · rw [decide_eq_false h2, decide_eq_true (show (r : Int) ≤ 126 by omega)]; rfl
  rw [e]
  obtain ⟨b, hb⟩ : ∃ z, withinB (r : Int) 32 126 = z := ⟨_, rfl⟩
  rw [hb] at HW ⊢
  clear e hb
  have c1 : IntKind.i64.wrap (r : Int) = (r : Int) := IntWalk.i64_in _ (by omega)
  go_enter Tryz.func172, Tryz.ntmps172
  go_wp2_with fail
  refine (HW.out _).mono ?_
  rintro e w' ⟨rfl, rfl⟩
  go_wp2_with fail
  go_ret
  exact ⟨rfl, 0, rfl⟩
def sA : ByteArray := ⟨#[2, 4, 65, 98]⟩
def tA : ByteArray := ⟨#[65, 98]⟩
theorem intA (w : World) : Calls Tryz.prog 163 #[.string sA, .int .i64 0] w fun e w' => e = .returned (.tuple #[.int .i64 1, .int .i64 1, .int .i64 0]) ∧ w = w' := by
  refine (int_any sA 0 (by decide) (by decide) w).mono ?_
  rintro e w' ⟨rfl, rfl⟩
  exact ⟨by kernel_rfl, rfl⟩
theorem strA (w : World) : Calls Tryz.prog 164 #[.string sA, .int .i64 1] w fun e w' => e = .returned (.tuple #[.string tA, .int .i64 4, .int .i64 0]) ∧ w = w' := by
  refine (string_any sA 1 (by decide) (by decide) w).mono ?_
  rintro e w' ⟨rfl, rfl⟩
  exact ⟨by kernel_rfl, rfl⟩
/-- the reader, at a place -/
def RdrAt (b : Nat) (k : Int) (w : World) : Prop := w.heap[b]? = some (.cells #[.string sA, .int .i64 k] 204 (0, 0))
theorem rdr_set {b : Nat} {k j : Int} {w : World} (h : RdrAt b k w) : RdrAt b j (w.setCell ⟨b, 1, none⟩ (.int .i64 j)) ∧ Chg (some b) w (w.setCell ⟨b, 1, none⟩ (.int .i64 j)) := by
  refine ⟨?_, setCells_chg b [.int .i64 j] 1 w⟩
  unfold RdrAt at *
  rw [heap_setCell_same _ _ _ _ _ _ h]; rfl
set_option maxRecDepth 100000 in
set_option maxHeartbeats 1000000 in
theorem numA_any (b : Nat) (w : World) (h : RdrAt b 0 w) : Calls Tryz.prog 116 #[.pointer (some ⟨b, 0, none⟩), .int .i64 0, .int .i64 64] w fun e w' => e = .returned (.int .i64 1) ∧ RdrAt b 1 w' ∧ Kpt (fun k => k < w.heap.size ∧ k ≠ b) w w' := by
  have HI := Lib.hid (fun y => intA y)
  have HW := Lib.hid (fun y => withinA_true (n := 1) (lo := 0) (hi := 64) ⟨by decide, by decide⟩ y)
  have HM := Lib.hid (fun y => mustA_true y)
  have HR := Lib.hid h
  clear h
  go_enter Tryz.func116, Tryz.ntmps116
  have S0 : ∀ q : GrS w.drew, q.w.cell? ⟨b, 0, none⟩ = some (.string sA) := fun q => q.h.cell (w := w.drew) (cell_of_row _ _ _ _ _ _ HR.out)
  have S1 : ∀ q : GrS w.drew, q.w.cell? ⟨b, 1, none⟩ = some (.int .i64 0) := fun q => q.h.cell (w := w.drew) (cell_of_row _ _ _ _ _ _ HR.out)
  go_upto_region 1 with fail
  refine region_grow 16 37 (by kernel_rfl) rfl (by kernel_rfl) rfl rfl ?_
  simp only [List.take_succ_cons, List.take_zero, List.drop_succ_cons, List.drop_zero]
  refine seg 8 rfl rfl rfl rfl ?_
  simp only [List.take_succ_cons, List.take_zero, List.drop_succ_cons, List.drop_zero]
  repeat (go_big_quiet_step (fail))
  refine wpQuiet_nil ?_
  intro _
  refine grow_det (v := .tuple #[.int .i64 1, .int .i64 1, .int .i64 0]) rfl rfl rfl rfl rfl ?_ ?_
  · intro w1 hG
    go_simp
    refine (HI.out w1).mono ?_
    rintro e w' ⟨rfl, rfl⟩
    exact ⟨rfl, Gr.refl _⟩
  simp only [Act.put, List.setIfInBounds_toArray, List.set_cons_zero, List.set_cons_succ]
  refine seg 7 rfl rfl rfl rfl ?_
  simp only [List.take_succ_cons, List.take_zero, List.drop_succ_cons, List.drop_zero]
  repeat (go_big_quiet_step (fail))
  refine wpQuiet_nil ?_
  intro _
  refine grow_end0 rfl rfl ?_
  intro w2 hG
  have HG2 := Lib.hid ((Gr.drew w).trans hG)
  have HR2 : Hid (RdrAt b 0 w2) := Lib.hid (HG2.out.block HR.out)
  clear hG S0 S1 HI
  go_wp2_with fail
  refine (HW.out _).mono ?_
  rintro e w' ⟨rfl, rfl⟩
  go_wp2_with fail
  refine (HM.out _).mono ?_
  rintro e w' ⟨rfl, rfl⟩
  have c1 : w2.cell? ⟨b, 1, none⟩ = some (.int .i64 0) := cell_of_row _ _ _ _ _ _ HR2.out
  have f1 : w2.frozen? ⟨b, 1, none⟩ = false := frozen_of_row _ _ _ _ _ HR2.out
  go_wp2_with fail
  go_ret
  obtain ⟨hr, hc⟩ := rdr_set (j := 1) HR2.out
  refine ⟨rfl, hr, (Kpt.of_gr HG2.out (fun k hk => hk.1)).trans (Kpt.of_chg hc (fun k hk => ⟨Nat.lt_of_lt_of_le hk.1 HG2.out.size, fun e => by cases e; exact hk.2 rfl⟩))⟩
set_option maxRecDepth 100000 in
set_option maxHeartbeats 1000000 in
theorem txtA_any (b : Nat) (w : World) (h : RdrAt b 1 w) : Calls Tryz.prog 117 #[.pointer (some ⟨b, 0, none⟩)] w fun e w' => e = .returned (.string tA) ∧ RdrAt b 4 w' ∧ Kpt (fun k => k < w.heap.size ∧ k ≠ b) w w' := by
  have HI := Lib.hid (fun y => strA y)
  have HM := Lib.hid (fun y => mustA_true y)
  have HR := Lib.hid h
  clear h
  go_enter Tryz.func117, Tryz.ntmps117
  have S0 : ∀ q : GrS w.drew, q.w.cell? ⟨b, 0, none⟩ = some (.string sA) := fun q => q.h.cell (w := w.drew) (cell_of_row _ _ _ _ _ _ HR.out)
  have S1 : ∀ q : GrS w.drew, q.w.cell? ⟨b, 1, none⟩ = some (.int .i64 1) := fun q => q.h.cell (w := w.drew) (cell_of_row _ _ _ _ _ _ HR.out)
  go_upto_region 1 with fail
  refine region_grow 16 27 (by kernel_rfl) rfl (by kernel_rfl) rfl rfl ?_
  simp only [List.take_succ_cons, List.take_zero, List.drop_succ_cons, List.drop_zero]
  refine seg 8 rfl rfl rfl rfl ?_
  simp only [List.take_succ_cons, List.take_zero, List.drop_succ_cons, List.drop_zero]
  repeat (go_big_quiet_step (fail))
  refine wpQuiet_nil ?_
  intro _
  refine grow_det (v := .tuple #[.string tA, .int .i64 4, .int .i64 0]) rfl rfl rfl rfl rfl ?_ ?_
  · intro w1 hG
    go_simp
    refine (HI.out w1).mono ?_
    rintro e w' ⟨rfl, rfl⟩
    exact ⟨rfl, Gr.refl _⟩
  simp only [Act.put, List.setIfInBounds_toArray, List.set_cons_zero, List.set_cons_succ]
  refine seg 7 rfl rfl rfl rfl ?_
  simp only [List.take_succ_cons, List.take_zero, List.drop_succ_cons, List.drop_zero]
  repeat (go_big_quiet_step (fail))
  refine wpQuiet_nil ?_
  intro _
  refine grow_end0 rfl rfl ?_
  intro w2 hG
  have HG2 := Lib.hid ((Gr.drew w).trans hG)
  have HR2 : Hid (RdrAt b 1 w2) := Lib.hid (HG2.out.block HR.out)
  clear hG S0 S1 HI
  go_wp2_with fail
  refine (HM.out _).mono ?_
  rintro e w' ⟨rfl, rfl⟩
  have c1 : w2.cell? ⟨b, 1, none⟩ = some (.int .i64 1) := cell_of_row _ _ _ _ _ _ HR2.out
  have f1 : w2.frozen? ⟨b, 1, none⟩ = false := frozen_of_row _ _ _ _ _ HR2.out
  go_wp2_with fail
  go_ret
  obtain ⟨hr, hc⟩ := rdr_set (j := 4) HR2.out
  refine ⟨rfl, hr, (Kpt.of_gr HG2.out (fun k hk => hk.1)).trans (Kpt.of_chg hc (fun k hk => ⟨Nat.lt_of_lt_of_le hk.1 HG2.out.size, fun e => by cases e; exact hk.2 rfl⟩))⟩
end Go.Proofs.YtaoggehdkddgeaaGreatDoor
end
section
namespace Go.Proofs.YtaoggehdkddgeaaGreatDoor
open Go Go.RowKit Go.Shelf
attribute [local go_sem] gAt gUpon pUpon
attribute [local simp] Gr.refl Gr.alloc

theorem row2c {W : World} {g : Nat} {a b : Value} {t : TypeId} (h : W.heap[g]? = some (.cells #[a, b] t (0, 0))) : W.cell? ⟨g, 0, none⟩ = some a ∧ W.cell? ⟨g, 1, none⟩ = some b :=
  ⟨by rw [cell_of_row _ _ _ _ _ _ h]; rfl, by rw [cell_of_row _ _ _ _ _ _ h]; rfl⟩
theorem contA (w : World) : Calls Tryz.prog 150 #[.string tA, .func (.func 172) #[] #[]] w fun e w' => e = .returned (.bool false) ∧ Gr w w' := by
  refine (Tryz.strings_ContainsFunc_runes 172 #[] (enters_of Tryz.func172 (by kernel_rfl) rfl) otherR tA w (fun W r hr _ => line1_gives r hr W)).mono ?_
  rintro e w' ⟨rfl, hg⟩
  exact ⟨by rw [show decide (0 ≤ Lib.idxFunc otherR true tA) = false from by decide +kernel], hg⟩
set_option maxRecDepth 100000 in
set_option maxHeartbeats 1000000 in
theorem lineA_any (b : Nat) (w : World) (h : RdrAt b 1 w) : Calls Tryz.prog 119 #[.pointer (some ⟨b, 0, none⟩), .int .i64 1, .slice none 0 0] w fun e w' => e = .returned (.agg #[.string tA, .slice none 0 0]) ∧ RdrAt b 4 w' ∧ Kpt (fun k => k < w.heap.size ∧ k ≠ b) w w' := by
  have HTx := Lib.hid (fun y (hy : RdrAt b 1 y) => txtA_any b y hy)
  have HCo := Lib.hid (fun y => contA y)
  have HM := Lib.hid (fun y => mustA_true y)
  have HR := Lib.hid h
  have Hb : Hid (b < w.heap.size) := Lib.hid (Array.getElem?_eq_some_iff.1 h).1
  clear h
  have hs80 : decide ((tA.size : Int) ≤ 80) = true := by decide
  have hs80' : decide (tA.size ≤ 80) = true := by decide
  go_enter Tryz.func119, Tryz.ntmps119
  go_upto_region 3 with fail
  refine wp_gen (F := fun z => Gr w z ∧ z.heap[w.heap.size]? = some (.cells #[.string ⟨#[]⟩, .slice none 0 0] 206 (0, 0)) ∧ z.heap[w.heap.size + 1]? = some (.cells #[.string ⟨#[]⟩, .slice none 0 0] 206 (0, 0))) ?_ ?_
  · refine ⟨(Gr.alloc _ _).trans (Gr.alloc _ _), (Gr.alloc _ _).block (heap_alloc_new _ _), ?_⟩
    have := heap_alloc_new (w.alloc (.cells #[.string ⟨#[]⟩, .slice none 0 0] 206)) (.cells #[.string ⟨#[]⟩, .slice none 0 0] 206)
    rw [World.size_alloc] at this; exact this
  rintro w1 ⟨hg1, hr6, hr7⟩
  obtain ⟨b6, hb6⟩ : ∃ z, w.heap.size = z := ⟨_, rfl⟩
  have Hb6 : Hid (w.heap.size = b6) := Lib.hid hb6
  rw [hb6] at hr6 hr7
  simp only [hb6]
  obtain ⟨b7, hb7⟩ : ∃ z, b6 + 1 = z := ⟨_, rfl⟩
  have Hb7 : Hid (b6 + 1 = b7) := Lib.hid hb7
  rw [hb7] at hr7
  simp only [hb7]
  have HG1 := Lib.hid hg1
  have HR6 := Lib.hid hr6
  have HR7 := Lib.hid hr7
  have HR1 : Hid (RdrAt b 1 w1) := Lib.hid (hg1.block HR.out)
  have Hl : Hid (b6 < w1.heap.size ∧ b7 < w1.heap.size) := Lib.hid ⟨(Array.getElem?_eq_some_iff.1 hr6).1, (Array.getElem?_eq_some_iff.1 hr7).1⟩
  clear hg1 hr6 hr7 hb6 hb7
  go_wp2_with fail
  refine (HTx.out w1 HR1.out).mono ?_
  rintro e w2 ⟨rfl, hr, hk⟩
  have HR2 := Lib.hid hr
  have HK2 := Lib.hid hk
  have HR62 := Lib.hid (hk.block (k := b6) ⟨Hl.out.1, by have h1 := Hb.out; have h2 := Hb6.out; omega⟩ HR6.out)
  have HR72 := Lib.hid (hk.block (k := b7) ⟨Hl.out.2, by have h1 := Hb.out; have h2 := Hb6.out; have h3 := Hb7.out; omega⟩ HR7.out)
  clear hr hk HR1 HR6 HR7 HTx
  obtain ⟨k0, k1⟩ := row2c HR72.out
  have f0 : w2.frozen? ⟨b7, 0, none⟩ = false := frozen_of_row _ _ _ _ _ HR72.out
  go_upto_region 4 with fail
  clear k0 k1 f0
  have hch : Chg (some b7) w2 (w2.setCell ⟨b7, 0, none⟩ (.string tA)) := setCells_chg b7 [.string tA] 0 w2
  have hrow : (w2.setCell ⟨b7, 0, none⟩ (.string tA)).heap[b7]? = some (.cells #[.string tA, .slice none 0 0] 206 (0, 0)) := by
    rw [heap_setCell_same _ _ _ _ _ _ HR72.out]; rfl
  have HR73 := Lib.hid hrow
  have HR63 := Lib.hid (hch.block HR62.out (by have h3 := Hb7.out; simp; omega))
  have HR3 : Hid (RdrAt b 4 (w2.setCell ⟨b7, 0, none⟩ (.string tA))) := Lib.hid (hch.block HR2.out (by have h1 := Hb.out; have h2 := Hb6.out; have h3 := Hb7.out; simp; omega))
  have HK3 : Hid (Kpt (fun k => k < w.heap.size ∧ k ≠ b) w (w2.setCell ⟨b7, 0, none⟩ (.string tA))) := Lib.hid (((Kpt.of_gr HG1.out (fun k hk => hk.1)).trans (HK2.out.sub (fun k hk => ⟨Nat.lt_of_lt_of_le hk.1 HG1.out.size, hk.2⟩))).trans (Kpt.of_chg hch (fun k hk => ⟨Nat.lt_of_lt_of_le hk.1 (Nat.le_trans HG1.out.size HK2.out.size), by have h2 := Hb6.out; have h3 := Hb7.out; have h4 := hk.1; simp; omega⟩)))
  clear hch hrow HR62 HR72 HR2 HK2 HG1
  generalize w2.setCell ⟨b7, 0, none⟩ (.string tA) = w3 at HR73 HR63 HR3 HK3 ⊢
  obtain ⟨k0, k1⟩ := row2c HR73.out
  go_wp2_with fail
  refine (HCo.out _).mono ?_
  rintro e w4 ⟨rfl, hg⟩
  go_wp2_with fail
  refine (HM.out _).mono ?_
  rintro e w' ⟨rfl, rfl⟩
  clear k0 k1 hs80 hs80'
  have HR74 := Lib.hid (hg.block HR73.out)
  have HR64 := Lib.hid (hg.block HR63.out)
  have HR4 : Hid (RdrAt b 4 w4) := Lib.hid (hg.block HR3.out)
  have HK4 := Lib.hid (HK3.out.trans (Kpt.of_gr hg (fun k hk => Nat.lt_of_lt_of_le hk.1 HK3.out.size)))
  clear hg HR73 HR63 HR3 HK3 HCo HM
  obtain ⟨k0, k1⟩ := row2c HR74.out
  obtain ⟨q0, q1⟩ := row2c HR64.out
  have f0 : w4.frozen? ⟨b6, 0, none⟩ = false := frozen_of_row _ _ _ _ _ HR64.out
  have f1 : w4.frozen? ⟨b6, 1, none⟩ = false := frozen_of_row _ _ _ _ _ HR64.out
  go_wp2_with fail
  have hch : Chg (some b6) w4 ((w4.setCell ⟨b6, 0, none⟩ (.string tA)).setCell ⟨b6, 1, none⟩ (.slice none 0 0)) := setCells_chg b6 [.string tA, .slice none 0 0] 0 w4
  have hrow : ((w4.setCell ⟨b6, 0, none⟩ (.string tA)).setCell ⟨b6, 1, none⟩ (.slice none 0 0)).heap[b6]? = some (.cells #[.string tA, .slice none 0 0] 206 (0, 0)) := by
    rw [heap_setCell_same _ _ _ _ _ _ (show (w4.setCell ⟨b6, 0, none⟩ (.string tA)).heap[b6]? = some (.cells #[.string tA, .slice none 0 0] 206 (0, 0)) from by rw [heap_setCell_same _ _ _ _ _ _ HR64.out]; rfl)]; rfl
  obtain ⟨m0, m1⟩ := row2c hrow
  refine bodyPost_ret (v := .agg #[.string tA, .slice none 0 0]) ?_ rfl ⟨rfl, hch.block HR4.out (by have h1 := Hb.out; have h2 := Hb6.out; simp; omega), HK4.out.trans (Kpt.of_chg hch (fun k hk => ⟨Nat.lt_of_lt_of_le hk.1 HK4.out.size, by have h2 := Hb6.out; have h4 := hk.1; simp; omega⟩))⟩
  simp [results, Tryz.results119, go_sem, m0, m1]
theorem infoLineA : (Tryz.prog.info? 206).map (fun i => (i.zero, i.size, i.bytes)) = some (some (.agg #[.string ⟨#[]⟩, .slice none 0 0]), 2, 40) := by kernel_rfl
section
variable {P : Program} {ops : Array Oper} {Q : Exit → Act → World → Prop} {md : Region.Mode} {S : World → Prop} {X : Nat → Bool}
end
theorem row5c {W : World} {g : Nat} {a b c d e : Value} {t : TypeId} (h : W.heap[g]? = some (.cells #[a, b, c, d, e] t (0, 0))) :
    W.cell? ⟨g, 0, none⟩ = some a ∧ W.cell? ⟨g, 1, none⟩ = some b ∧ W.cell? ⟨g, 2, none⟩ = some c ∧ W.cell? ⟨g, 3, none⟩ = some d ∧ W.cell? ⟨g, 4, none⟩ = some e :=
  ⟨by rw [cell_of_row _ _ _ _ _ _ h]; rfl, by rw [cell_of_row _ _ _ _ _ _ h]; rfl, by rw [cell_of_row _ _ _ _ _ _ h]; rfl, by rw [cell_of_row _ _ _ _ _ _ h]; rfl, by rw [cell_of_row _ _ _ _ _ _ h]; rfl⟩
theorem row5set {W : World} {g : Nat} {a b c d e : Value} {t : TypeId} (x y z u v : Value) (h : W.heap[g]? = some (.cells #[a, b, c, d, e] t (0, 0))) :
    (((((W.setCell ⟨g, 0, none⟩ x).setCell ⟨g, 1, none⟩ y).setCell ⟨g, 2, none⟩ z).setCell ⟨g, 3, none⟩ u).setCell ⟨g, 4, none⟩ v).heap[g]? = some (.cells #[x, y, z, u, v] t (0, 0)) := by
  have h1 : (W.setCell ⟨g, 0, none⟩ x).heap[g]? = some (.cells #[x, b, c, d, e] t (0, 0)) := by rw [heap_setCell_same _ _ _ _ _ _ h]; rfl
  have h2 : ((W.setCell ⟨g, 0, none⟩ x).setCell ⟨g, 1, none⟩ y).heap[g]? = some (.cells #[x, y, c, d, e] t (0, 0)) := by rw [heap_setCell_same _ _ _ _ _ _ h1]; rfl
  have h3 : (((W.setCell ⟨g, 0, none⟩ x).setCell ⟨g, 1, none⟩ y).setCell ⟨g, 2, none⟩ z).heap[g]? = some (.cells #[x, y, z, d, e] t (0, 0)) := by rw [heap_setCell_same _ _ _ _ _ _ h2]; rfl
  have h4 : ((((W.setCell ⟨g, 0, none⟩ x).setCell ⟨g, 1, none⟩ y).setCell ⟨g, 2, none⟩ z).setCell ⟨g, 3, none⟩ u).heap[g]? = some (.cells #[x, y, z, u, e] t (0, 0)) := by rw [heap_setCell_same _ _ _ _ _ _ h3]; rfl
  rw [heap_setCell_same _ _ _ _ _ _ h4]; rfl
/-- what lies in memory through read's rounds -/
def RdS (b4 b5 br : Nat) (w : World) (i : Nat) (W : World) : Prop := Gr w W ∧ W.heap[b4]? = some (.cells #[.bool false, .slice none 0 0, .int .i64 0, .int .i64 0, .string ⟨#[]⟩] 136 (0, 0)) ∧
  ((i = 0 ∧ RdrAt br 1 W ∧ W.heap[b5]? = some (.cells #[.bool false, .slice none 0 0, .int .i64 0, .int .i64 0, .string ⟨#[]⟩] 136 (0, 0))) ∨
   (i = 1 ∧ RdrAt br 4 W ∧ ∃ g o c, W.heap[b5]? = some (.cells #[.bool false, .slice (some ⟨g, o, none⟩) 1 c, .int .i64 0, .int .i64 0, .string ⟨#[]⟩] 136 (0, 0)) ∧ Own (br + 1) 2 (.slice (some ⟨g, o, none⟩) 1 c) 1 [.string tA, .slice none 0 0] W))
theorem lnA_one : ∀ u ∈ [Value.string tA, .slice none 0 0], u.oneCell' = true := by
  intro u hu
  rcases List.mem_cons.1 hu with rfl | hu
  · rfl
  · rw [List.mem_singleton.1 hu]; rfl
theorem sA_ne : (sA.toList == ([] : List UInt8)) = false := by decide +kernel
set_option maxRecDepth 100000 in
set_option maxHeartbeats 2000000 in
theorem readA_any (w : World) : Calls Tryz.prog 56 #[.int .i64 1, .string sA] w fun e w' => ∃ v, e = .returned (.agg #[.bool false, v, .int .i64 0, .int .i64 0, .string ⟨#[]⟩]) ∧ Own w.heap.size 2 v 1 [.string tA, .slice none 0 0] w' ∧ Gr w w' := by
  obtain ⟨iE, hiE, hzE, hszE, hbE⟩ := info_parts infoLineA
  have HI := Lib.hid hiE
  have HI0 := Lib.hid hzE
  have HI1 := Lib.hid hszE
  have HI2 := Lib.hid hbE
  have HW := Lib.hid (fun y => withinA_true (n := 1) (lo := 1) (hi := 8) ⟨by decide, by decide⟩ y)
  have HM := Lib.hid (fun y => mustA_true y)
  have HNu := Lib.hid (fun (b : Nat) (y : World) (hy : RdrAt b 0 y) => numA_any b y hy)
  have HLn := Lib.hid (fun (b : Nat) (y : World) (hy : RdrAt b 1 y) => lineA_any b y hy)
  clear hiE hzE hszE hbE
  go_enter Tryz.func56, Tryz.ntmps56
  go_upto_region 1 with fail
  refine wp_gen (F := fun z => Gr w z ∧ z.heap[w.heap.size]? = some (.cells #[.bool false, .slice none 0 0, .int .i64 0, .int .i64 0, .string ⟨#[]⟩] 136 (0, 0))) ⟨Gr.alloc _ _, heap_alloc_new _ _⟩ ?_
  rintro w1 ⟨hg1, hr4⟩
  obtain ⟨b4, hb4⟩ : ∃ z, w.heap.size = z := ⟨_, rfl⟩
  have Hb4 : Hid (w.heap.size = b4 ∧ b4 < w1.heap.size) := Lib.hid ⟨hb4, by rw [← hb4]; exact (Array.getElem?_eq_some_iff.1 hr4).1⟩
  rw [hb4] at hr4
  simp only [hb4]
  have HG1 := Lib.hid hg1
  have HR4 := Lib.hid hr4
  clear hg1 hr4 hb4
  go_wp2_with fail
  refine (HW.out _).mono ?_
  rintro e w' ⟨rfl, rfl⟩
  go_wp2_with fail
  refine (HM.out _).mono ?_
  rintro e w' ⟨rfl, rfl⟩
  go_upto_region 8 with fail
  refine wp_gen (F := fun z => Gr w1 z ∧ z.heap[w1.heap.size]? = some (.cells #[.bool false, .slice none 0 0, .int .i64 0, .int .i64 0, .string ⟨#[]⟩] 136 (0, 0)) ∧ RdrAt (w1.heap.size + 1) 0 z) ?_ ?_
  · refine ⟨(Gr.alloc _ _).trans (Gr.alloc _ _), (Gr.alloc _ _).block (heap_alloc_new _ _), ?_⟩
    have := heap_alloc_new (w1.alloc (.cells #[.bool false, .slice none 0 0, .int .i64 0, .int .i64 0, .string ⟨#[]⟩] 136)) (.cells #[.string sA, .int .i64 0] 204)
    rw [World.size_alloc] at this; exact this
  rintro w2 ⟨hg2, hr5, hrr⟩
  obtain ⟨b5, hb5⟩ : ∃ z, w1.heap.size = z := ⟨_, rfl⟩
  rw [hb5] at hr5 hrr
  simp only [hb5]
  obtain ⟨br, hbr⟩ : ∃ z, b5 + 1 = z := ⟨_, rfl⟩
  rw [hbr] at hrr
  simp only [hbr]
  have Hbs : Hid (b4 < b5 ∧ b5 < br ∧ w.heap.size ≤ b4 ∧ br < w2.heap.size) := Lib.hid ⟨by have := Hb4.out; omega, by omega, by have := Hb4.out; omega, (Array.getElem?_eq_some_iff.1 hrr).1⟩
  have HG2 := Lib.hid (HG1.out.trans hg2)
  have HR42 := Lib.hid (hg2.block HR4.out)
  have HR5 := Lib.hid hr5
  have HRr := Lib.hid hrr
  clear hg2 hr5 hrr hb5 hbr HG1 HR4
  have e1 := sA_ne
  go_wp2_with fail
  refine (HNu.out br w2 HRr.out).mono ?_
  rintro e w3 ⟨rfl, hr, hk⟩
  have hbs := Hbs.out
  have HS3 : Hid (RdS b4 b5 br w 0 w3) := Lib.hid ⟨Kpt.step HG2.out (hk.sub (K' := fun k => k < w.heap.size) (fun k hk => ⟨by have := HG2.out.size; omega, by omega⟩)) (Nat.le_refl _), hk.block (k := b4) ⟨by omega, by omega⟩ HR42.out, .inl ⟨rfl, hr, hk.block (k := b5) ⟨by omega, by omega⟩ HR5.out⟩⟩
  clear hr hk HG2 HR42 HR5 HRr HNu e1 hbs
  go_wp2_with fail
  go_loopw [15] (fun v15 W => ∃ i : Nat, i ≤ 1 ∧ v15 = .int .i64 (i : Int) ∧ Hid (RdS b4 b5 br w i W)) (fun v15 _ => 1 - (intOf v15).toNat)
  case atStart => exact ⟨0, by omega, rfl, HS3⟩
  clear HS3
  case round =>
    obtain ⟨i, hi, rfl, HS⟩ := hrel
    obtain ⟨hg, hr4, hor⟩ := HS.out
    have HG := Lib.hid hg
    have HR4 := Lib.hid hr4
    clear HS hg hr4
    have hbs := Hbs.out
    rcases (show i = 0 ∨ i = 1 by omega) with rfl | rfl
    · obtain ⟨hrr, hr5⟩ : RdrAt br 1 wr ∧ wr.heap[b5]? = some (.cells #[.bool false, .slice none 0 0, .int .i64 0, .int .i64 0, .string ⟨#[]⟩] 136 (0, 0)) := by
        rcases hor with ⟨_, h1, h2⟩ | ⟨h, _⟩
        · exact ⟨h1, h2⟩
        · omega
      have HRr := Lib.hid ((Gr.drew wr).block hrr)
      have HR5 := Lib.hid ((Gr.drew wr).block hr5)
      have HR4d := Lib.hid ((Gr.drew wr).block HR4.out)
      have HGd := Lib.hid (HG.out.trans (Gr.drew wr))
      clear hor hrr hr5 HR4 HG
      go_upto_region 6 with fail
      have hS0 : (fun y : World => y.cell? ⟨b5, 1, none⟩ = some (.slice none 0 0)) wr.drew := (row5c HR5.out).2.1
      refine u_begin (fun y : World => y.cell? ⟨b5, 1, none⟩ = some (.slice none 0 0)) (fun j => decide (9 ≤ j)) (by kernel_rfl) (by assumption) (fun hHeld => ?_)
      generalize wr.drew = wz at *
      have Hz5 : Hid (b5 < wz.heap.size ∧ br < wz.heap.size ∧ w.heap.size ≤ wz.heap.size) := Lib.hid ⟨(Array.getElem?_eq_some_iff.1 HR5.out).1, (Array.getElem?_eq_some_iff.1 HRr.out).1, HGd.out.size⟩
      refine u_take 0 (v := ?_) rfl rfl (by kernel_rfl) (by kernel_rfl) (by kernel_rfl) (by kernel_rfl) (fun _ _ _ h => h) (by rfl) (by assumption) ?_ ?_
      rotate_left
      · (intro w hSw; (try dsimp only at hSw); go_simp; try with_reducible rfl)
      try simp only [Act.put, List.setIfInBounds_toArray, List.set_cons_zero, List.set_cons_succ]
      refine u_take 1 (v := ?_) rfl rfl (by kernel_rfl) (by kernel_rfl) (by kernel_rfl) (by kernel_rfl) (fun _ _ _ h => h) (by rfl) (by assumption) ?_ ?_
      rotate_left
      · (intro w hSw; (try dsimp only at hSw); go_simp; try with_reducible rfl)
      try simp only [Act.put, List.setIfInBounds_toArray, List.set_cons_zero, List.set_cons_succ]
      refine u_take 2 (v := ?_) rfl rfl (by kernel_rfl) (by kernel_rfl) (by kernel_rfl) (by kernel_rfl) (fun _ _ _ h => h) (by rfl) (by assumption) ?_ ?_
      rotate_left
      · (intro w hSw; (try dsimp only at hSw); go_simp; try with_reducible rfl)
      try simp only [Act.put, List.setIfInBounds_toArray, List.set_cons_zero, List.set_cons_succ]
      refine u_take 3 (v := ?_) rfl rfl (by kernel_rfl) (by kernel_rfl) (by kernel_rfl) (by kernel_rfl) (fun _ _ _ h => h) (by rfl) (by assumption) ?_ ?_
      rotate_left
      · (intro w hSw; (try dsimp only at hSw); go_simp; try with_reducible rfl)
      try simp only [Act.put, List.setIfInBounds_toArray, List.set_cons_zero, List.set_cons_succ]
      refine u_take 4 (v := ?_) rfl rfl (by kernel_rfl) (by kernel_rfl) (by kernel_rfl) (by kernel_rfl) (fun _ _ _ h => h) (by rfl) (by assumption) ?_ ?_
      rotate_left
      · (intro w hSw; (try dsimp only at hSw); go_simp; try with_reducible rfl)
      try simp only [Act.put, List.setIfInBounds_toArray, List.set_cons_zero, List.set_cons_succ]
      refine u_take 5 (v := ?_) rfl rfl (by kernel_rfl) (by kernel_rfl) (by kernel_rfl) (by kernel_rfl) (fun _ _ _ h => h) (by rfl) (by assumption) ?_ ?_
      rotate_left
      · (intro w hSw; (try dsimp only at hSw); go_simp; try with_reducible rfl)
      try simp only [Act.put, List.setIfInBounds_toArray, List.set_cons_zero, List.set_cons_succ]
      refine u_step 6 (by kernel_rfl) rfl (by rfl) ?_
      go_simp
      refine (HLn.out br wz HRr.out).mono ?_
      rintro e w5 ⟨rfl, hr, hk⟩
      have hz := Hz5.out
      have HR55 := Lib.hid (hk.block (k := b5) ⟨by omega, by omega⟩ HR5.out)
      have HR45 := Lib.hid (hk.block (k := b4) ⟨by omega, by omega⟩ HR4d.out)
      have HRr5 := Lib.hid hr
      have HG5 := Lib.hid (Kpt.step HGd.out (hk.sub (K' := fun k => k < w.heap.size) (fun k hk => ⟨by omega, by omega⟩)) (Nat.le_refl _))
      have Hs5 := Lib.hid hk.size
      clear hr hk hHeld hS0 HR5 HR4d HRr HGd
      have hS5 : (fun y : World => y.cell? ⟨b5, 1, none⟩ = some (.slice none 0 0)) w5 := (row5c HR55.out).2.1
      refine .inl ⟨_, rfl, hS5, ?_⟩
      have hHeld := hS5
      refine u_step 7 (by kernel_rfl) rfl (by rfl) ?_
      go_simp
      have HGe := Lib.hid (Gr.alloc w5 (.cells #[.string tA, .slice none 0 0] 206))
      have HCells := Lib.hid (cells_new_at w5 [.string tA, .slice none 0 0] 206)
      refine ⟨HGe.out.cell hS5, ?_⟩
      try simp only [Act.put, List.setIfInBounds_toArray, List.set_cons_zero, List.set_cons_succ]
      refine u_one 8 (by kernel_rfl) rfl ?_
      refine wpList_append_Own rfl (.tmp 18) (.tmp 24) 134 rfl 206 iE (.agg #[.string ⟨#[]⟩, .slice none 0 0]) 2 40 Tryz.underlying134 HI.out HI0.out HI1.out HI2.out rfl (by decide) rfl (Own.nil w5.heap.size _ _) ⟨w5.heap.size, 0, none⟩ 1 1 [.string tA, .slice none 0 0] rfl rfl HCells.out lnA_one (by decide) ?b1 ?b2 HGe.out.size ?_
      case b1 => decide
      case b2 => decide
      intro v9 w9 hown hchg _
      change Chg none _ _ at hchg
      have hz' := HGe.out.size
      have hs5 := Hs5.out
      have HOx : Hid (Own (br + 1) 2 v9 1 [.string tA, .slice none 0 0] w9) := Lib.hid (hown.mono (by omega))
      have HR59 := Lib.hid (hchg.block (HGe.out.block HR55.out) (by simp))
      have HR49 := Lib.hid (hchg.block (HGe.out.block HR45.out) (by simp))
      have HRr9 : Hid (RdrAt br 4 w9) := Lib.hid (hchg.block (HGe.out.block HRr5.out) (by simp))
      have HG9 := Lib.hid ((HG5.out.trans HGe.out).trans hchg.gr)
      have hS9 : (fun y : World => y.cell? ⟨b5, 1, none⟩ = some (.slice none 0 0)) w9 := (row5c HR59.out).2.1
      clear hown hchg hS5 hHeld HCells HGe HR55 HR45 HRr5 HG5 hz hz'
      refine ⟨fun _ => hS9, ?_⟩
      try simp only [Act.put, List.setIfInBounds_toArray]
      refine u_tail2 9  10 (by decide) (by kernel_rfl) rfl rfl rfl ?_
      obtain ⟨g9, o9, c9, rfl, hg9, -, -⟩ := HOx.out.shape (by decide)
      have f5 : w9.frozen? ⟨b5, 1, none⟩ = false := frozen_of_row _ _ _ _ _ HR59.out
      have hch : Chg (some b5) w9 (w9.setCell ⟨b5, 1, none⟩ (.slice (some ⟨g9, o9, none⟩) 1 c9)) := setCells_chg b5 [.slice (some ⟨g9, o9, none⟩) 1 c9] 1 w9
      have HFin : Hid (RdS b4 b5 br w 1 (w9.setCell ⟨b5, 1, none⟩ (.slice (some ⟨g9, o9, none⟩) 1 c9))) := Lib.hid ⟨Kpt.step HG9.out (Kpt.of_chg (K := fun k => k < w.heap.size) hch (fun k hk => ⟨Nat.lt_of_lt_of_le hk HG9.out.size, by simp; omega⟩)) (Nat.le_refl _), hch.block HR49.out (by simp; omega), .inr ⟨rfl, hch.block HRr9.out (by simp; omega), g9, o9, c9, by rw [heap_setCell_same _ _ _ _ _ _ HR59.out]; rfl, HOx.out.keep hch (.inr (by simp [Value.ownBlock]; omega))⟩⟩
      have k1 := (row5c HR59.out).2.1
      clear hch HOx HR59 HR49 HRr9 HG9 hS9 HLn HW HM
      go_wp2_with fail
      go_roundw
      case rel => exact ⟨1, by omega, by go_num, HFin⟩
      case measure => simp [intOf]
    · obtain ⟨hrr, gv, ov, cv, hr5, hov⟩ : RdrAt br 4 wr ∧ ∃ g o c, wr.heap[b5]? = some (.cells #[.bool false, .slice (some ⟨g, o, none⟩) 1 c, .int .i64 0, .int .i64 0, .string ⟨#[]⟩] 136 (0, 0)) ∧ Own (br + 1) 2 (.slice (some ⟨g, o, none⟩) 1 c) 1 [.string tA, .slice none 0 0] wr := by
        rcases hor with ⟨h, _⟩ | ⟨_, h1, g, o, c, h2, h3⟩
        · omega
        · exact ⟨h1, g, o, c, h2, h3⟩
      have HOv := Lib.hid hov
      have HRr := Lib.hid hrr
      have HR5 := Lib.hid hr5
      clear hor hrr hr5 hov
      obtain ⟨q0, q1⟩ := row2c HRr.out
      have hsz : (sA.size : Int) = 4 := by decide
      have hsz' : sA.size = 4 := by decide
      go_wp2_with fail
      refine (HM.out _).mono ?_
      rintro e w' ⟨rfl, rfl⟩
      clear q0 q1 hsz hsz'
      obtain ⟨k0, k1, k2, k3, k4⟩ := row5c HR5.out
      obtain ⟨m0, m1, m2, m3, m4⟩ := row5c HR4.out
      have f0 : wr.frozen? ⟨b4, 0, none⟩ = false := frozen_of_row _ _ _ _ _ HR4.out
      have f1 : wr.frozen? ⟨b4, 1, none⟩ = false := frozen_of_row _ _ _ _ _ HR4.out
      have f2 : wr.frozen? ⟨b4, 2, none⟩ = false := frozen_of_row _ _ _ _ _ HR4.out
      have f3 : wr.frozen? ⟨b4, 3, none⟩ = false := frozen_of_row _ _ _ _ _ HR4.out
      have f4 : wr.frozen? ⟨b4, 4, none⟩ = false := frozen_of_row _ _ _ _ _ HR4.out
      go_wp2_with fail
      have hch := setCells_chg b4 [.bool false, .slice (some ⟨gv, ov, none⟩) 1 cv, .int .i64 0, .int .i64 0, .string ⟨#[]⟩] 0 wr
      have hrow := row5set (.bool false) (.slice (some ⟨gv, ov, none⟩) 1 cv) (.int .i64 0) (.int .i64 0) (.string ⟨#[]⟩) HR4.out
      clear k0 k1 k2 k3 k4 m0 m1 m2 m3 m4 f0 f1 f2 f3 f4
      obtain ⟨m0, m1, m2, m3, m4⟩ := row5c hrow
      dsimp only [World.setCells, Nat.zero_add, Nat.reduceAdd] at hch m0 m1 m2 m3 m4
      have hb4 : w.heap.size ≤ b4 := hbs.2.2.1
      refine bodyPost_ret (v := .agg #[.bool false, .slice (some ⟨gv, ov, none⟩) 1 cv, .int .i64 0, .int .i64 0, .string ⟨#[]⟩]) ?_ rfl ⟨_, rfl, (HOv.out.keep hch (.inr (by have := HOv.out.ge (g := gv) rfl; simp [Value.ownBlock]; omega))).mono (by omega), Kpt.step HG.out (Kpt.of_chg (K := fun k => k < w.heap.size) hch (fun k hk => ⟨Nat.lt_of_lt_of_le hk HG.out.size, by simp; omega⟩)) (Nat.le_refl _)⟩
      simp [results, Tryz.results56, go_sem, m0, m1, m2, m3, m4]
end Go.Proofs.YtaoggehdkddgeaaGreatDoor
end
section
namespace Go.Proofs.YtaoggehdkddgeaaGreatDoor
open Go Go.RowKit Go.Shelf
attribute [local go_sem] gAt gUpon
attribute [local simp] Gr.refl Gr.alloc

set_option maxRecDepth 100000 in
theorem idxI_one (g o c : Nat) (w : World) (h : w.cell? ⟨g, o, none⟩ = some (.int .i64 1)) :
    Calls Tryz.prog 162 #[.slice (some ⟨g, o, none⟩) 1 c, .int .i64 1] w fun e w' => e = .returned (.int .i64 0) ∧ w = w' := by
  have H := Lib.hid h
  clear h
  go_enter Tryz.func162, Tryz.ntmps162
  go_wp2_with fail
  go_loopw [5, 8] (fun _ v8 W => v8 = .int .i64 0 ∧ w = W) (fun _ _ _ => 0)
  case atStart => exact ⟨rfl, rfl⟩
  case round =>
    obtain ⟨rfl, rfl⟩ := hrel
    have k0 : w.cell? ⟨g, o + 0, none⟩ = some (.int .i64 1) := H.out
    have k1 := H.out
    go_wp2_with fail
    go_ret
    exact ⟨rfl, rfl⟩
theorem hasI_one (g o c : Nat) (w : World) (h : w.cell? ⟨g, o, none⟩ = some (.int .i64 1)) :
    Calls Tryz.prog 115 #[.slice (some ⟨g, o, none⟩) 1 c, .int .i64 1] w fun e w' => e = .returned (.bool true) ∧ w = w' := by
  have HI := Lib.hid (idxI_one g o c w h)
  clear h
  go_enter Tryz.func115, Tryz.ntmps115
  go_wp2_with fail
  refine HI.out.mono ?_
  rintro e w2 ⟨rfl, rfl⟩
  go_wp2_with fail
  go_ret
  exact ⟨rfl, rfl⟩
/-- the kinds lie at b5 -/
def KAt (b5 b1 c1 : Nat) (w : World) : Prop := w.cell? ⟨b5, 3, none⟩ = some (.slice (some ⟨b1, 0, none⟩) 1 1) ∧ w.cell? ⟨b5, 4, none⟩ = some (.func (.func 120) #[] #[]) ∧
  w.cell? ⟨b5, 5, none⟩ = some (.func (.func 176) #[] #[.pointer (some ⟨c1, 0, none⟩)]) ∧ KdAt b1 c1 w
theorem KAt.gr {b5 b1 c1 : Nat} {w y : World} (h : KAt b5 b1 c1 w) (hg : Gr w y) : KAt b5 b1 c1 y := ⟨hg.cell h.1, hg.cell h.2.1, hg.cell h.2.2.1, h.2.2.2.gr hg⟩
def StepAt (g o : Nat) (w : World) : Prop := w.cell? ⟨g, o, none⟩ = some (.int .i64 1) ∧ w.cell? ⟨g, o + 1, none⟩ = some (.int .i64 0)
theorem StepAt.gr {g o : Nat} {w y : World} (h : StepAt g o w) (hg : Gr w y) : StepAt g o y := ⟨hg.cell h.1, hg.cell h.2⟩
set_option maxRecDepth 100000 in
set_option maxHeartbeats 2000000 in
theorem valid1_any (b5 b1 c1 bp : Nat) (w : World) (hk : KAt b5 b1 c1 w) (hp : w.cell? ⟨bp, 0, none⟩ = some (.int .i64 1)) :
    Calls Tryz.prog 114 #[.agg #[.int .i64 1, .int .i64 0], .pointer (some ⟨b5, 0, none⟩), .pointer (some ⟨bp, 0, none⟩)] w fun e w' => e = .returned (.bool false) ∧ Gr w w' := by
  have HW := Lib.hid (fun y => withinA_true (n := 1) (lo := 1) (hi := 6) ⟨by decide, by decide⟩ y)
  have HN := Lib.hid (fun y => none0_any y)
  have HC := Lib.hid (fun y (hg : Gr w y) => hasI_one b1 0 1 y (hg.cell hk.2.2.2.1))
  have HK := Lib.hid hk
  have HP := Lib.hid hp
  clear hk hp
  go_enter Tryz.func114, Tryz.ntmps114
  go_upto_region 1 with fail
  refine wp_gen (F := fun z => Gr w z ∧ z.heap[w.heap.size]? = some (.cells #[.int .i64 1, .int .i64 0] 68 (0, 0))) ⟨Gr.alloc _ _, heap_alloc_new _ _⟩ ?_
  rintro z1 ⟨hg1, hr1⟩
  have HG1 := Lib.hid hg1
  have HR1 := Lib.hid hr1
  clear hg1 hr1
  obtain ⟨b3, hb3⟩ : ∃ z, w.heap.size = z := ⟨_, rfl⟩
  rw [hb3] at HR1
  simp only [hb3]
  clear hb3
  have S0 : ∀ q : GrS z1.drew, q.w.cell? ⟨b3, 0, none⟩ = some (.int .i64 1) := fun q => q.h.cell (w := z1.drew) (row2c HR1.out).1
  have S1 : ∀ q : GrS z1.drew, q.w.cell? ⟨b3, 1, none⟩ = some (.int .i64 0) := fun q => q.h.cell (w := z1.drew) (row2c HR1.out).2
  have S2 : ∀ q : GrS z1.drew, q.w.cell? ⟨b5, 3, none⟩ = some (.slice (some ⟨b1, 0, none⟩) 1 1) := fun q => q.h.cell (w := z1.drew) (HK.out.gr HG1.out).1
  have S3 : ∀ q : GrS z1.drew, q.w.cell? ⟨b5, 4, none⟩ = some (.func (.func 120) #[] #[]) := fun q => q.h.cell (w := z1.drew) (HK.out.gr HG1.out).2.1
  have S4 : ∀ q : GrS z1.drew, q.w.cell? ⟨bp, 0, none⟩ = some (.int .i64 1) := fun q => q.h.cell (w := z1.drew) (HG1.out.cell HP.out)
  refine region_grow16 25 30 (by kernel_rfl) rfl (by kernel_rfl) rfl rfl ?_
  simp only [List.take_succ_cons, List.take_zero, List.drop_succ_cons, List.drop_zero]
  refine seg 2 rfl rfl rfl rfl ?_
  simp only [List.take_succ_cons, List.take_zero, List.drop_succ_cons, List.drop_zero]
  repeat (go_big_quiet_step (fail))
  refine wpQuiet_nil ?_
  intro _
  refine grow_det (v := .bool true) rfl rfl rfl rfl rfl ?_ ?_
  · intro w1 hG
    go_simp
    refine (HW.out w1).mono ?_
    rintro e w' ⟨rfl, rfl⟩
    exact ⟨rfl, Gr.refl _⟩
  simp only [Act.put, List.setIfInBounds_toArray, List.set_cons_zero, List.set_cons_succ]
  refine seg 8 rfl rfl rfl rfl ?_
  simp only [List.take_succ_cons, List.take_zero, List.drop_succ_cons, List.drop_zero]
  repeat (go_big_quiet_step (fail))
  refine wpQuiet_nil ?_
  intro _
  refine grow_det (v := .bool true) rfl rfl rfl rfl rfl ?_ ?_
  · intro w1 hG
    go_simp
    refine (HC.out w1 (HG1.out.trans ((Gr.drew z1).trans hG))).mono ?_
    rintro e w' ⟨rfl, rfl⟩
    exact ⟨rfl, Gr.refl _⟩
  simp only [Act.put, List.setIfInBounds_toArray, List.set_cons_zero, List.set_cons_succ]
  refine seg 10 rfl rfl rfl rfl ?_
  simp only [List.take_succ_cons, List.take_zero, List.drop_succ_cons, List.drop_zero]
  repeat (go_big_quiet_step (fail))
  refine wpQuiet_nil ?_
  intro _
  refine grow_det (v := .bool true) rfl rfl rfl rfl rfl ?_ ?_
  · intro w1 hG
    go_simp
    refine (HN.out w1).mono ?_
    rintro e w' ⟨rfl, rfl⟩
    exact ⟨rfl, Gr.refl _⟩
  simp only [Act.put, List.setIfInBounds_toArray, List.set_cons_zero, List.set_cons_succ]
  refine seg 2 rfl rfl rfl rfl ?_
  simp only [List.take_succ_cons, List.take_zero, List.drop_succ_cons, List.drop_zero]
  repeat (go_big_quiet_step (fail))
  refine wpQuiet_nil ?_
  intro _
  refine grow_end0 rfl rfl ?_
  intro w2 hG
  have HG2 := Lib.hid (HG1.out.trans ((Gr.drew z1).trans hG))
  clear hG S0 S1 S2 S3 S4
  go_wp2_with fail
  go_ret
  exact ⟨rfl, HG2.out⟩
set_option maxRecDepth 100000 in
set_option maxHeartbeats 1000000 in
theorem idxStep_one (g o c b5 b1 c1 bp : Nat) (w : World) (hk : KAt b5 b1 c1 w) (hp : w.cell? ⟨bp, 0, none⟩ = some (.int .i64 1)) (h : StepAt g o w) :
    Calls Tryz.prog 161 #[.slice (some ⟨g, o, none⟩) 1 c, .func (.func 114) #[] #[.pointer (some ⟨b5, 0, none⟩), .pointer (some ⟨bp, 0, none⟩)]] w fun e w' => e = .returned (.int .i64 (-1)) ∧ Gr w w' := by
  have HF := Lib.hid (fun y (hg : Gr w y) => valid1_any b5 b1 c1 bp y (hk.gr hg) (hg.cell hp))
  have HS := Lib.hid h
  clear h hk hp
  go_enter Tryz.func161, Tryz.ntmps161
  go_wp2_with fail
  go_loopw [5, 8] (fun _ v8 W => ∃ i : Nat, i ≤ 1 ∧ v8 = .int .i64 (i : Int) ∧ Hid (Gr w W)) (fun _ v8 _ => 1 - (intOf v8).toNat)
  case atStart => exact ⟨0, by omega, rfl, Lib.hid (Gr.refl _)⟩
  case round =>
    obtain ⟨i, hi, rfl, HG⟩ := hrel
    rcases (show i = 0 ∨ i = 1 by omega) with rfl | rfl
    · obtain ⟨k0, k1⟩ := HS.out.gr HG.out
      go_wp2_with fail
      clear k0 k1
      refine (HF.out _ HG.out).mono ?_
      rintro e w2 ⟨rfl, hg⟩
      have HG2 := Lib.hid (HG.out.trans hg)
      clear hg HG
      go_wp2_with fail
      go_roundw
      case rel => exact ⟨1, by omega, by go_num, HG2⟩
      case measure => simp [intOf]
    · go_wp2_with fail
      go_ret
      exact ⟨rfl, HG.out⟩
theorem conStep_one (g o c b5 b1 c1 bp : Nat) (w : World) (hk : KAt b5 b1 c1 w) (hp : w.cell? ⟨bp, 0, none⟩ = some (.int .i64 1)) (h : StepAt g o w) :
    Calls Tryz.prog 113 #[.slice (some ⟨g, o, none⟩) 1 c, .func (.func 114) #[] #[.pointer (some ⟨b5, 0, none⟩), .pointer (some ⟨bp, 0, none⟩)]] w fun e w' => e = .returned (.bool false) ∧ Gr w w' := by
  have HI := Lib.hid (idxStep_one g o c b5 b1 c1 bp w hk hp h)
  clear h hk hp
  go_enter Tryz.func113, Tryz.ntmps113
  go_wp2_with fail
  refine HI.out.mono ?_
  rintro e w2 ⟨rfl, hg⟩
  have HG := Lib.hid hg
  clear hg HI
  go_wp2_with fail
  go_ret
  exact ⟨rfl, HG.out⟩
theorem kdL_one {b1 c1 : Nat} {R : List Value} (h : ∀ u ∈ R, u.oneCell' = true) : ∀ u ∈ kdL b1 c1 R, u.oneCell' = true := by
  unfold kdL
  simp only [List.cons_append, List.nil_append]
  repeat (refine List.forall_mem_cons.2 ⟨rfl, ?_⟩)
  exact h
/-- behind the store of the kinds into a block made for them -/
theorem kds_store {w0 w wF : World} {b5 b1 c1 : Nat} {R : List Value} {t : TypeId} {cs : Array Value} (hR : R.length = 15) (hcs : cs.size = 21) (hr : w.heap[b5]? = some (.cells cs t (0, 0))) (hk : KdAt b1 c1 w) (hb : w0.heap.size ≤ b5) (hlt : b1 ≠ b5 ∧ c1 ≠ b5) (hg : Gr w0 w)
    (hF : w.setCells b5 0 (kdL b1 c1 R) = wF) : Gr w0 wF ∧ KAt b5 b1 c1 wF := by
  subst hF
  have hc := csAt_set w b5 (kdL b1 c1 R) (there_row hr _ (by rw [hcs]; simp [kdL, hR]))
  have hch := setCells_chg b5 (kdL b1 c1 R) 0 w
  exact ⟨gr_step hg (Gr.refl _) hch (fun g e => by cases e; omega), hc 3 _ rfl, hc 4 _ rfl, hc 5 _ rfl, hch.cell hk.1 (by simp; exact hlt.1), hch.cell hk.2 (by simp; exact hlt.2)⟩
set_option maxRecDepth 100000 in
set_option maxHeartbeats 2000000 in
theorem validA_any (g o c : Nat) (w : World) (h : StepAt g o w) : Calls Tryz.prog 55 #[.int .i64 1, .slice (some ⟨g, o, none⟩) 1 c] w fun e w' => e = .returned (.bool true) ∧ Gr w w' := by
  have HS := Lib.hid h
  have HW := Lib.hid (fun y => withinA_true (n := 1) (lo := 1) (hi := 8) ⟨by decide, by decide⟩ y)
  clear h
  go_enter Tryz.func55, Tryz.ntmps55
  go_upto_region 1 with fail
  refine wp_gen (F := fun z => Gr w z ∧ z.cell? ⟨w.heap.size, 0, none⟩ = some (.int .i64 1)) ⟨Gr.alloc _ _, cell_of_row _ _ _ _ _ _ (heap_alloc_new _ _)⟩ ?_
  rintro z1 ⟨hg1, hr1⟩
  have HG1 := Lib.hid hg1
  have HR1 := Lib.hid hr1
  clear hg1 hr1
  obtain ⟨b2, hb2⟩ : ∃ z, w.heap.size = z := ⟨_, rfl⟩
  rw [hb2] at HR1
  simp only [hb2]
  clear hb2
  have HKd := Lib.hid (fun y => kinds_any y)
  go_wp2_with fail
  refine (HKd.out _).mono ?_
  rintro e z2 ⟨b1, c1, R, rfl, hR, hone, hk, hg, -⟩
  have HR := Lib.hid hR
  have HOne := Lib.hid hone
  have HK := Lib.hid hk
  have HG2 := Lib.hid hg
  have hlen : (kdL b1 c1 R).toArray.size = 21 := by simp [kdL, hR]
  have HLen := Lib.hid hlen
  clear hR hone hk hg HKd hlen
  go_upto_region 2 with ((with_reducible show wpList _ _ _ (⟨none, .store 142 _ _, _, _, _, _⟩ :: _) _ _); refine wpList_store_mid rfl 142 (.tmp 5) (.tmp 6) rfl z2.heap.size 0 (kdL b1 c1 R).toArray rfl ?hy ?ht ?hi ?ho ?_)
  case hy => rfl
  case ht => rw [HLen.out]; exact there_row (heap_alloc_new _ _) 21 (Nat.le_refl _)
  case hi => rw [HLen.out]; exact info21 Tryz.prog rfl
  case ho =>
    exact all_oneCell_toArray (kdL_one HOne.out)
  obtain ⟨wF, hwF⟩ : ∃ z, (z2.alloc (.cells #[Value.slice none 0 0, Value.nilFunc, Value.nilFunc, Value.slice none 0 0, Value.nilFunc, Value.nilFunc, Value.slice none 0 0, Value.nilFunc, Value.nilFunc, Value.slice none 0 0, Value.nilFunc, Value.nilFunc, Value.slice none 0 0, Value.nilFunc, Value.nilFunc, Value.slice none 0 0, Value.nilFunc, Value.nilFunc, Value.slice none 0 0, Value.nilFunc, Value.nilFunc] 142)).setCells z2.heap.size 0 (kdL b1 c1 R).toArray.toList = z := ⟨_, rfl⟩
  have hx := kds_store (w0 := z2) (b5 := z2.heap.size) HR.out rfl (heap_alloc_new z2 (.cells #[Value.slice none 0 0, Value.nilFunc, Value.nilFunc, Value.slice none 0 0, Value.nilFunc, Value.nilFunc, Value.slice none 0 0, Value.nilFunc, Value.nilFunc, Value.slice none 0 0, Value.nilFunc, Value.nilFunc, Value.slice none 0 0, Value.nilFunc, Value.nilFunc, Value.slice none 0 0, Value.nilFunc, Value.nilFunc, Value.slice none 0 0, Value.nilFunc, Value.nilFunc] 142)) (HK.out.gr (Gr.alloc _ _)) (Nat.le_refl _) ⟨Nat.ne_of_lt (World.block_lt_of_cell? _ _ HK.out.1), Nat.ne_of_lt (World.block_lt_of_cell? _ _ HK.out.2)⟩ (Gr.alloc _ _) hwF
  simp only [hwF]
  generalize z2.heap.size = b5 at hx ⊢
  have HGF := Lib.hid (HG1.out.trans (HG2.out.trans hx.1))
  have HRF := Lib.hid ((HG2.out.trans hx.1).cell HR1.out)
  have HC := Lib.hid (conStep_one g o c b5 b1 c1 b2 wF hx.2 HRF.out (HS.out.gr HGF.out))
  clear hx hwF HR1 HK HG1 HG2 HR HOne HLen
  have k0 := HRF.out
  go_wp2_with fail
  refine (HW.out _).mono ?_
  rintro e w' ⟨rfl, rfl⟩
  go_wp2_with fail
  clear k0
  refine HC.out.mono ?_
  rintro e w2 ⟨rfl, hg⟩
  have HG2 := Lib.hid (HGF.out.trans hg)
  clear hg
  go_wp2_with fail
  go_ret
  exact ⟨rfl, HG2.out⟩
end Go.Proofs.YtaoggehdkddgeaaGreatDoor
end
