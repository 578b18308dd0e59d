/- Contracts of the disk's small methods. -/
import Derived.Test.YtmkdnfiiehgcaaaDkH
import Derived.Test.YtmkdnfiiehgcaaaChecked
import Derived.Test.YtmkdnfiiehgcaaaGrowF
import Derived.Test.YtmkdnfiiehgcaaaGapp
import Derived.WalkKit
import Derived.WalkSpells
import Derived.WalkLawsBesides
import Derived.Lib.Hide
import Derived.IntWalk
import Derived.Deep.RegionHeld3
import Derived.Deep.DeepCutAuto
import Derived.Deep.MidRow
import Derived.BigRegion
import Derived.Deep.CutRange
import Derived.Deep.QuietTactic
import Derived.BigQuiet
namespace Go.Proofs.Ytmkdnfiiehgcaaa
open Go.RowKit
attribute [local go_sem] gAt gUpon
attribute [local simp] Gr.refl Gr.alloc

/-- a disk at this program's types -/
abbrev DkAt (S : Nat → Prop) (gd n : Nat) (d : Dk) (w : World) : Prop := DiskAt 65 5 S gd n d w
theorem cells5 {w : World} {g : Nat} {T : TypeId} {v0 v1 v2 v3 v4 : Value} (h : w.heap[g]? = some (.cells #[v0, v1, v2, v3, v4] T (0, 0))) :
    w.cell? ⟨g, 0, none⟩ = some v0 ∧ w.cell? ⟨g, 1, none⟩ = some v1 ∧ w.cell? ⟨g, 2, none⟩ = some v2 ∧ w.cell? ⟨g, 3, none⟩ = some v3 ∧ w.cell? ⟨g, 4, none⟩ = some v4 ∧
      w.frozen? ⟨g, 0, none⟩ = false ∧ w.frozen? ⟨g, 1, none⟩ = false ∧ w.frozen? ⟨g, 4, none⟩ = false := by
  refine ⟨?_, ?_, ?_, ?_, ?_, frozen_of_row _ _ _ _ _ h, frozen_of_row _ _ _ _ _ h, frozen_of_row _ _ _ _ _ h⟩ <;> (rw [cell_of_row _ _ _ _ _ _ h]; rfl)

theorem check_nil (w : World) : Calls Try.prog 28 #[.pointer none] w fun e w' => e = .returned (.int .i64 1) ∧ w = w' := by
  go_enter Try.func28, Try.ntmps28
  go_wp2
  go_ret
  exact ⟨rfl, rfl⟩
theorem check_any {S : Nat → Prop} {gd n : Nat} {d : Dk} {w : World} (h : DkAt S gd n d w) :
    Calls Try.prog 28 #[.pointer (some ⟨gd, 0, none⟩)] w fun e w' => e = .returned (.int .i64 (if d.off = true then 251 else 0)) ∧ w = w' := by
  obtain ⟨g1, g2, vp, s0, s1, s2, n1, n2, n3, hv, hb, h1, h2, ho⟩ := h
  obtain ⟨c0, -⟩ := cells5 hb
  clear hv h1 h2 ho hb
  cases hd : d.off with
  | true =>
    rw [hd] at c0
    rw [if_pos rfl]
    clear hd
    go_enter Try.func28, Try.ntmps28
    go_wp2
    go_ret
    exact ⟨rfl, rfl⟩
  | false =>
    rw [hd] at c0
    rw [if_neg (by simp)]
    clear hd
    go_enter Try.func28, Try.ntmps28
    go_wp2
    go_ret
    exact ⟨rfl, rfl⟩
theorem size_any {S : Nat → Prop} {gd n : Nat} {d : Dk} {w : World} (h : DkAt S gd n d w) :
    Calls Try.prog 16 #[.pointer (some ⟨gd, 0, none⟩)] w fun e w' => e = .returned (.int .i64 (n : Int)) ∧ w = w' := by
  obtain ⟨g1, g2, vp, s0, s1, s2, n1, n2, n3, hv, hb, h1, h2, ho⟩ := h
  obtain ⟨-, -, c2, -⟩ := cells5 hb
  clear hv h1 h2 ho hb
  go_enter Try.func16, Try.ntmps16
  go_wp2
  go_ret
  exact ⟨rfl, rfl⟩
theorem size_nil (w : World) : Calls Try.prog 16 #[.pointer none] w fun e w' => e = .returned (.int .i64 0) ∧ w = w' := by
  go_enter Try.func16, Try.ntmps16
  go_wp2
  go_ret
  exact ⟨rfl, rfl⟩
theorem pending_nil (w : World) : Calls Try.prog 17 #[.pointer none] w fun e w' => e = .returned (.int .i64 0) ∧ w = w' := by
  go_enter Try.func17, Try.ntmps17
  go_wp2
  go_ret
  exact ⟨rfl, rfl⟩
theorem Own.slice2 {B s : Nat} {v : Value} {n : Nat} {xs : List Value} {w : World} (h : Own B s v n xs w) : ∃ p c, v = .slice p n c := by
  rcases h.2 with ⟨h1, h0⟩ | ⟨g, off, cap, h1, _⟩
  · exact ⟨none, 0, by rw [h1, h0]⟩
  · exact ⟨_, _, h1⟩
theorem pending_any {S : Nat → Prop} {gd n : Nat} {d : Dk} {w : World} (h : DkAt S gd n d w) :
    Calls Try.prog 17 #[.pointer (some ⟨gd, 0, none⟩)] w fun e w' => e = .returned (.int .i64 (d.pend.length : Int)) ∧ w = w' := by
  obtain ⟨g1, g2, vp, s0, s1, s2, n1, n2, n3, hv, hb, h1, h2, ho⟩ := h
  obtain ⟨-, -, -, -, c4, -⟩ := cells5 hb
  obtain ⟨p, c, rfl⟩ := ho.slice2
  clear hv h1 h2 ho hb
  go_enter Try.func17, Try.ntmps17
  go_wp2
  go_ret
  exact ⟨rfl, rfl⟩
set_option maxHeartbeats 400000 in
theorem inside_any {S : Nat → Prop} {gd n : Nat} {d : Dk} {w : World} (o m : Int) (h : DkAt S gd n d w) (hn : n ≤ 4194304) (ho : -9223372036854775808 ≤ o ∧ o ≤ 9223372036854775807) :
    Calls Try.prog 29 #[.pointer (some ⟨gd, 0, none⟩), .int .i64 o, .int .i64 m] w fun e w' => e = .returned (.bool (insideD n o m)) ∧ w = w' := by
  obtain ⟨g1, g2, vp, s0, s1, s2, n1, n2, n3, hv, hb, h1, h2, how⟩ := h
  obtain ⟨-, -, c2, -⟩ := cells5 hb
  clear hv h1 h2 how hb
  have HI : Hid (insideD n o m = (decide (0 ≤ o) && decide (0 ≤ m) && decide (o ≤ (n : Int)) && decide (m ≤ (n : Int) - o))) := Lib.hid rfl
  generalize insideD n o m = I at HI
  obtain ⟨ho1, ho2⟩ := ho
  by_cases h1 : 0 ≤ o
  · have t1 : decide (0 ≤ o) = true := decide_eq_true h1
    by_cases h2 : 0 ≤ m
    · have t2 : decide (0 ≤ m) = true := decide_eq_true h2
      by_cases h3 : o ≤ (n : Int)
      · have t3 : decide (o ≤ (n : Int)) = true := decide_eq_true h3
        have e1 : IntKind.i64.wrap ((n : Int) - o) = (n : Int) - o := IntWalk.i64_in _ (by omega)
        go_enter Try.func29, Try.ntmps29
        go_wp2
        go_ret
        exact ⟨by rw [HI.out, t1, t2, t3]; rfl, rfl⟩
      · have t3 : decide (o ≤ (n : Int)) = false := decide_eq_false h3
        go_enter Try.func29, Try.ntmps29
        go_wp2
        go_ret
        exact ⟨by rw [HI.out, t1, t2, t3]; rfl, rfl⟩
    · have t2 : decide (0 ≤ m) = false := decide_eq_false h2
      go_enter Try.func29, Try.ntmps29
      go_wp2
      go_ret
      exact ⟨by rw [HI.out, t1, t2]; rfl, rfl⟩
  · have t1 : decide (0 ≤ o) = false := decide_eq_false h1
    go_enter Try.func29, Try.ntmps29
    go_wp2
    go_ret
    exact ⟨by rw [HI.out, t1]; rfl, rfl⟩
/-- counting a write: block gd alone turns -/
theorem used_any {gd : Nat} {b : Bool} {left : Nat} {v2 v3 v4 : Value} {T : TypeId} {w : World} (hb : w.heap[gd]? = some (.cells #[.bool b, .int .i64 (left : Int), v2, v3, v4] T (0, 0))) (hl : left ≤ 9223372036854775807) :
    Calls Try.prog 36 #[.pointer (some ⟨gd, 0, none⟩)] w fun e w' => e = .returned (.tuple #[]) ∧
      w'.heap[gd]? = some (.cells #[.bool (usedP b left).1, .int .i64 ((usedP b left).2 : Int), v2, v3, v4] T (0, 0)) ∧ Chs (fun k => k = gd) w w' := by
  obtain ⟨c0, c1, -, -, -, f0, f1, -⟩ := cells5 hb
  have HB := Lib.hid hb
  clear hb
  by_cases h0 : left = 0
  · subst h0
    have HB0 := HB.out
    have HB1 : Hid (w.heap[gd]? = some (.cells #[.bool (usedP b 0).1, .int .i64 ((usedP b 0).2 : Int), v2, v3, v4] T (0, 0))) := Lib.hid HB0
    clear HB HB0
    go_enter Try.func36, Try.ntmps36
    go_wp2
    refine bodyPost_ret (results_none rfl _ _ _) rfl ?_
    exact ⟨rfl, HB1.out, Chs.refl _ _⟩
  · have t0 : ((left : Int) == 0) = false := by rw [beq_eq_false_iff_ne]; omega
    have hU : usedP b left = (decide (left = 1), left - 1) := by unfold usedP; rw [if_neg h0]
    have HU := Lib.hid hU
    have h1 : 1 ≤ left := by omega
    have HR : Hid (∀ x, ((w.setCell ⟨gd, 1, none⟩ (.int .i64 ((left : Int) - 1))).setCell ⟨gd, 0, none⟩ (.bool x)).heap[gd]? = some (.cells #[.bool x, .int .i64 ((left : Int) - 1), v2, v3, v4] T (0, 0))) := Lib.hid (fun x => by
      have e1 := heap_setCell_same w gd 1 _ _ (.int .i64 ((left : Int) - 1)) HB.out
      have e2 := heap_setCell_same _ gd 0 _ _ (.bool x) e1
      rw [e2]; rfl)
    clear hU HB
    go_enter Try.func36, Try.ntmps36
    go_wp2
    all_goals
      go_end0
      refine ⟨rfl, ?_, ?_⟩
      · have e1 : ((left : Int) - 1 == 0) = decide (left = 1) := by rw [Bool.eq_iff_iff]; simp; omega
        have e2 : ((left - 1 : Nat) : Int) = (left : Int) - 1 := by omega
        rw [HU.out, HR.out]
        simp only [e1, e2]
      · exact (chs_setCell (S := fun k => k = gd) w rfl 1 _).trans (chs_setCell (S := fun k => k = gd) _ rfl 0 _) (fun _ _ h => h)
theorem info5k : (Try.prog.info? 5).map (·.size) = some 1 := by kernel_rfl
/-- a write put onto a content -/
theorem onto_any {S : Nat → Prop} {o : Nat} {s : ByteArray} {g n : Nat} {b : List UInt8} {w : World} (hrow : ByRow 5 g b w) (hb : b.length = n) (ho : o + s.size ≤ n) (hn : n ≤ 4194304) (hS : S g) :
    Calls Try.prog 35 #[.agg #[.int .i64 (o : Int), .string s], .slice (some ⟨g, 0, none⟩) n n] w fun e w' => e = .returned (.tuple #[]) ∧ ByRow 5 g (putB b o s.data.toList) w' ∧ Chs S w w' := by
  have HW : Hid (Gr w (w.alloc (.cells #[.int .i64 (o : Int), .string s] 69)) ∧ ByRow 5 g b (w.alloc (.cells #[.int .i64 (o : Int), .string s] 69)) ∧ (w.alloc (.cells #[.int .i64 (o : Int), .string s] 69)).cell? ⟨w.heap.size, 0, none⟩ = some (.int .i64 (o : Int)) ∧ (w.alloc (.cells #[.int .i64 (o : Int), .string s] 69)).cell? ⟨w.heap.size, 1, none⟩ = some (.string s)) :=
    Lib.hid ⟨Gr.alloc _ _, (Gr.alloc w _).block hrow, by rw [cell_of_row _ _ _ _ _ _ (heap_alloc_new w _)]; rfl, by rw [cell_of_row _ _ _ _ _ _ (heap_alloc_new w _)]; rfl⟩
  have HL := Lib.hid hb
  clear hrow hb
  go_enter Try.func35, Try.ntmps35
  go_upto_region 1 with fail
  refine wp_gen (F := fun x => Gr w x ∧ ByRow 5 g b x ∧ x.cell? ⟨w.heap.size, 0, none⟩ = some (.int .i64 (o : Int)) ∧ x.cell? ⟨w.heap.size, 1, none⟩ = some (.string s)) HW.out ?_
  rintro w1 ⟨hg1, hr1, c0, c1⟩
  have HG1 := Lib.hid hg1
  have HR := Lib.hid hr1
  have hS1 : ∀ m : GrS w1.drew, m.w.cell? ⟨w.heap.size, 0, none⟩ = some (.int .i64 (o : Int)) := fun m => m.h.cell (w := w1.drew) c0
  have hS2 : ∀ m : GrS w1.drew, m.w.cell? ⟨w.heap.size, 1, none⟩ = some (.string s) := fun m => m.h.cell (w := w1.drew) c1
  clear hg1 hr1 c0 c1 HW
  by_cases hon : o < n
  · have hon' : o ≤ n := by omega
    refine region_grow 6 11 (by kernel_rfl) rfl (by kernel_rfl) rfl rfl ?_
    simp only [List.take_succ_cons, List.take_zero, List.drop_succ_cons, List.drop_zero]
    refine seg 6 rfl rfl rfl rfl ?_
    simp only [List.take_succ_cons, List.take_zero, List.drop_succ_cons, List.drop_zero]
    repeat (go_big_quiet_step (fail))
    refine wpQuiet_nil ?_
    intro _
    refine grow_end0 rfl rfl ?_
    intro w2 hG
    have HG2 := Lib.hid (Gr.trans HG1.out (Gr.trans (Gr.drew w1) hG))
    have HR2 := Lib.hid (Gr.block hG (show w1.drew.heap[g]? = _ from HR.out))
    clear hS1 hS2 hG
    go_wp2_with ((with_reducible show wpList _ _ _ (⟨some 10, _, _, _, _, _⟩ :: _) _ _); refine wpList_copy_str rfl (.tmp 7) (.tmp 9) 40 9 rfl 5 Try.underlying40 info5k g o (n - o) (n - o) s rfl rfl (U := 5) (b := b) HR2.out (by omega) (by have := HL.out; omega) ?_; intro w3 hr3 hc3)
    have hc3' : Chs S w2 w3 := hc3.mono (fun k e => e ▸ hS)
    have HF : Hid (ByRow 5 g (putB b o s.data.toList) w3 ∧ Chs S w w3) := Lib.hid ⟨hr3, (Chs.of_gr HG2.out).trans hc3' (fun _ _ h => h)⟩
    clear hr3 hc3 hc3'
    go_wp2_with fail
    go_end0
    exact ⟨rfl, HF.out⟩
  · have hon' : o = n := by omega
    subst hon'
    have hs0 : s.size = 0 := by omega
    have HP : Hid (putB b o s.data.toList = b) := Lib.hid (by
      have e : s.data.toList = [] := List.eq_nil_of_length_eq_zero (by rw [byC_size]; exact hs0)
      unfold putB; rw [e]; simp)
    have HS0 := Lib.hid hs0
    clear hs0
    refine region_grow 6 11 (by kernel_rfl) rfl (by kernel_rfl) rfl rfl ?_
    simp only [List.take_succ_cons, List.take_zero, List.drop_succ_cons, List.drop_zero]
    refine seg 6 rfl rfl rfl rfl ?_
    simp only [List.take_succ_cons, List.take_zero, List.drop_succ_cons, List.drop_zero]
    repeat (go_big_quiet_step (fail))
    refine wpQuiet_nil ?_
    intro _
    refine grow_end0 rfl rfl ?_
    intro w2 hG
    have HG2 := Lib.hid (Gr.trans HG1.out (Gr.trans (Gr.drew w1) hG))
    have HR2 := Lib.hid (Gr.block hG (show w1.drew.heap[g]? = _ from HR.out))
    clear hS1 hS2 hG
    go_wp2_with ((with_reducible show wpList _ _ _ (⟨some 10, _, _, _, _, _⟩ :: _) _ _); refine wpList_copy_str0 rfl (.tmp 7) (.tmp 9) 40 9 rfl 5 Try.underlying40 info5k _ _ _ s rfl rfl HS0.out ?_)
    have HF : Hid (ByRow 5 g (putB b o s.data.toList) w2 ∧ Chs S w w2) := Lib.hid ⟨by rw [HP.out]; exact HR2.out, Chs.of_gr HG2.out⟩
    go_wp2_with fail
    go_end0
    exact ⟨rfl, HF.out⟩
end Go.Proofs.Ytmkdnfiiehgcaaa
