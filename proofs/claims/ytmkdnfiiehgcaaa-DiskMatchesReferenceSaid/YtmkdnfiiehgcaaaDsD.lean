/- Contracts of the disk's Cut, Sync, Read. -/
import Derived.Test.YtmkdnfiiehgcaaaDsC
import Derived.Lib.SlBytesRow
namespace Go.Proofs.Ytmkdnfiiehgcaaa
open Go.RowKit
attribute [local go_sem] gAt gUpon
attribute [local simp] Gr.refl Gr.alloc

def cutD (d : Dk) (m : Int) : Int × Dk := if d.off = true then (251, d) else if m < 0 then (2, d) else (0, { d with off := decide (m = 0), left := m.toNat })
theorem cutD_inv {d : Dk} {n : Nat} {m : Int} (h : d.inv n) (hm : m ≤ 9223372036854775807) : (cutD d m).2.inv n := by
  unfold cutD
  split
  · exact h
  · split
    · exact h
    · obtain ⟨h1, h2, h3, h4, _⟩ := h
      exact ⟨h1, h2, h3, h4, by show m.toNat ≤ _; omega⟩
set_option maxHeartbeats 1000000 in
theorem cut_any {S : Nat → Prop} {gd n : Nat} {d : Dk} {w : World} (m : Int) (h : DkAt S gd n d w) :
    Calls Try.prog 24 #[.pointer (some ⟨gd, 0, none⟩), .int .i64 m] w fun e w' => e = .returned (.int .i64 (cutD d m).1) ∧ DkAt S gd n (cutD d m).2 w' ∧ Chs S w w' := by
  have HC := Lib.hid (check_any h)
  have HD := Lib.hid h
  obtain ⟨g1, g2, vp, s0, s1, s2, n1, n2, n3, hv, hb, h1, h2, ho⟩ := h
  by_cases hoff : d.off = true
  · have e1 : cutD d m = (251, d) := by unfold cutD; rw [if_pos hoff]
    rw [e1]
    rw [if_pos hoff] at HC
    clear hv hb h1 h2 ho e1 hoff
    go_enter Try.func24, Try.ntmps24
    go_wp2_with fail
    refine HC.out.mono ?_
    rintro e w1 ⟨rfl, rfl⟩
    go_wp2_with fail
    go_ret
    exact ⟨rfl, HD.out, Chs.refl _ _⟩
  · rw [if_neg hoff] at HC
    by_cases hm : m < 0
    · have e1 : cutD d m = (2, d) := by unfold cutD; rw [if_neg hoff, if_pos hm]
      have t1 : decide (m < 0) = true := decide_eq_true hm
      rw [e1]
      clear hv hb h1 h2 ho e1 hoff
      go_enter Try.func24, Try.ntmps24
      go_wp2_with fail
      refine HC.out.mono ?_
      rintro e w1 ⟨rfl, rfl⟩
      go_wp2_with fail
      go_ret
      exact ⟨rfl, HD.out, Chs.refl _ _⟩
    · have e1 : cutD d m = (0, { d with off := decide (m = 0), left := m.toNat }) := by unfold cutD; rw [if_neg hoff, if_neg hm]
      have t1 : decide (m < 0) = false := decide_eq_false hm
      rw [e1]
      obtain ⟨c0, c1, -, -, -, f0, f1, -⟩ := cells5 hb
      have HX : Hid (∀ x y, ((w.setCell ⟨gd, 0, none⟩ (.bool x)).setCell ⟨gd, 1, none⟩ (.int .i64 y)).heap[gd]? = some (.cells #[.bool x, .int .i64 y, .slice (some ⟨g1, 0, none⟩) n n, .slice (some ⟨g2, 0, none⟩) n n, vp] 65 (0, 0))) := Lib.hid (fun x y => by
        have e1 := heap_setCell_same w gd 0 _ _ (.bool x) hb
        rw [heap_setCell_same _ gd 1 _ _ (.int .i64 y) e1]; rfl)
      have HY : Hid (∀ w', Chs (fun k => k = gd) w w' → w'.heap[gd]? = some (.cells #[.bool (decide (m = 0)), .int .i64 m, .slice (some ⟨g1, 0, none⟩) n n, .slice (some ⟨g2, 0, none⟩) n n, vp] 65 (0, 0)) → DkAt S gd n { d with off := decide (m = 0), left := m.toNat } w' ∧ Chs S w w') := Lib.hid (fun w' hc hg => by
        refine ⟨⟨g1, g2, vp, s0, s1, s2, n1, n2, n3, hv, ?_, Chs.block hc h1 (fun e => n1 e.symm), Chs.block hc h2 (fun e => n2 e.symm), ho.keepS hc (fun g hg' e => (hv g hg').2.1 e)⟩, hc.mono (fun k e => e ▸ s0)⟩
        rw [hg, Int.toNat_of_nonneg (by omega)])
      have HE : Hid ((m == 0) = decide (m = 0)) := Lib.hid (by rw [Bool.eq_iff_iff]; simp)
      clear hv hb h1 h2 ho e1 hoff HD
      go_enter Try.func24, Try.ntmps24
      go_wp2_with fail
      refine HC.out.mono ?_
      rintro e w1 ⟨rfl, rfl⟩
      clear HC
      go_wp2_with fail
      go_ret
      have := HY.out _ ((chs_setCell (S := fun k => k = gd) w rfl 0 (.bool (m == 0))).trans (chs_setCell (S := fun k => k = gd) _ rfl 1 (.int .i64 m)) (fun _ _ h => h)) (by rw [HX.out, HE.out])
      exact ⟨rfl, this.1, this.2⟩
set_option maxHeartbeats 1000000 in
theorem sync_any {S : Nat → Prop} {gd n : Nat} {d : Dk} {w : World} (h : DkAt S gd n d w) (hi : d.inv n) :
    Calls Try.prog 23 #[.pointer (some ⟨gd, 0, none⟩)] w fun e w' => e = .returned (.int .i64 (syncD d).1) ∧ DkAt S gd n (syncD d).2 w' ∧ Chs S w w' := by
  have HC := Lib.hid (check_any h)
  have HD := Lib.hid h
  obtain ⟨g1, g2, vp, s0, s1, s2, n1, n2, n3, hv, hb, h1, h2, ho⟩ := h
  by_cases hoff : d.off = true
  · have e1 : syncD d = (251, d) := by unfold syncD; rw [if_pos hoff]
    rw [e1]
    rw [if_pos hoff] at HC
    clear hv hb h1 h2 ho e1 hoff hi
    go_enter Try.func23, Try.ntmps23
    go_wp2_with fail
    refine HC.out.mono ?_
    rintro e w1 ⟨rfl, rfl⟩
    go_wp2_with fail
    go_ret
    exact ⟨rfl, HD.out, Chs.refl _ _⟩
  · rw [if_neg hoff] at HC
    have e1 : syncD d = (0, settleD d d.vis) := by unfold syncD; rw [if_neg hoff]
    rw [e1]
    have hoff' : d.off = false := by simpa using hoff
    have HSet : Hid (∀ w', Gr w w' → Calls Try.prog 37 #[.pointer (some ⟨gd, 0, none⟩), .slice (some ⟨g2, 0, none⟩) n n, .slice (some ⟨g1, 0, none⟩) n n] w' fun e w'' => e = .returned (.tuple #[]) ∧ DkAt S gd n (settleD d d.vis) w'' ∧ Chs S w' w'') := Lib.hid (fun w' hg => by
      refine (settle_any (S := S) (hg.block hb) (hg.block h2) (hg.block h1) hi.2.1 hi.1 (ho.gr hg) (fun g hg => ⟨(hv g hg).1, (hv g hg).2.1, (hv g hg).2.2.1⟩) (fun g hg => (hv g hg).2.2.2) s0 s1 n1 n2.symm n3).mono ?_
      rintro e w'' ⟨rfl, vp', hb', ho', hv', ht', hf', hc'⟩
      exact ⟨rfl, ⟨g1, g2, vp', s0, s1, s2, n1, n2, n3, fun g hg => hv g (hv' g hg), hb', ht', hf', ho'⟩, hc'⟩)
    obtain ⟨-, -, c2, c3, -⟩ := cells5 hb
    clear hv hb h1 h2 ho e1 hoff hi HD
    go_enter Try.func23, Try.ntmps23
    go_wp2_with fail
    refine HC.out.mono ?_
    rintro e w1 ⟨rfl, rfl⟩
    have hS2 : ∀ m : GrS w.drew, m.w.cell? ⟨gd, 2, none⟩ = some (.slice (some ⟨g1, 0, none⟩) n n) := fun m => m.h.cell (w := w.drew) c2
    have hS3 : ∀ m : GrS w.drew, m.w.cell? ⟨gd, 3, none⟩ = some (.slice (some ⟨g2, 0, none⟩) n n) := fun m => m.h.cell (w := w.drew) c3
    clear HC c2 c3
    go_upto_region 3 with fail
    refine region_grow 9 19 (by kernel_rfl) rfl (by kernel_rfl) rfl rfl ?_
    simp only [List.take_succ_cons, List.take_zero, List.drop_succ_cons, List.drop_zero]
    refine seg 9 rfl rfl rfl rfl ?_
    simp only [List.take_succ_cons, List.take_zero, List.drop_succ_cons, List.drop_zero]
    repeat (go_big_quiet_step (fail))
    refine wpQuiet_nil ?_
    intro _
    refine grow_end0 rfl rfl ?_
    intro w2 hG
    have HG2 := Lib.hid (Gr.trans (Gr.drew w) hG)
    clear hS2 hS3 hG
    go_wp2_with fail
    refine (HSet.out _ HG2.out).mono ?_
    rintro e w3 ⟨rfl, hD3, hc3⟩
    have HF : Hid (DkAt S gd n (settleD d d.vis) w3 ∧ Chs S w w3) := Lib.hid ⟨hD3, (Chs.of_gr HG2.out).trans hc3 (fun _ _ h => h)⟩
    clear hD3 hc3 HSet HG2
    go_wp2_with fail
    go_ret
    exact ⟨rfl, HF.out⟩
end Go.Proofs.Ytmkdnfiiehgcaaa
