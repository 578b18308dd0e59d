/- The reference's disk: Visible, New, Cut. -/
import Derived.Test.YtmkdnfiiehgcaaaRfA
namespace Go.Proofs.Ytmkdnfiiehgcaaa
open Go Go.RowKit
attribute [local go_sem] gAt gUpon
attribute [local simp] Gr.refl Gr.alloc

def VsI (w : World) (v : Value) (n : Nat) (d : Dk) (k : Nat) (W : World) : Prop := Own w.heap.size 1 v n (byC (applyL d.dur (d.pend.take k))) W ∧ Gr w W
set_option maxHeartbeats 1000000 in
theorem visible_any {S : Nat → Prop} {gx n : Nat} {d : Dk} {w : World} (h : RefAt S gx n d w) (hi : d.inv n) (hn1 : 1 ≤ n) (hn : n ≤ 4194304) (hp : d.pend.length ≤ 1000000) :
    Calls Try.prog 34 #[.pointer (some ⟨gx, 0, none⟩)] w fun e w' => ∃ v, e = .returned v ∧ Own w.heap.size 1 v n (byC d.vis) w' ∧ Gr w w' := by
  obtain ⟨i5, hi5, hz5, hs5, hb5⟩ := info_parts info5
  have Hi5 := Lib.hid hi5
  have Hz5 := Lib.hid hz5
  have Hs5 := Lib.hid hs5
  have Hb5 := Lib.hid hb5
  clear hi5 hz5 hs5 hb5
  obtain ⟨v0, v1, s0, h0, h1, hrow, o0, o1⟩ := h
  obtain ⟨p1, c1, rfl⟩ := o1.slice2
  obtain ⟨g, off, c, rfl, hnc, hcm, hx⟩ : ∃ g off c, v0 = .slice (some ⟨g, off, none⟩) n c ∧ n ≤ c ∧ c ≤ maxLen ∧ ∀ j u, (byC d.dur)[j]? = some u → w.cell? ⟨g, off + j, none⟩ = some u := by
    rcases o0.2 with ⟨_, h0⟩ | ⟨g, off, cap, he, hB, hc, hm, hx, hw⟩
    · omega
    · exact ⟨g, off, cap, he, hc, hm, hx⟩
  have HX : Hid (∀ W, Gr w W → ∀ (j : Nat) (u : Value), (byC d.dur)[j]? = some u → W.cell? ((⟨g, off, none⟩ : Addr).add j) = some u) := Lib.hid (fun W hg j u hj => by rw [Addr.add_mid]; exact hg.cell (hx j u hj))
  have HI := Lib.hid hi
  have HR := Lib.hid hrow
  have HO := Lib.hid o1
  have hbl : (byC d.dur).length = n * 1 := by rw [byC_length, hi.1, Nat.mul_one]
  have HBl := Lib.hid hbl
  have HB1 := Lib.hid (byC_one d.dur)
  obtain ⟨q0, q1, -⟩ := cells4 hrow
  have hgx : gx < w.heap.size := World.block_lt_of_cell? w ⟨gx, 0, none⟩ q0
  have hmx := hcm
  unfold maxLen at hmx
  clear h0 h1 hrow o0 o1 hx hi hbl hcm
  go_enter Try.func34, Try.ntmps34
  have hb0 : 0 < 0 + n := by omega
  have hb1 : 0 + n ≤ maxLen := by unfold maxLen; omega
  have hb2 : (0 + n) * 1 ≤ 140737488355328 := by omega
  go_upto_region 2 with ((with_reducible show wpList _ _ _ (⟨some 10, _, _, _, _, _⟩ :: _) _ _); refine wpList_append_grows _ rfl (.tmp 5) (.tmp 9) 40 rfl 5 i5 (.int .u8 0) 1 1 Try.underlying40 Hi5.out Hz5.out Hs5.out Hb5.out rfl Nat.one_pos (some ⟨_, 0, none⟩) 0 0 [] rfl no_none rfl (fun _ _ _ _ h => no_cell h) ⟨g, off, none⟩ n c (byC d.dur) rfl HBl.out (HX.out _ (Gr.alloc w _)) HB1.out hb0 hb1 hb2 ?_; intro v5 w5 hr5 hgr5)
  have hO5 : Own w.heap.size 1 v5 n (byC d.dur) w5 := by
    rw [Nat.zero_add, List.nil_append] at hr5
    exact (Own.of_row hr5).mono (Gr.alloc w _).size
  have hG5 : Gr w w5 := (Gr.alloc w _).trans (Chg.gr (Chg.of_grownBy hgr5))
  obtain ⟨p5, c5, rfl⟩ := hO5.slice2
  have H0 : Hid (VsI w (.slice p5 n c5) n d 0 w5) := Lib.hid ⟨by rw [List.take_zero]; exact hO5, hG5⟩
  clear hr5 hgr5 hO5 hG5 q0 q1 HX HB1 HBl hb0 hb1 hb2 Hi5 Hz5 Hs5 Hb5
  go_wp2_with fail
  go_loopw [4] (fun v4 W => ∃ k : Nat, k ≤ d.pend.length ∧ v4 = .int .i64 (k : Int) ∧ Hid (VsI w (.slice p5 n c5) n d k W)) (fun v4 _ => d.pend.length - (intOf v4).toNat)
  case atStart => exact ⟨0, Nat.zero_le _, rfl, H0⟩
  case round =>
    obtain ⟨k, hkl, rfl, HC⟩ := hrel
    obtain ⟨-, q1, -⟩ := cells4 (HC.out.2.block HR.out)
    have hgx : gx < wr.heap.size := World.block_lt_of_cell? wr ⟨gx, 1, none⟩ q1
    by_cases hlt : k < d.pend.length
    · have tk : decide (k < d.pend.length) = true := decide_eq_true hlt
      obtain ⟨x, hx⟩ : ∃ x, d.pend[k]? = some x := ⟨_, List.getElem?_eq_getElem hlt⟩
      obtain ⟨gp, op, rfl, k0, k1⟩ : ∃ gp op, p1 = some ⟨gp, op, none⟩ ∧ wr.cell? ⟨gp, op + k * 2, none⟩ = some (.int .i64 (x.1 : Int)) ∧ wr.cell? ⟨gp, op + k * 2 + 1, none⟩ = some (.string x.2) := by
        rcases HO.out.2 with ⟨_, h0⟩ | ⟨g, off, cap, he, hB, hc, hm, hx4, hw⟩
        · omega
        · injection he with e1 e2 e3
          obtain ⟨y0, y1⟩ := pC_get d.pend k x hx
          exact ⟨g, off, e1, HC.out.2.cell (hx4 _ _ y0), HC.out.2.cell (hx4 _ _ y1)⟩
      have hcl : d.pend.length ≤ c1 := by
        rcases HO.out.2 with ⟨_, h0⟩ | ⟨g, off, cap, he, hB, hc, hm, hx4, hw⟩
        · omega
        · injection he with e1 e2 e3; omega
      have hok : Wr.ok n x := HI.out.2.2.1 x (List.mem_of_getElem? hx)
      have HAp := Lib.hid (fun y (hg : Gr wr y) => apply_any (o := x.1) (s := x.2) (HC.out.1.gr hg) hok hn1 hn)
      have HSt : Hid (∀ y y', Gr wr y → Own w.heap.size 1 (.slice p5 n c5) n (byC (putW (applyL d.dur (d.pend.take k)) (x.1, x.2))) y' → Chs (fun j => (Value.slice p5 n c5).ownBlock = some j) y y' → Hid (VsI w (.slice p5 n c5) n d (k + 1) y')) := Lib.hid (fun y y' hg ho hc => by
        refine ⟨?_, Below.trans (HC.out.2.trans hg) (hc.below (fun j hj => own_geJ HC.out.1 hj) (HC.out.2.trans hg).size)⟩
        rw [List.take_add_one, hx, Option.toList_some, applyL_snoc]; exact ho)
      obtain ⟨xo, xs⟩ := x
      simp only at k0 k1 HAp HSt
      clear hx hok HC
      go_upto_region 5 with fail
      have hS0 : ∀ y : GrS wr.drew, y.w.cell? ⟨gp, op + k * 2, none⟩ = some (.int .i64 (xo : Int)) := fun y => y.h.cell (w := wr.drew) k0
      have hS1 : ∀ y : GrS wr.drew, y.w.cell? ⟨gp, op + k * 2 + 1, none⟩ = some (.string xs) := fun y => y.h.cell (w := wr.drew) k1
      have hS2 : ∀ y : GrS wr.drew, y.w.cell? ⟨gx, 1, none⟩ = some (.slice (some ⟨gp, op, none⟩) d.pend.length c1) := fun y => y.h.cell (w := wr.drew) q1
      clear k0 k1 q1
      refine region_grow 17 39 (by kernel_rfl) rfl (by kernel_rfl) rfl rfl ?_
      simp only [List.take_succ_cons, List.take_zero, List.drop_succ_cons, List.drop_zero]
      refine seg 17 rfl rfl rfl rfl ?_
      simp only [List.take_succ_cons, List.take_zero, List.drop_succ_cons, List.drop_zero]
      repeat (go_big_quiet_step (fail))
      refine wpQuiet_nil ?_
      intro _
      refine grow_end0 rfl rfl ?_
      intro wD hG
      have hGD : Gr wr wD := Gr.trans (Gr.drew wr) hG
      have HA2 := Lib.hid (HAp.out wD hGD)
      have HGD := Lib.hid hGD
      clear hS0 hS1 hS2 hG hGD HAp
      go_wp2_with fail
      refine HA2.out.mono ?_
      rintro e wE ⟨rfl, hoE, hcE⟩
      have HN := HSt.out _ _ HGD.out hoE hcE
      clear hoE hcE HA2 HSt HGD
      go_wp2_with fail
      go_roundw
      case rel => exact ⟨k + 1, by omega, by go_num, HN⟩
      case measure => simp [intOf]; omega
    · have tk : decide (k < d.pend.length) = false := decide_eq_false hlt
      have hk : k = d.pend.length := by omega
      have HE : Hid (Own w.heap.size 1 (.slice p5 n c5) n (byC d.vis) wr ∧ Gr w wr) := Lib.hid (by
        have h := HC.out.1
        rw [hk, List.take_length, ← HI.out.2.2.2.1] at h
        exact ⟨h, HC.out.2⟩)
      clear HC
      go_wp2_with fail
      go_ret
      exact ⟨_, rfl, HE.out⟩
/-- a pointer's row, a cell of it turned -/
theorem row4_set (w : World) {gx i : Nat} {a b c d : Value} (h : w.heap[gx]? = some (.cells #[a, b, c, d] 43 (0, 0))) (v : Value) : (w.setCell ⟨gx, i, none⟩ v).heap[gx]? = some (.cells (#[a, b, c, d].setIfInBounds i v) 43 (0, 0)) := heap_setCell_same w gx i _ _ v h
theorem rnew_any (n : Nat) (h1 : 1 ≤ n) (hn : n ≤ 4194304) (w : World) :
    Calls Try.prog 18 #[.int .i64 (n : Int)] w fun e w' => ∃ gx, e = .returned (.tuple #[.pointer (some ⟨gx, 0, none⟩), .int .i64 0]) ∧ RefAt (fun k => w.heap.size ≤ k ∧ k < w'.heap.size) gx n (newD n) w' ∧ Gr w w' := by
  have hmk := fun w => run_make40 n hn w
  have t1 : decide (n < 1) = false := decide_eq_false (by omega)
  have t2 : decide ((4194304 : Int) < n) = false := decide_eq_false (by omega)
  have t3 : decide (4194304 < n) = false := decide_eq_false (by omega)
  have HF : Hid (RefAt (fun k => w.heap.size ≤ k ∧ k < w.heap.size + 2) (w.heap.size + 1) n (newD n) ((w.alloc (.cells (byC (List.replicate n 0)).toArray 5)).alloc (.cells #[.slice (some ⟨w.heap.size, 0, none⟩) n n, .slice none 0 0, .bool false, .int .i64 0] 43))) := Lib.hid (by
    have hr := heap_alloc_new (w.alloc (.cells (byC (List.replicate n 0)).toArray 5)) (.cells #[.slice (some ⟨w.heap.size, 0, none⟩) n n, .slice none 0 0, .bool false, .int .i64 0] 43)
    rw [World.size_alloc] at hr
    have hb : ((w.alloc (.cells (byC (List.replicate n 0)).toArray 5)).alloc (.cells #[.slice (some ⟨w.heap.size, 0, none⟩) n n, .slice none 0 0, .bool false, .int .i64 0] 43)).heap[w.heap.size]? = some (.cells (byC (List.replicate n 0)).toArray 5 (0, 0)) := (Gr.alloc _ _).block (heap_alloc_new w _)
    refine ⟨_, _, ⟨by omega, by omega⟩, fun g hg => ?_, fun g hg => by simp [Value.ownBlock] at hg, hr, ⟨by rw [byC_length]; show (newD n).dur.length = n * 1; rw [(newD_inv n).1, Nat.mul_one], .inr ⟨w.heap.size, 0, n, rfl, Nat.zero_le _, Nat.le_refl _, by unfold maxLen; omega, fun j u hj => ?_, fun j hj => ?_⟩⟩, Own.nil _ _ _⟩
    · simp [Value.ownBlock] at hg
      subst hg
      exact ⟨⟨by omega, by omega⟩, by omega⟩
    · rw [Nat.zero_add, cell_of_row _ _ _ _ _ _ hb]; simpa [newD] using hj
    · have hl : (byC (List.replicate n 0)).length = n := by rw [byC_length]; simp
      have hc : (byC (List.replicate n 0))[j]? = some ((byC (List.replicate n 0))[j]'(by omega)) := List.getElem?_eq_getElem (by omega)
      refine ⟨?_, frozen_of_row _ _ _ _ _ hb⟩
      rw [Nat.zero_add, cell_of_row _ _ _ _ _ _ hb]
      simp only [List.getElem?_toArray, hc, Option.isSome_some])
  have HG : Hid (Gr w ((w.alloc (.cells (byC (List.replicate n 0)).toArray 5)).alloc (.cells #[.slice (some ⟨w.heap.size, 0, none⟩) n n, .slice none 0 0, .bool false, .int .i64 0] 43))) := Lib.hid ((Gr.alloc _ _).trans (Gr.alloc _ _))
  go_enter Try.func18, Try.ntmps18
  go_wp2_with fail
  go_ret2
  exact ⟨_, rfl, HF.out.mono (fun k hk => ⟨hk.1, by have := hk.2; simp; omega⟩), HG.out⟩
theorem rcut_any {S : Nat → Prop} {gx n : Nat} {d : Dk} {w : World} (m : Int) (h : RefAt S gx n d w) :
    Calls Try.prog 32 #[.pointer (some ⟨gx, 0, none⟩), .int .i64 m] w fun e w' => e = .returned (.int .i64 (cutD d m).1) ∧ RefAt S gx n (cutD d m).2 w' ∧ Chs S w w' := by
  have HD := Lib.hid h
  obtain ⟨v0, v1, s0, h0, h1, hrow, o0, o1⟩ := h
  obtain ⟨q0, q1, q2, q3, qf⟩ := cells4 hrow
  have qf2 := qf 2
  have qf3 := qf 3
  by_cases hoff : d.off = true
  · have e1 : cutD d m = (251, d) := cut_off hoff
    rw [e1]
    rw [hoff] at q2
    clear h0 h1 hrow o0 o1 e1 hoff qf
    go_enter Try.func32, Try.ntmps32
    go_wp2_with fail
    go_ret
    exact ⟨rfl, HD.out, Chs.refl _ _⟩
  · have hoff' : d.off = false := by simpa using hoff
    rw [hoff'] at q2
    by_cases hm : m < 0
    · have e1 : cutD d m = (2, d) := by unfold cutD; rw [if_neg hoff, if_pos hm]
      rw [e1]
      have t1 : decide (m < 0) = true := decide_eq_true hm
      clear h0 h1 hrow o0 o1 e1 hoff hoff' qf
      go_enter Try.func32, Try.ntmps32
      go_wp2_with fail
      go_ret
      exact ⟨rfl, HD.out, Chs.refl _ _⟩
    · obtain ⟨k, rfl⟩ := Int.eq_ofNat_of_zero_le (show 0 ≤ m by omega)
      have ed : decide ((k : Int) = 0) = decide (k = 0) := by simp
      have e1 : cutD d (k : Int) = (0, { d with off := decide (k = 0), left := k }) := by rw [cut_b hoff' k, ed]
      rw [e1]
      have t1 : decide ((k : Int) < 0) = false := decide_eq_false hm
      have hgx : gx < w.heap.size := World.block_lt_of_cell? w ⟨gx, 0, none⟩ q0
      have HF : Hid (∀ x : Bool, x = decide (k = 0) → RefAt S gx n { d with off := decide (k = 0), left := k } ((w.setCell ⟨gx, 3, none⟩ (.int .i64 (k : Int))).setCell ⟨gx, 2, none⟩ (.bool x)) ∧ Chs S w ((w.setCell ⟨gx, 3, none⟩ (.int .i64 (k : Int))).setCell ⟨gx, 2, none⟩ (.bool x))) := Lib.hid (fun x hx => by
        have hc : Chs (fun j => j = gx) w ((w.setCell ⟨gx, 3, none⟩ (.int .i64 (k : Int))).setCell ⟨gx, 2, none⟩ (.bool x)) := (chs_setCell (S := fun j => j = gx) w rfl 3 _).trans (chs_setCell (S := fun j => j = gx) _ rfl 2 _) (fun _ _ h => h)
        subst hx
        refine ⟨⟨v0, v1, s0, h0, h1, row4_set _ (row4_set w hrow _) _, o0.keepS hc (fun g hg e => (h0 g hg).2 e), o1.keepS hc (fun g hg e => (h1 g hg).2.1 e)⟩, hc.mono (fun j e => e ▸ s0)⟩)
      obtain ⟨b, hb⟩ : ∃ b : Bool, ((k : Int) == 0) = b := ⟨_, rfl⟩
      have HB : Hid (b = decide (k = 0)) := Lib.hid (by rw [← hb, ← ed]; rfl)
      clear h0 h1 hrow o0 o1 e1 hoff hoff' qf ed
      go_enter Try.func32, Try.ntmps32
      go_wp2_with fail
      go_ret
      exact ⟨rfl, HF.out _ HB.out⟩
end Go.Proofs.Ytmkdnfiiehgcaaa
