/- The reference's disk: Crash. -/
import Derived.Test.YtmkdnfiiehgcaaaRfD
namespace Go.Proofs.Ytmkdnfiiehgcaaa
open Go Go.RowKit
attribute [local go_sem] gAt gUpon
attribute [local simp] Gr.refl Gr.alloc

theorem push_wrB {ops : Array Oper} {rest : List Oper} {o : Oper} {a : Act} {W : World} {Q : Exit → Act → World → Prop} {i : TypeInfo} {v : Value} {m B : Nat} {xs : List Value} {dt st : Tmp} {u0 u1 : Value} (hg : o.guard = none)
    (hop : o.op = Op.call { callee := Callee.builtin Builtin.append, args := #[.tmp dt, .tmp st], argTypes := #[41, 41] }) (h2 : Try.prog.info? 80 = some i) (h3 : i.zero = some (.agg #[.int .i64 0, .string ⟨#[]⟩])) (h4 : i.size = 2) (h5 : i.bytes = 24)
    (hs : a.eval (.tmp dt) = v) (hO : Own B 2 v m xs W) (hB : B ≤ W.heap.size) (hj : m ≤ 1000000) (c0 : u0.oneCell' = true) (c1 : u1.oneCell' = true)
    (hx : a.eval (.tmp st) = .slice (some ⟨W.heap.size, 0, none⟩) 1 1)
    (h : ∀ v' w', Own B 2 v' (m + 1) (xs ++ [u0, u1]) w' → Chs (fun k => v.ownBlock = some k) W w' → wpList Try.prog ops Q rest (a.put o.dst v') w') :
    wpList Try.prog ops Q (o :: rest) a (W.alloc (.cells #[u0, u1] 80)) := by
  have hrow := heap_alloc_new W (.cells #[u0, u1] 80)
  refine wpList_append_Own hg (.tmp dt) (.tmp st) 41 hop 80 i _ 2 24 Try.underlying41 h2 h3 h4 h5 rfl (by decide) hs (hO.gr (Gr.alloc W (.cells #[u0, u1] 80))) ⟨W.heap.size, 0, none⟩ 1 1 [u0, u1] hx rfl ?_ ?_ (by decide) (by unfold maxLen; omega) (by omega) (Nat.le_trans hB (by simp)) ?_
  · intro k u hk
    rw [Addr.add_mid, cell_of_row _ _ _ _ _ _ hrow, Nat.zero_add]; simpa using hk
  · intro u hu; simp at hu; rcases hu with rfl | rfl <;> assumption
  · intro v' w' k1 k2 k3
    exact h v' w' k1 (chs_push (Gr.alloc W _) k2)
/-- the survivors among the first i -/
def svL (keep : List Int) (p : List Wr) (i : Nat) : List Wr := (ordN keep i).map fun j => p.getD j (0, ⟨#[]⟩)
theorem svL_succ (keep : List Int) (p : List Wr) (i : Nat) {x : Wr} (hx : p[i]? = some x) : svL keep p (i + 1) = svL keep p i ++ if (i : Int) ∈ keep then [x] else [] := by
  unfold svL
  rw [surv_succ, List.getD_eq_getElem?_getD, hx]; rfl
theorem svL_len (keep : List Int) (p : List Wr) (i : Nat) : (svL keep p i).length ≤ i := by
  unfold svL ordN
  rw [List.length_map]
  exact Nat.le_trans (List.length_filter_le _ _) (by simp)
def RcI (w : World) (keep : List Int) (p : List Wr) (i : Nat) (v : Value) (W : World) : Prop := Own w.heap.size 2 v (svL keep p i).length (pC (svL keep p i)) W ∧ Gr w W
def RcJ (w4 : World) (v0 : Value) (n : Nat) (d : Dk) (keep : List Int) (t : Int) (k : Nat) (W : World) : Prop := Own 0 1 v0 n (byC (applyL d.dur ((lastCut t (survive keep d.pend)).take k))) W ∧ Chs (fun j => v0.ownBlock = some j) w4 W
set_option maxRecDepth 100000 in
set_option maxHeartbeats 2000000 in
theorem rcrash_any {S : Nat → Prop} {gx n : Nat} {d : Dk} {w : World} (v : Value) (keep : List Int) (t : Int) (h : RefAt S gx n d w) (hi : d.inv n) (hn1 : 1 ≤ n) (hn : n ≤ 4194304) (hp : d.pend.length ≤ 1000000) (hk : keep.length ≤ 1000000) (hz : IntsBelow w.heap.size v keep w)
    (ht : -9223372036854775808 ≤ t ∧ t ≤ 9223372036854775807) (hpz : ∀ x ∈ d.pend, x.2.size ≤ 4194304) (hS : ∀ k, S k → k < w.heap.size) :
    Calls Try.prog 33 #[.pointer (some ⟨gx, 0, none⟩), v, .int .i64 t] w fun e w' => e = .returned (.tuple #[]) ∧ RefAt S gx n (crashD d keep t) w' ∧ Chs S w w' := by
  obtain ⟨v0, v1, s0, h0, h1, hrow, o0, o1⟩ := h
  obtain ⟨p, c, rfl⟩ := ints_slice hz
  obtain ⟨p0, c0, rfl⟩ := o0.slice2
  obtain ⟨p1, c1, rfl⟩ := o1.slice2
  have hgx : gx < w.heap.size := hS _ s0
  have HB := Lib.hid hrow
  have H0 := Lib.hid h0
  have H1 := Lib.hid h1
  have HO0 := Lib.hid o0
  have HO1 := Lib.hid o1
  have HI := Lib.hid hi
  have HZ := Lib.hid hz
  have HT := Lib.hid ht
  have HS := Lib.hid hS
  have HPz := Lib.hid hpz
  obtain ⟨i80, hi80, hz80, hs80, hb80⟩ := info_parts info80
  have Hi := Lib.hid hi80
  have Hz := Lib.hid hz80
  have Hs := Lib.hid hs80
  have Hb := Lib.hid hb80
  obtain ⟨m, hm⟩ : ∃ m, d.pend.length = m := ⟨_, rfl⟩
  have HM := Lib.hid hm
  rw [hm] at hp HB HO1 H1
  clear hrow h0 h1 o0 o1 hi hz ht hS hi80 hz80 hs80 hb80 hpz hm
  go_enter Try.func33, Try.ntmps33
  obtain ⟨wo, hwo⟩ : ∃ wo, wo = w := ⟨_, rfl⟩
  have H00 : Hid (RcI wo keep d.pend 0 (.slice none 0 0) w) := Lib.hid ⟨by rw [hwo]; exact Own.nil _ _ _, by rw [hwo]; exact Gr.refl _⟩
  go_wp2_with fail
  go_loopw [6, 7] (fun v6 v7 W => ∃ (i : Nat) (v : Value), i ≤ m ∧ v6 = v ∧ v7 = .int .i64 (i : Int) ∧ Hid (RcI wo keep d.pend i v W)) (fun _ v7 _ => m - (intOf v7).toNat)
  case atStart => exact ⟨0, _, Nat.zero_le _, rfl, rfl, H00⟩
  case round =>
    obtain ⟨i, vv, him, hvv, rfl, HC⟩ := hrel
    subst hvv
    subst hwo
    obtain ⟨q0, q1, -⟩ := cells4 (HC.out.2.block HB.out)
    have hgr : gx < wr.heap.size := World.block_lt_of_cell? wr ⟨gx, 1, none⟩ q1
    by_cases hlt : i < m
    · have tk : decide (i < m) = true := decide_eq_true hlt
      obtain ⟨x, hx⟩ : ∃ x, d.pend[i]? = some x := ⟨_, List.getElem?_eq_getElem (by rw [HM.out]; exact hlt)⟩
      obtain ⟨gp, op, rfl, hcl, k0, k1⟩ : ∃ gp op, p1 = some ⟨gp, op, none⟩ ∧ m ≤ c1 ∧ wr.cell? ⟨gp, op + i * 2, none⟩ = some (.int .i64 (x.1 : Int)) ∧ wr.cell? ⟨gp, op + i * 2 + 1, none⟩ = some (.string x.2) := by
        rcases HO1.out.2 with ⟨_, h0⟩ | ⟨g, off, cap, he, hB, hc, hm, hx4, hw⟩
        · omega
        · injection he with e1 e2 e3
          obtain ⟨y0, y1⟩ := pC_get d.pend i x hx
          exact ⟨g, off, e1, by omega, HC.out.2.cell (hx4 _ _ y0), HC.out.2.cell (hx4 _ _ y1)⟩
      have hsv := svL_succ keep d.pend i hx
      have hzr : IntsBelow wo.heap.size (.slice p keep.length c) keep wr := HZ.out.below (n₀ := wo.heap.size) HC.out.2
      have HHs := Lib.hid (has_any (.slice p keep.length c) keep (i : Int) wr hzr hk)
      have hsl := svL_len keep d.pend i
      obtain ⟨xo, xs⟩ := x
      simp only at k0 k1
      by_cases hin : (i : Int) ∈ keep
      · rw [decide_eq_true hin] at HHs
        rw [if_pos hin] at hsv
        have HSv := Lib.hid hsv
        have HOl := Lib.hid HC.out.1
        have HGl := Lib.hid HC.out.2
        clear hx hsv hzr hin HC
        go_wp2_with fail
        refine HHs.out.mono ?_
        rintro e w2 ⟨rfl, rfl⟩
        clear HHs
        go_wp2_with ((with_reducible show wpList _ _ _ (⟨some 31, _, _, _, _, _⟩ :: _) _ _); refine push_wrB (dt := 22) (st := 30) (v := u6) rfl rfl Hi.out Hz.out Hs.out Hb.out rfl HOl.out HGl.out.size (by omega) rfl rfl rfl ?_; intro v' w3 hown3 hch3)
        have HI2 : Hid (RcI wo keep d.pend (i + 1) v' w3) := Lib.hid (by
          refine ⟨?_, Below.trans HGl.out (hch3.below (fun g hg => own_geJ HOl.out hg) HGl.out.size)⟩
          have e := pC_push (svL keep d.pend i) (xo, xs)
          rw [HSv.out, ← e, List.length_append]; exact hown3)
        clear hown3 hch3 HOl HGl HSv k0 k1 q0 q1
        go_wp2_with fail
        go_roundw
        case rel => exact ⟨i + 1, _, by omega, rfl, by go_num, HI2⟩
        case measure => simp [intOf]; omega
      · rw [decide_eq_false hin] at HHs
        rw [if_neg hin, List.append_nil] at hsv
        have HI2 : Hid (RcI wo keep d.pend (i + 1) u6 wr) := Lib.hid (by unfold RcI; rw [hsv]; exact HC.out)
        clear hx hsv hzr hin HC
        go_wp2_with fail
        refine HHs.out.mono ?_
        rintro e w2 ⟨rfl, rfl⟩
        clear HHs
        go_wp2_with fail
        go_roundw
        case rel => exact ⟨i + 1, _, by omega, rfl, by go_num, HI2⟩
        case measure => simp [intOf]; omega
    · have tk : decide (i < m) = false := decide_eq_false hlt
      have him' : i = m := by omega
      subst him'
      have HOl : Hid (Own wo.heap.size 2 u6 (survive keep d.pend).length (pC (survive keep d.pend)) wr ∧ Gr wo wr) := Lib.hid (by
        have h := HC.out
        unfold RcI svL at h
        rw [← HM.out] at h
        exact h)
      obtain ⟨pl, cl, rfl⟩ := HOl.out.1.slice2
      obtain ⟨q, hq⟩ : ∃ q, (survive keep d.pend).length = q := ⟨_, rfl⟩
      rw [hq] at HOl
      rw [hq]
      have HQ := Lib.hid hq
      have hqm : q ≤ 1000000 := by have := svL_len keep d.pend d.pend.length; rw [HM.out] at this; rw [← hq]; unfold survive; unfold svL at this; rw [HM.out]; omega
      clear hq HC H00 him hlt
      go_wp2_with fail
      clear tk q1 hgr
      obtain ⟨w4, hw4⟩ : ∃ w4, w4 = wr := ⟨_, rfl⟩
      rw [← hw4] at HOl
      have HJ0 : Hid (RcJ w4 (.slice p0 n c0) n d keep t 0 wr) := Lib.hid ⟨by rw [List.take_zero]; rw [hw4] at HOl; exact HO0.out.gr HOl.out.2, by rw [hw4]; exact Chs.refl _ _⟩
      generalize wr = wq at HJ0
      clear hw4 q0
      go_loopw [8] (fun v8 W => ∃ k : Nat, k ≤ q ∧ v8 = .int .i64 (k : Int) ∧ Hid (RcJ w4 (.slice p0 n c0) n d keep t k W)) (fun v8 _ => q - (intOf v8).toNat)
      case atStart => exact ⟨0, Nat.zero_le _, rfl, HJ0⟩
      case round =>
        obtain ⟨k, hkq, rfl, HC⟩ := hrel
        have hv0lt : ∀ g, (Value.slice p0 n c0).ownBlock = some g → g < wo.heap.size := fun g hg => HS.out g (H0.out g hg).1
        by_cases hlt : k < q
        · have tk : decide (k < q) = true := decide_eq_true hlt
          obtain ⟨i, hi⟩ : ∃ i, (ordN keep d.pend.length)[k]? = some i := ⟨_, List.getElem?_eq_getElem (by have := HQ.out; rw [survive_length] at this; omega)⟩
          have hil := ordN_get_lt hi
          obtain ⟨x, hx⟩ : ∃ x, d.pend[i]? = some x := ⟨_, List.getElem?_eq_getElem hil⟩
          have hL := survive_get hi hx
          obtain ⟨gl, ol, rfl, hcl, k0, k1⟩ : ∃ gl ol, pl = some ⟨gl, ol, none⟩ ∧ q ≤ cl ∧ wr.cell? ⟨gl, ol + k * 2, none⟩ = some (.int .i64 (x.1 : Int)) ∧ wr.cell? ⟨gl, ol + k * 2 + 1, none⟩ = some (.string x.2) := by
            rcases HOl.out.1.2 with ⟨_, h0⟩ | ⟨g, off, cap, he, hB, hc, hm, hx4, hw⟩
            · omega
            · injection he with e1 e2 e3
              obtain ⟨y0, y1⟩ := pC_get _ k x hL
              exact ⟨g, off, e1, by omega, HC.out.2.cell (hx4 _ _ y0) (fun e => by have := hv0lt g e; omega), HC.out.2.cell (hx4 _ _ y1) (fun e => by have := hv0lt g e; omega)⟩
          obtain ⟨q0, -⟩ := cells4 (HC.out.2.block (HOl.out.2.block HB.out) (fun e => (H0.out gx e).2 rfl))
          have hgr : gx < wr.heap.size := World.block_lt_of_cell? wr ⟨gx, 0, none⟩ q0
          have hok : Wr.ok n x := HI.out.2.2.1 x (List.mem_of_getElem? hx)
          have hxz : x.2.size ≤ 4194304 := HPz.out x (List.mem_of_getElem? hx)
          have HAp : Hid (∀ (y : World) (s' : ByteArray), Gr wr y → s'.size ≤ x.2.size → Calls Try.prog 44 #[.slice p0 n c0, .int .i64 (x.1 : Int), .string s'] y fun e w' => e = .returned (.tuple #[]) ∧ Own 0 1 (.slice p0 n c0) n (byC (putW (applyL d.dur ((lastCut t (survive keep d.pend)).take k)) (x.1, s'))) w' ∧ Chs (fun j => (Value.slice p0 n c0).ownBlock = some j) y w') :=
            Lib.hid (fun y s' hg hs => apply_any (o := x.1) (s := s') (HC.out.1.gr hg) (by unfold Wr.ok at hok; omega) hn1 hn)
          have HSt : Hid (∀ (s' : ByteArray) (y y' : World), s' = (if k + 1 = q then tornS t x.2 else x.2) → Gr wr y → Own 0 1 (.slice p0 n c0) n (byC (putW (applyL d.dur ((lastCut t (survive keep d.pend)).take k)) (x.1, s'))) y' → Chs (fun j => (Value.slice p0 n c0).ownBlock = some j) y y' → Hid (RcJ w4 (.slice p0 n c0) n d keep t (k + 1) y')) := Lib.hid (fun s' y y' hs hg ho hc => by
            refine ⟨?_, (HC.out.2.trans (Chs.of_gr (S := fun j => (Value.slice p0 n c0).ownBlock = some j) hg) (fun _ _ h => h)).trans hc (fun _ _ h => h)⟩
            have hqq : (ordN keep d.pend.length).length = q := by rw [← survive_length]; exact HQ.out
            rw [crash_step hi hx, hqq, ← hs]; exact ho)
          obtain ⟨xo, xs⟩ := x
          simp only at k0 k1 HAp HSt hxz
          have ew : IntKind.i64.wrap ((q : Int) - 1) = (q : Int) - 1 := IntWalk.i64_in _ (by omega)
          clear hi hil hx hL hok HC
          by_cases hl : k + 1 = q
          · have tl : ((k : Int) == (q : Int) - 1) = true := by rw [beq_iff_eq]; omega
            by_cases ht0 : 0 ≤ t
            · have t0 : decide (0 ≤ t) = true := decide_eq_true ht0
              obtain ⟨tn, rfl⟩ := Int.eq_ofNat_of_zero_le ht0
              by_cases htn : tn < xs.size
              · have t4 : decide (tn < xs.size) = true := decide_eq_true htn
                have htle : tn ≤ xs.size := by omega
                have HS2 : Hid (xs.extract 0 tn = (if k + 1 = q then tornS (tn : Int) xs else xs)) := Lib.hid (by rw [if_pos hl, tornS_pos (by omega), Int.toNat_natCast, Nat.min_eq_left (by omega)])
                have HLe : Hid ((xs.extract 0 tn).size ≤ xs.size) := Lib.hid (by simp only [ByteArray.size_extract]; omega)
                go_upto_region 12 with fail
                generalize xs.extract 0 tn = s2 at HS2 HLe ⊢
                go_upto_region 12 with fail
                have hS0 : ∀ y : GrS wr.drew, y.w.cell? ⟨gl, ol + k * 2, none⟩ = some (.int .i64 (xo : Int)) := fun y => y.h.cell (w := wr.drew) k0
                have hS2 : ∀ y : GrS wr.drew, y.w.cell? ⟨gx, 0, none⟩ = some (.slice p0 n c0) := fun y => y.h.cell (w := wr.drew) q0
                clear k0 k1 q0
                refine region_grow 10 81 (by kernel_rfl) rfl (by kernel_rfl) rfl rfl ?_
                simp only [List.take_succ_cons, List.take_zero, List.drop_succ_cons, List.drop_zero]
                refine seg 10 rfl rfl rfl rfl ?_
                simp only [List.take_succ_cons, List.take_zero, List.drop_succ_cons, List.drop_zero]
                repeat (go_big_quiet_step (fail))
                refine wpQuiet_nil ?_
                intro _
                refine grow_end0 rfl rfl ?_
                intro wD hG
                have hGD : Gr wr wD := Gr.trans (Gr.drew wr) hG
                have HA2 := Lib.hid (HAp.out wD s2 hGD HLe.out)
                have HGD := Lib.hid hGD
                clear hS0 hS2 hG hGD HAp
                go_wp2_with fail
                refine HA2.out.mono ?_
                rintro e wE ⟨rfl, hoE, hcE⟩
                have HN := HSt.out s2 wD wE HS2.out HGD.out hoE hcE
                clear hoE hcE HA2 HSt HGD
                go_wp2_with fail
                go_roundw
                case rel => exact ⟨k + 1, by omega, by go_num, HN⟩
                case measure => simp [intOf]; omega
              · have t4 : decide (tn < xs.size) = false := decide_eq_false htn
                have HS2 : Hid (xs = (if k + 1 = q then tornS (tn : Int) xs else xs)) := Lib.hid (by rw [if_pos hl, tornS_full (by omega)])
                have HLe : Hid (xs.size ≤ xs.size) := Lib.hid (Nat.le_refl _)
                go_upto_region 12 with fail
                have hS0 : ∀ y : GrS wr.drew, y.w.cell? ⟨gl, ol + k * 2, none⟩ = some (.int .i64 (xo : Int)) := fun y => y.h.cell (w := wr.drew) k0
                have hS2 : ∀ y : GrS wr.drew, y.w.cell? ⟨gx, 0, none⟩ = some (.slice p0 n c0) := fun y => y.h.cell (w := wr.drew) q0
                clear k0 k1 q0
                refine region_grow 10 81 (by kernel_rfl) rfl (by kernel_rfl) rfl rfl ?_
                simp only [List.take_succ_cons, List.take_zero, List.drop_succ_cons, List.drop_zero]
                refine seg 10 rfl rfl rfl rfl ?_
                simp only [List.take_succ_cons, List.take_zero, List.drop_succ_cons, List.drop_zero]
                repeat (go_big_quiet_step (fail))
                refine wpQuiet_nil ?_
                intro _
                refine grow_end0 rfl rfl ?_
                intro wD hG
                have hGD : Gr wr wD := Gr.trans (Gr.drew wr) hG
                have HA2 := Lib.hid (HAp.out wD xs hGD HLe.out)
                have HGD := Lib.hid hGD
                clear hS0 hS2 hG hGD HAp
                go_wp2_with fail
                refine HA2.out.mono ?_
                rintro e wE ⟨rfl, hoE, hcE⟩
                have HN := HSt.out xs wD wE HS2.out HGD.out hoE hcE
                clear hoE hcE HA2 HSt HGD
                go_wp2_with fail
                go_roundw
                case rel => exact ⟨k + 1, by omega, by go_num, HN⟩
                case measure => simp [intOf]; omega
            · have t0 : decide (0 ≤ t) = false := decide_eq_false ht0
              have HS2 : Hid (xs = (if k + 1 = q then tornS t xs else xs)) := Lib.hid (by rw [if_pos hl, tornS_neg (by omega)])
              have HLe : Hid (xs.size ≤ xs.size) := Lib.hid (Nat.le_refl _)
              go_upto_region 12 with fail
              have hS0 : ∀ y : GrS wr.drew, y.w.cell? ⟨gl, ol + k * 2, none⟩ = some (.int .i64 (xo : Int)) := fun y => y.h.cell (w := wr.drew) k0
              have hS2 : ∀ y : GrS wr.drew, y.w.cell? ⟨gx, 0, none⟩ = some (.slice p0 n c0) := fun y => y.h.cell (w := wr.drew) q0
              clear k0 k1 q0
              refine region_grow 10 81 (by kernel_rfl) rfl (by kernel_rfl) rfl rfl ?_
              simp only [List.take_succ_cons, List.take_zero, List.drop_succ_cons, List.drop_zero]
              refine seg 10 rfl rfl rfl rfl ?_
              simp only [List.take_succ_cons, List.take_zero, List.drop_succ_cons, List.drop_zero]
              repeat (go_big_quiet_step (fail))
              refine wpQuiet_nil ?_
              intro _
              refine grow_end0 rfl rfl ?_
              intro wD hG
              have hGD : Gr wr wD := Gr.trans (Gr.drew wr) hG
              have HA2 := Lib.hid (HAp.out wD xs hGD HLe.out)
              have HGD := Lib.hid hGD
              clear hS0 hS2 hG hGD HAp
              go_wp2_with fail
              refine HA2.out.mono ?_
              rintro e wE ⟨rfl, hoE, hcE⟩
              have HN := HSt.out xs wD wE HS2.out HGD.out hoE hcE
              clear hoE hcE HA2 HSt HGD
              go_wp2_with fail
              go_roundw
              case rel => exact ⟨k + 1, by omega, by go_num, HN⟩
              case measure => simp [intOf]; omega
          · have tl : ((k : Int) == (q : Int) - 1) = false := by rw [beq_eq_false_iff_ne]; omega
            have HS2 : Hid (xs = (if k + 1 = q then tornS t xs else xs)) := Lib.hid (by rw [if_neg hl])
            have HLe : Hid (xs.size ≤ xs.size) := Lib.hid (Nat.le_refl _)
            go_upto_region 12 with fail
            have hS0 : ∀ y : GrS wr.drew, y.w.cell? ⟨gl, ol + k * 2, none⟩ = some (.int .i64 (xo : Int)) := fun y => y.h.cell (w := wr.drew) k0
            have hS2 : ∀ y : GrS wr.drew, y.w.cell? ⟨gx, 0, none⟩ = some (.slice p0 n c0) := fun y => y.h.cell (w := wr.drew) q0
            clear k0 k1 q0
            refine region_grow 10 81 (by kernel_rfl) rfl (by kernel_rfl) rfl rfl ?_
            simp only [List.take_succ_cons, List.take_zero, List.drop_succ_cons, List.drop_zero]
            refine seg 10 rfl rfl rfl rfl ?_
            simp only [List.take_succ_cons, List.take_zero, List.drop_succ_cons, List.drop_zero]
            repeat (go_big_quiet_step (fail))
            refine wpQuiet_nil ?_
            intro _
            refine grow_end0 rfl rfl ?_
            intro wD hG
            have hGD : Gr wr wD := Gr.trans (Gr.drew wr) hG
            have HA2 := Lib.hid (HAp.out wD xs hGD HLe.out)
            have HGD := Lib.hid hGD
            clear hS0 hS2 hG hGD HAp
            go_wp2_with fail
            refine HA2.out.mono ?_
            rintro e wE ⟨rfl, hoE, hcE⟩
            have HN := HSt.out xs wD wE HS2.out HGD.out hoE hcE
            clear hoE hcE HA2 HSt HGD
            go_wp2_with fail
            go_roundw
            case rel => exact ⟨k + 1, by omega, by go_num, HN⟩
            case measure => simp [intOf]; omega
        · have tk : decide (k < q) = false := decide_eq_false hlt
          have hkq' : k = q := by omega
          have hr4 := HC.out.2.block (HOl.out.2.block HB.out) (fun e => (H0.out gx e).2 rfl)
          obtain ⟨q0, q1, q2, q3, qf⟩ := cells4 hr4
          have qf1 := qf 1
          have qf2 := qf 2
          have qf3 := qf 3
          have hgr : gx < wr.heap.size := World.block_lt_of_cell? wr ⟨gx, 0, none⟩ q0
          have HF : Hid (RefAt S gx n (crashD d keep t) (((wr.setCell ⟨gx, 1, none⟩ (.slice none 0 0)).setCell ⟨gx, 2, none⟩ (.bool false)).setCell ⟨gx, 3, none⟩ (.int .i64 0)) ∧ Chs S wo (((wr.setCell ⟨gx, 1, none⟩ (.slice none 0 0)).setCell ⟨gx, 2, none⟩ (.bool false)).setCell ⟨gx, 3, none⟩ (.int .i64 0))) := Lib.hid (by
            have hc : Chs (fun j => j = gx) wr (((wr.setCell ⟨gx, 1, none⟩ (.slice none 0 0)).setCell ⟨gx, 2, none⟩ (.bool false)).setCell ⟨gx, 3, none⟩ (.int .i64 0)) := ((chs_setCell (S := fun j => j = gx) wr rfl 1 _).trans (chs_setCell (S := fun j => j = gx) _ rfl 2 _) (fun _ _ h => h)).trans (chs_setCell (S := fun j => j = gx) _ rfl 3 _) (fun _ _ h => h)
            have hO := HC.out.1
            have hqq : (ordN keep d.pend.length).length = q := by rw [← survive_length]; exact HQ.out
            rw [hkq', ← hqq, crash_end] at hO
            refine ⟨⟨_, _, s0, H0.out, fun g hg => by simp [Value.ownBlock] at hg, row4_set _ (row4_set _ (row4_set wr hr4 _) _) _, hO.keepS hc (fun g hg e => (H0.out g hg).2 e), Own.nil _ _ _⟩, ?_⟩
            exact (((Chs.of_gr (S := S) HOl.out.2).trans HC.out.2 (fun j _ e => (H0.out j e).1))).trans (hc.mono (S' := S) (fun j e => e ▸ s0)) (fun _ _ h => h))
          clear hr4 qf HC hkq'
          go_wp2_with fail
          go_end0
          exact ⟨rfl, HF.out⟩
end Go.Proofs.Ytmkdnfiiehgcaaa
