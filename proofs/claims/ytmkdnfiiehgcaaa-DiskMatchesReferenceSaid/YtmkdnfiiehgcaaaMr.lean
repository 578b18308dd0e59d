/- DiskMatchesReference: the walk. -/
import Derived.Test.YtmkdnfiiehgcaaaStO
namespace Go.Proofs.Ytmkdnfiiehgcaaa
open Go Go.RowKit
attribute [local go_sem] gAt gUpon hUpon
attribute [local simp] Gr.refl Gr.alloc

theorem held_more {P : Program} {ops : Array Oper} {Q : Exit → Act → World → Prop} {md : Region.Mode} {S S' : World → Prop} (h : ∀ w, S' w → S w) :
    ∀ (fuel : Nat) (listed : Array Bool) (a : Act) (w : World), wpAnyH P md ops Q S' fuel listed a w → wpAnyH P md ops Q S fuel listed a w
  | 0, _, _, _, hh => hh
  | fuel + 1, _, _, _, hh => ⟨hh.1, fun i hi => wpOp_mono (fun a' w' h' => ⟨h w' h'.1, held_more h fuel _ a' w' h'.2⟩) (hh.2 i hi)⟩
/-- what holds at a round -/
def MrI (w : World) (gd gx n k : Nat) (W : World) : Prop := ∃ d, Both w (fun _ => False) gd gx n d d W ∧ d.pend.length ≤ k
set_option maxRecDepth 100000 in
set_option maxHeartbeats 4000000 in
theorem mr_any (z : Int) (v : Value) (l : List SP) (w : World) (hz : -9223372036854775808 ≤ z ∧ z ≤ 9223372036854775807) (hv : RowsIn 5 (StR w) v l w) :
    Calls Try.prog 4 #[.int .i64 z, v] w fun e w' => e = .returned (.bool true) ∧ Gr w w' := by
  obtain ⟨p, c, rfl, -⟩ := hv.shape
  have HS := Lib.hid (sane_any w)
  have HP := Lib.hid (fun x => pick_any z 400 x hz (by decide) (by decide))
  have hlt := pickD_lt z (n := 400) (by decide)
  generalize pickD z 400 = q at HP hlt
  have e1 : IntKind.i64.wrap (1 + (q : Int)) = ((1 + q : Nat) : Int) := by rw [IntWalk.i64_in _ (by omega)]; rfl
  obtain ⟨n, hn⟩ : ∃ n, 1 + q = n := ⟨_, rfl⟩
  rw [hn] at e1
  have hn1 : 1 ≤ n := by omega
  have hn2 : n ≤ 400 := by omega
  have HN := Lib.hid (fun x => new_any n hn1 (by omega) x)
  have HM := Lib.hid (fun x => rnew_any n hn1 (by omega) x)
  have HV := Lib.hid hv
  have hll := hv.len
  unfold maxLen at hll
  clear hz hv hlt hn
  go_enter Try.func4, Try.ntmps4
  go_wp2_with fail
  refine HS.out.mono ?_
  rintro e w1 ⟨rfl, hg1⟩
  have HG1 := Lib.hid hg1
  clear hg1 HS
  go_wp2_with fail
  refine (HP.out _).mono ?_
  rintro e w2 ⟨rfl, rfl⟩
  clear HP
  go_wp2_with fail
  refine (HN.out _).mono ?_
  rintro e wB ⟨gd, rfl, ha, hga⟩
  have HA1 := Lib.hid ha
  have HA2 := Lib.hid hga
  clear ha hga HN
  go_wp2_with fail
  refine (HM.out _).mono ?_
  rintro e wC ⟨gx, rfl, hb, hgb⟩
  have HI0 : Hid (MrI w gd gx n 0 wC) := Lib.hid ⟨newD n, both_new HG1.out HA1.out HA2.out hb hgb, Nat.zero_le _⟩
  clear hb hgb HA1 HA2 HG1 HM e1
  go_wp2_with fail
  go_loopw [10] (fun v10 W => ∃ k : Nat, k ≤ l.length ∧ k ≤ 60 ∧ v10 = .int .i64 (k : Int) ∧ Hid (MrI w gd gx n k W)) (fun v10 _ => 60 - (intOf v10).toNat)
  case atStart => exact ⟨0, Nat.zero_le _, by decide, rfl, HI0⟩
  case round =>
    obtain ⟨k, hkl, hk60, rfl, HC⟩ := hrel
    by_cases hlt : k < l.length ∧ k < 60
    · obtain ⟨d, hB, hp⟩ := HC.out
      have t1 : decide (k < l.length) = true := decide_eq_true hlt.1
      have t2 : decide (k < 60) = true := decide_eq_true hlt.2
      have t3 : decide ((k : Int) < 60) = true := decide_eq_true (by omega)
      obtain ⟨x, hx⟩ : ∃ x, l[k]? = some x := ⟨_, List.getElem?_eq_getElem hlt.1⟩
      obtain ⟨g, off, pk, ck, rfl, hlc, hgl, m0, m1, m2, m3, m4, b0, b1, b2, b3, b4, b5, b6⟩ := st_at HV.out hx (Gr.refl w)
      have c0 := hB.g.cell m0
      have c1 := hB.g.cell m1
      have c2 := hB.g.cell m2
      have c3 := hB.g.cell m3
      have c4 := hB.g.cell m4
      unfold maxLen at b3 b5
      unfold i64B at b0 b1 b2
      have HSt := Lib.hid (fun V (hg : Gr wr V) => step_any x.call x.off x.n x.s pk x.keep ck (hB.gr hg) hn1 (by omega) (by omega) b0 b1 b2 (by omega) b6 b4 (by omega))
      have HKeep : Hid (∀ V, Gr w V → V.cell? ⟨g, off + k * 5, none⟩ = some (.int .i64 x.call) ∧ V.cell? ⟨g, off + k * 5 + 1, none⟩ = some (.int .i64 x.off) ∧ V.cell? ⟨g, off + k * 5 + 2, none⟩ = some (.int .i64 x.n) ∧ V.cell? ⟨g, off + k * 5 + 3, none⟩ = some (.string x.s) ∧ V.cell? ⟨g, off + k * 5 + 4, none⟩ = some (.slice pk x.keep.length ck)) := Lib.hid (fun V hg => ⟨hg.cell m0, hg.cell m1, hg.cell m2, hg.cell m3, hg.cell m4⟩)
      clear m0 m1 m2 m3 m4
      obtain ⟨xc, xo, xn, xs, xk⟩ := x
      simp only at c0 c1 c2 c3 c4 HSt HKeep
      obtain ⟨lk, hlk⟩ : ∃ lk, xk.length = lk := ⟨_, rfl⟩
      simp only [hlk] at c4 HSt HKeep
      have hgr : g < wr.heap.size := World.block_lt_of_cell? wr _ c0
      clear hB HC hx b0 b1 b2 b3 b4 b5 b6 hlk
      go_upto_region 10 with fail
      refine wp_region_noPanic ?_
      refine wp_region_held_drew (S := (fun w' => w'.cell? ⟨g, off + k * 5, none⟩ = some (.int .i64 xc) ∧ w'.cell? ⟨g, off + k * 5 + 1, none⟩ = some (.int .i64 xo) ∧ w'.cell? ⟨g, off + k * 5 + 2, none⟩ = some (.int .i64 xn) ∧ w'.cell? ⟨g, off + k * 5 + 3, none⟩ = some (.string xs) ∧ w'.cell? ⟨g, off + k * 5 + 4, none⟩ = some (.slice pk lk ck))) (by kernel_rfl) ⟨c0, c1, c2, c3, c4⟩ (fun hHeld => ?_)
      refine held_take 0 (v := ?_) rfl rfl (by kernel_rfl) (by kernel_rfl) (by kernel_rfl) (fun _ _ _ h => h) (by rfl) ?_ (by assumption) ?_
      rotate_left
      · (intro w hSw; (try dsimp only at hSw); go_simp; try with_reducible rfl)
      try simp only [Act.put, List.setIfInBounds_toArray, List.set_cons_zero, List.set_cons_succ]
      refine held_take 1 (v := ?_) rfl rfl (by kernel_rfl) (by kernel_rfl) (by kernel_rfl) (fun _ _ _ h => h) (by rfl) ?_ (by assumption) ?_
      rotate_left
      · (intro w hSw; (try dsimp only at hSw); go_simp; try with_reducible rfl)
      try simp only [Act.put, List.setIfInBounds_toArray, List.set_cons_zero, List.set_cons_succ]
      refine held_take 2 (v := ?_) rfl rfl (by kernel_rfl) (by kernel_rfl) (by kernel_rfl) (fun _ _ _ h => h) (by rfl) ?_ (by assumption) ?_
      rotate_left
      · (intro w hSw; (try dsimp only at hSw); go_simp; try with_reducible rfl)
      try simp only [Act.put, List.setIfInBounds_toArray, List.set_cons_zero, List.set_cons_succ]
      refine held_take 3 (v := ?_) rfl rfl (by kernel_rfl) (by kernel_rfl) (by kernel_rfl) (fun _ _ _ h => h) (by rfl) ?_ (by assumption) ?_
      rotate_left
      · (intro w hSw; (try dsimp only at hSw); go_simp; try with_reducible rfl)
      try simp only [Act.put, List.setIfInBounds_toArray, List.set_cons_zero, List.set_cons_succ]
      refine held_take 4 (v := ?_) rfl rfl (by kernel_rfl) (by kernel_rfl) (by kernel_rfl) (fun _ _ _ h => h) (by rfl) ?_ (by assumption) ?_
      rotate_left
      · (intro w hSw; (try dsimp only at hSw); go_simp; try with_reducible rfl)
      try simp only [Act.put, List.setIfInBounds_toArray, List.set_cons_zero, List.set_cons_succ]
      refine held_take 5 (v := ?_) rfl rfl (by kernel_rfl) (by kernel_rfl) (by kernel_rfl) (fun _ _ _ h => h) (by rfl) ?_ (by assumption) ?_
      rotate_left
      · (intro w hSw; (try dsimp only at hSw); go_simp; try with_reducible rfl)
      try simp only [Act.put, List.setIfInBounds_toArray, List.set_cons_zero, List.set_cons_succ]
      refine held_step 6 (by kernel_rfl) rfl rfl (by rfl) ?_
      go_simp
      refine (HSt.out _ (Gr.drew _)).mono ?_
      rintro e wE ⟨rfl, hE⟩
      obtain ⟨d2, hB2, hp2⟩ := hE.out
      have hcE := HKeep.out wE hB2.g
      obtain ⟨pL, cL, hL⟩ := b_list hB2
      have HB2 := Lib.hid hB2
      have HPn := Lib.hid (b_pending hB2)
      have HSz := Lib.hid (b_size hB2)
      have HL := Lib.hid hL
      have hxE : gx < wE.heap.size := World.block_lt_of_cell? wE ⟨gx, 1, none⟩ hL
      clear hB2 hE hHeld hL
      refine ⟨_, rfl, Thn.mk hcE (fun hHeld => ?_)⟩
      try simp only [Act.put, List.setIfInBounds_toArray, List.set_cons_zero, List.set_cons_succ]
      refine held_more (S' := (fun w' => (w'.cell? ⟨g, off + k * 5, none⟩ = some (.int .i64 xc) ∧ w'.cell? ⟨g, off + k * 5 + 1, none⟩ = some (.int .i64 xo) ∧ w'.cell? ⟨g, off + k * 5 + 2, none⟩ = some (.int .i64 xn) ∧ w'.cell? ⟨g, off + k * 5 + 3, none⟩ = some (.string xs) ∧ w'.cell? ⟨g, off + k * 5 + 4, none⟩ = some (.slice pk lk ck)) ∧ w'.cell? ⟨gx, 1, none⟩ = some (.slice pL d2.pend.length cL))) (fun _ h => h.1) _ _ _ _ ?_
      have hHeld2 : (fun w' => (w'.cell? ⟨g, off + k * 5, none⟩ = some (.int .i64 xc) ∧ w'.cell? ⟨g, off + k * 5 + 1, none⟩ = some (.int .i64 xo) ∧ w'.cell? ⟨g, off + k * 5 + 2, none⟩ = some (.int .i64 xn) ∧ w'.cell? ⟨g, off + k * 5 + 3, none⟩ = some (.string xs) ∧ w'.cell? ⟨g, off + k * 5 + 4, none⟩ = some (.slice pk lk ck)) ∧ w'.cell? ⟨gx, 1, none⟩ = some (.slice pL d2.pend.length cL)) wE := ⟨hcE, HL.out⟩
      clear hHeld
      refine held_take 7 (v := ?_) rfl rfl (by kernel_rfl) (by kernel_rfl) (by kernel_rfl) (fun _ _ _ h => h) (by rfl) ?_ (by assumption) ?_
      rotate_left
      · (intro w hSw; (try dsimp only at hSw); go_simp; try with_reducible rfl)
      try simp only [Act.put, List.setIfInBounds_toArray, List.set_cons_zero, List.set_cons_succ]
      refine held_take 8 (v := ?_) rfl rfl (by kernel_rfl) (by kernel_rfl) (by kernel_rfl) (fun _ _ _ h => h) (by rfl) ?_ (by assumption) ?_
      rotate_left
      · (intro w hSw; (try dsimp only at hSw); go_simp; try with_reducible rfl)
      try simp only [Act.put, List.setIfInBounds_toArray, List.set_cons_zero, List.set_cons_succ]
      refine held_take 9 (v := ?_) rfl rfl (by kernel_rfl) (by kernel_rfl) (by kernel_rfl) (fun _ _ _ h => h) (by rfl) ?_ (by assumption) ?_
      rotate_left
      · (intro w hSw; (try dsimp only at hSw); go_simp; try with_reducible rfl)
      try simp only [Act.put, List.setIfInBounds_toArray, List.set_cons_zero, List.set_cons_succ]
      refine held_take 11 (v := ?_) rfl rfl (by kernel_rfl) (by kernel_rfl) (by kernel_rfl) (fun _ _ _ h => h) (by rfl) ?_ (by assumption) ?_
      rotate_left
      · (intro w hSw; (try dsimp only at hSw); go_simp; try with_reducible rfl)
      try simp only [Act.put, List.setIfInBounds_toArray, List.set_cons_zero, List.set_cons_succ]
      refine held_take 12 (v := ?_) rfl rfl (by kernel_rfl) (by kernel_rfl) (by kernel_rfl) (fun _ _ _ h => h) (by rfl) ?_ (by assumption) ?_
      rotate_left
      · (intro w hSw; (try dsimp only at hSw); go_simp; try with_reducible rfl)
      try simp only [Act.put, List.setIfInBounds_toArray, List.set_cons_zero, List.set_cons_succ]
      refine held_take 13 (v := ?_) rfl rfl (by kernel_rfl) (by kernel_rfl) (by kernel_rfl) (fun _ _ _ h => h) (by rfl) ?_ (by assumption) ?_
      rotate_left
      · (intro w hSw; (try dsimp only at hSw); go_simp; try with_reducible rfl)
      try simp only [Act.put, List.setIfInBounds_toArray, List.set_cons_zero, List.set_cons_succ]
      refine held_take 14 (v := ?_) rfl rfl (by kernel_rfl) (by kernel_rfl) (by kernel_rfl) (fun _ _ _ h => h) (by rfl) ?_ (by assumption) ?_
      rotate_left
      · (intro w hSw; (try dsimp only at hSw); go_simp; try with_reducible rfl)
      try simp only [Act.put, List.setIfInBounds_toArray, List.set_cons_zero, List.set_cons_succ]
      refine held_take 15 (v := ?_) rfl rfl (by kernel_rfl) (by kernel_rfl) (by kernel_rfl) (fun _ _ _ h => h) (by rfl) ?_ (by assumption) ?_
      rotate_left
      · (intro w hSw; (try dsimp only at hSw); go_simp; try with_reducible rfl)
      try simp only [Act.put, List.setIfInBounds_toArray, List.set_cons_zero, List.set_cons_succ]
      refine held_step 10 (by kernel_rfl) rfl rfl (by rfl) ?_
      go_simp
      refine HPn.out.mono ?_
      rintro e wF ⟨rfl, rfl⟩
      refine ⟨_, rfl, Thn.mk ⟨hcE, HL.out⟩ (fun hHeld => ?_)⟩
      try simp only [Act.put, List.setIfInBounds_toArray, List.set_cons_zero, List.set_cons_succ]
      refine held_take 16 (v := ?_) rfl rfl (by kernel_rfl) (by kernel_rfl) (by kernel_rfl) (fun _ _ _ h => h) (by rfl) ?_ (by assumption) ?_
      rotate_left
      · (intro w hSw; (try dsimp only at hSw); go_simp; try with_reducible rfl)
      try simp only [Act.put, List.setIfInBounds_toArray, List.set_cons_zero, List.set_cons_succ]
      refine held_take 17 (v := ?_) rfl rfl (by kernel_rfl) (by kernel_rfl) (by kernel_rfl) (fun _ _ _ h => h) (by rfl) ?_ (by assumption) ?_
      rotate_left
      · (intro w hSw; (try dsimp only at hSw); go_simp; try with_reducible rfl)
      try simp only [Act.put, List.setIfInBounds_toArray, List.set_cons_zero, List.set_cons_succ]
      refine held_take 18 (v := ?_) rfl rfl (by kernel_rfl) (by kernel_rfl) (by kernel_rfl) (fun _ _ _ h => h) (by rfl) ?_ (by assumption) ?_
      rotate_left
      · (intro w hSw; (try dsimp only at hSw); go_simp; try with_reducible rfl)
      try simp only [Act.put, List.setIfInBounds_toArray, List.set_cons_zero, List.set_cons_succ]
      refine held_take 19 (v := ?_) rfl rfl (by kernel_rfl) (by kernel_rfl) (by kernel_rfl) (fun _ _ _ h => h) (by rfl) ?_ (by assumption) ?_
      rotate_left
      · (intro w hSw; (try dsimp only at hSw); go_simp; try with_reducible rfl)
      try simp only [Act.put, List.setIfInBounds_toArray, List.set_cons_zero, List.set_cons_succ]
      refine held_take 21 (v := ?_) rfl rfl (by kernel_rfl) (by kernel_rfl) (by kernel_rfl) (fun _ _ _ h => h) (by rfl) ?_ (by assumption) ?_
      rotate_left
      · (intro w hSw; (try dsimp only at hSw); go_simp; try with_reducible rfl)
      try simp only [Act.put, List.setIfInBounds_toArray, List.set_cons_zero, List.set_cons_succ]
      refine held_step 20 (by kernel_rfl) rfl rfl (by rfl) ?_
      go_simp
      refine HSz.out.mono ?_
      rintro e wF ⟨rfl, rfl⟩
      refine ⟨_, rfl, Thn.mk ⟨hcE, HL.out⟩ (fun hHeld => ?_)⟩
      try simp only [Act.put, List.setIfInBounds_toArray, List.set_cons_zero, List.set_cons_succ]
      refine held_take 22 (v := ?_) rfl rfl (by kernel_rfl) (by kernel_rfl) (by kernel_rfl) (fun _ _ _ h => h) (by rfl) ?_ (by assumption) ?_
      rotate_left
      · (intro w hSw; (try dsimp only at hSw); go_simp; try with_reducible rfl)
      try simp only [Act.put, List.setIfInBounds_toArray, List.set_cons_zero, List.set_cons_succ]
      refine held_take 23 (v := ?_) rfl rfl (by kernel_rfl) (by kernel_rfl) (by kernel_rfl) (fun _ _ _ h => h) (by rfl) ?_ (by assumption) ?_
      rotate_left
      · (intro w hSw; (try dsimp only at hSw); go_simp; try with_reducible rfl)
      try simp only [Act.put, List.setIfInBounds_toArray, List.set_cons_zero, List.set_cons_succ]
      refine wpAnyH_done (by kernel_rfl) ?_ _
      refine NoPanic.normal ?_
      obtain ⟨⟨R, rv⟩, hR⟩ : ∃ x, readD d2 n 0 (n : Int) = x := ⟨_, rfl⟩
      have HR1 := Lib.hid (b_read hR HB2.out (by omega) (by decide))
      have HR2 := Lib.hid (br_read hR HB2.out hn1 (by omega) (by omega) (by decide))
      clear hR c0 c1 c2 c3 c4 hHeld2 HPn HSz HL hcE HKeep HSt
      go_wp2_with fail
      refine HR1.out.mono ?_
      rintro e wF ⟨rfl, rfl⟩
      clear HR1
      go_wp2_with fail
      refine HR2.out.mono ?_
      rintro e wG ⟨rfl, hgG⟩
      have HI : Hid (MrI w gd gx n (k + 1) wG) := Lib.hid ⟨d2, HB2.out.gr hgG, by omega⟩
      clear HR2 hgG HB2
      go_wp2_with fail
      go_roundw
      case rel => exact ⟨k + 1, by omega, by omega, by go_num, HI⟩
      case measure => simp [intOf]; omega
    · obtain ⟨d, hB, -⟩ := HC.out
      have hor : (decide (k < l.length) = true ∧ decide (k < 60) = false ∧ decide ((k : Int) < 60) = false) ∨ decide (k < l.length) = false := by
        by_cases hl : k < l.length
        · exact .inl ⟨decide_eq_true hl, decide_eq_false (by omega), decide_eq_false (by omega)⟩
        · exact .inr (decide_eq_false hl)
      have HG := Lib.hid hB.g
      clear hB HC
      rcases hor with ⟨t1, t2, t3⟩ | t1
      all_goals
        go_wp2_with fail
        go_ret
        exact ⟨rfl, HG.out⟩
end Go.Proofs.Ytmkdnfiiehgcaaa
