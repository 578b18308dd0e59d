/- DiskTwins: the walk. -/
import Derived.Test.YtmkdnfiiehgcaaaTwA
import Derived.Test.YtmkdnfiiehgcaaaHeldK
namespace Go.Proofs.Ytmkdnfiiehgcaaa
open Go Go.RowKit
attribute [local go_sem] gAt gUpon hUpon
attribute [local simp] Gr.refl Gr.alloc

/-- what holds at a round -/
def TwI (w : World) (g1 g2 g3 n k : Nat) (W : World) : Prop := ∃ x y, Tri w (fun _ => False) g1 g2 g3 n x y x W ∧ x.calm ∧ y.calm ∧ x.pend.length ≤ k ∧ y.pend.length ≤ k
theorem crash0_calm (d : Dk) (t : Int) : (crashD d [] t).calm ∧ (crashD d [] t).pend = [] := ⟨⟨rfl, rfl⟩, rfl⟩
def BoxAt (bb fo : Nat) (fs : ByteArray) (bx : Bool) (V : World) : Prop := V.heap[bb]? = some (.cells #[.int .i64 (fo : Int), .string fs, .bool bx] 53 (0, 0))
theorem box_cells {bb fo : Nat} {fs : ByteArray} {bx : Bool} {V : World} (h : BoxAt bb fo fs bx V) : V.cell? ⟨bb, 0, none⟩ = some (.int .i64 (fo : Int)) ∧ V.cell? ⟨bb, 1, none⟩ = some (.string fs) ∧ V.cell? ⟨bb, 2, none⟩ = some (.bool bx) :=
  ⟨by rw [cell_of_row _ _ _ _ _ _ h]; rfl, by rw [cell_of_row _ _ _ _ _ _ h]; rfl, by rw [cell_of_row _ _ _ _ _ _ h]; rfl⟩
set_option maxRecDepth 100000 in
set_option maxHeartbeats 4000000 in
theorem tw_any (z : Int) (v : Value) (l : List WP) (w : World) (hz : -9223372036854775808 ≤ z ∧ z ≤ 9223372036854775807) (hv : RowsIn 3 WpR v l w) :
    Calls Try.prog 11 #[.int .i64 z, v] w fun e w' => e = .returned (.bool true) ∧ Gr w w' := by
  obtain ⟨p, c, rfl, -⟩ := hv.shape
  have HS := Lib.hid (sane_any w)
  have HP := Lib.hid (fun x => pick_any z 100 x hz (by decide) (by decide))
  have hlt := pickD_lt z (n := 100) (by decide)
  generalize pickD z 100 = q at HP hlt
  have e1 : IntKind.i64.wrap (1 + (q : Int)) = ((1 + q : Nat) : Int) := by rw [IntWalk.i64_in _ (by omega)]; rfl
  obtain ⟨n, hn⟩ : ∃ n, 1 + q = n := ⟨_, rfl⟩
  rw [hn] at e1
  have hn1 : 1 ≤ n := by omega
  have hn2 : n ≤ 100 := by omega
  have HN := Lib.hid (fun x => new_any n hn1 (by omega) x)
  have HV := Lib.hid hv
  have hll := hv.len
  unfold maxLen at hll
  clear hz hv hlt hn
  go_enter Try.func11, Try.ntmps11
  go_wp2_with fail
  refine HS.out.mono ?_
  rintro e w1 ⟨rfl, hg1⟩
  have HG1 := Lib.hid hg1
  clear hg1 HS
  go_wp2_with fail
  refine (HP.out _).mono ?_
  rintro e w2 ⟨rfl, rfl⟩
  clear HP
  go_wp2_with fail
  refine (HN.out _).mono ?_
  rintro e wB ⟨ga, rfl, ha, hga⟩
  have HA1 := Lib.hid ha
  have HA2 := Lib.hid hga
  clear ha hga
  go_wp2_with fail
  refine (HN.out _).mono ?_
  rintro e wC ⟨gb, rfl, hb, hgb⟩
  have HB1 := Lib.hid hb
  have HB2 := Lib.hid hgb
  clear hb hgb
  go_wp2_with fail
  refine (HN.out _).mono ?_
  rintro e wD ⟨gc, rfl, hc, hgc⟩
  have HI0 : Hid (TwI w ga gb gc n 0 wD) := Lib.hid ⟨newD n, newD n, tri_new HG1.out HA1.out HA2.out HB1.out HB2.out hc hgc, ⟨rfl, rfl⟩, ⟨rfl, rfl⟩, Nat.zero_le _, Nat.zero_le _⟩
  clear hc hgc HA1 HA2 HB1 HB2 HG1 HN e1
  go_wp2_with fail
  go_loopw [12] (fun v12 W => ∃ k : Nat, k ≤ l.length ∧ k ≤ 30 ∧ v12 = .int .i64 (k : Int) ∧ Hid (TwI w ga gb gc n k W)) (fun v12 _ => 30 - (intOf v12).toNat)
  case atStart => exact ⟨0, Nat.zero_le _, by decide, rfl, HI0⟩
  case round =>
    obtain ⟨k, hkl, hk30, rfl, HC⟩ := hrel
    by_cases hlt : k < l.length ∧ k < 30
    · obtain ⟨x1, y1, hT, c1', c2', hp1, hp2⟩ := HC.out
      have t1 : decide (k < l.length) = true := decide_eq_true hlt.1
      have t2 : decide (k < 30) = true := decide_eq_true hlt.2
      have t3 : decide ((k : Int) < 30) = true := decide_eq_true (by omega)
      obtain ⟨x, hx⟩ : ∃ x, l[k]? = some x := ⟨_, List.getElem?_eq_getElem hlt.1⟩
      obtain ⟨g, off, rfl, hlc, c0, c1, c2, bo, bs⟩ := wp_at HV.out hx hT.g
      have HF := Lib.hid (fun y => fits_any x.off x.s x.sync n y bo bs (by omega))
      have HOk := Lib.hid (fitsD_ok x.off x.s n)
      obtain ⟨ox, sx, bx⟩ := x
      simp only at c0 c1 c2 HF HOk
      generalize fitsD ox sx n = f at HF HOk
      obtain ⟨fo, fs⟩ := f
      simp only at HF
      have HTr := Lib.hid hT
      have HC1 := Lib.hid c1'
      have HC2 := Lib.hid c2'
      clear hT c1' c2' HC hx bo bs
      go_wp2_with fail
      refine (HF.out _).mono ?_
      rintro e w5 ⟨rfl, hg5⟩
      have HG5 := Lib.hid hg5
      clear hg5 HF c0 c1 c2
      go_upto_region 12 with fail
      have hbox := heap_alloc_new w5 (.cells #[.int .i64 (fo : Int), .string fs, .bool bx] 53)
      obtain ⟨bb, hbb⟩ : ∃ bb, bb = w5.heap.size := ⟨_, rfl⟩
      have HB5 : Hid (Tri w (fun j => j = bb) ga gb gc n x1 y1 x1 (w5.alloc (.cells #[.int .i64 (fo : Int), .string fs, .bool bx] 53))) := Lib.hid ((HTr.out.gr HG5.out).more (Gr.alloc _ _) (fun j hj => .inr (by rw [World.size_alloc]; omega)))
      rw [← hbb] at hbox ⊢
      refine wp_gen (F := fun y => Tri w (fun j => j = bb) ga gb gc n x1 y1 x1 y ∧ y.heap[bb]? = some (.cells #[.int .i64 (fo : Int), .string fs, .bool bx] 53 (0, 0))) ⟨HB5.out, hbox⟩ ?_
      clear HB5 hbox hbb HG5 HTr
      rintro wB ⟨hTB, hbox⟩
      have c0 : wB.cell? ⟨bb, 0, none⟩ = some (.int .i64 (fo : Int)) := by rw [cell_of_row _ _ _ _ _ _ hbox]; rfl
      have c1 : wB.cell? ⟨bb, 1, none⟩ = some (.string fs) := by rw [cell_of_row _ _ _ _ _ _ hbox]; rfl
      have hfo : fo + fs.size ≤ n := by have := HOk.out; unfold Wr.ok at this; exact this
      have HX := Lib.hid hbox
      have HTB := Lib.hid hTB
      clear hTB hbox
      by_cases hodd : k % 2 = 1
      · have t5 : ((k : Int) % 2 == 1) = true := by rw [beq_iff_eq]; omega
        have HW := Lib.hid (t_write (writeD_ok HC2.out.1 hfo) HTB.out.rot (by omega) (by omega) (by omega))
        have HWc := Lib.hid (wrote_calm (o := fo) (s := fs) HC2.out)
        have hpw : (y1.wrote fo fs).pend.length ≤ k + 1 := by rw [wrote_pend, List.length_append]; simpa using hp2
        generalize y1.wrote fo fs = y2 at HW HWc hpw
        clear HTB HC2
        go_wp2_with fail
        refine HW.out.mono ?_
        rintro e wE ⟨rfl, hTE, hcE⟩
        have hxE := fre_row hcE HX.out (.inl rfl)
        have c0 : wE.cell? ⟨bb, 0, none⟩ = some (.int .i64 (fo : Int)) := by rw [cell_of_row _ _ _ _ _ _ hxE]; rfl
        have c2 : wE.cell? ⟨bb, 2, none⟩ = some (.bool bx) := by rw [cell_of_row _ _ _ _ _ _ hxE]; rfl
        have HTE := Lib.hid hTE
        have HX := Lib.hid hxE
        clear hTE hcE hxE HW c1
        cases bx with
        | true =>
          have HSy := Lib.hid (t_sync (sync_calm HWc.out).1 HTE.out)
          have HSc := Lib.hid (sync_calm HWc.out).2
          have hps : (settleD y2 y2.vis).pend.length ≤ k + 1 := Nat.zero_le _
          generalize settleD y2 y2.vis = y3 at HSy HSc hps
          go_wp2_with fail
          refine HSy.out.mono ?_
          rintro e wF ⟨rfl, hTF, hcF⟩
          have hxF := fre_row hcF HX.out (.inl rfl)
          have c0 : wF.cell? ⟨bb, 0, none⟩ = some (.int .i64 (fo : Int)) := by rw [cell_of_row _ _ _ _ _ _ hxF]; rfl
          have HTF := Lib.hid hTF
          clear hTF hcF hxF HSy HTE HWc c2
          by_cases h7 : fo % 7 = 3
          · have t7 : ((fo : Int) % 7 == 3) = true := by rw [beq_iff_eq]; omega
            have HCr := Lib.hid (t_crash0 1 rfl HTF.out (by omega) (by omega) (by decide))
            have HCc := Lib.hid (crash0_calm y3 1)
            generalize crashD y3 [] 1 = y4 at HCr HCc
            clear HTF
            go_wp2_with fail
            refine HCr.out.mono ?_
            rintro e wG ⟨rfl, hTG, -⟩
            have HI : Hid (TwI w ga gb gc n (k + 1) wG) := Lib.hid ⟨x1, y4, (hTG.more (Gr.refl _) (fun k hk => hk.elim)).rot.rot, HC1.out, HCc.out.1, by omega, by rw [HCc.out.2]; exact Nat.zero_le _⟩
            clear hTG HCr HCc
            go_wp2_with fail
            go_roundw
            case rel => exact ⟨k + 1, by omega, by omega, by go_num, HI⟩
            case measure => simp [intOf]; omega
          · have t7 : ((fo : Int) % 7 == 3) = false := by rw [beq_eq_false_iff_ne]; omega
            have HI : Hid (TwI w ga gb gc n (k + 1) wF) := Lib.hid ⟨x1, y3, (HTF.out.more (Gr.refl _) (fun k hk => hk.elim)).rot.rot, HC1.out, HSc.out, by omega, hps⟩
            clear HTF HSc
            go_wp2_with fail
            go_roundw
            case rel => exact ⟨k + 1, by omega, by omega, by go_num, HI⟩
            case measure => simp [intOf]; omega
        | false =>
          by_cases h7 : fo % 7 = 3
          · have t7 : ((fo : Int) % 7 == 3) = true := by rw [beq_iff_eq]; omega
            have HCr := Lib.hid (t_crash0 1 rfl HTE.out (by omega) (by omega) (by decide))
            have HCc := Lib.hid (crash0_calm y2 1)
            generalize crashD y2 [] 1 = y4 at HCr HCc
            clear HTE
            go_wp2_with fail
            refine HCr.out.mono ?_
            rintro e wG ⟨rfl, hTG, -⟩
            have HI : Hid (TwI w ga gb gc n (k + 1) wG) := Lib.hid ⟨x1, y4, (hTG.more (Gr.refl _) (fun k hk => hk.elim)).rot.rot, HC1.out, HCc.out.1, by omega, by rw [HCc.out.2]; exact Nat.zero_le _⟩
            clear hTG HCr HCc
            go_wp2_with fail
            go_roundw
            case rel => exact ⟨k + 1, by omega, by omega, by go_num, HI⟩
            case measure => simp [intOf]; omega
          · have t7 : ((fo : Int) % 7 == 3) = false := by rw [beq_eq_false_iff_ne]; omega
            have HI : Hid (TwI w ga gb gc n (k + 1) wE) := Lib.hid ⟨x1, y2, (HTE.out.more (Gr.refl _) (fun k hk => hk.elim)).rot.rot, HC1.out, HWc.out, by omega, hpw⟩
            clear HTE HWc
            go_wp2_with fail
            go_roundw
            case rel => exact ⟨k + 1, by omega, by omega, by go_num, HI⟩
            case measure => simp [intOf]; omega
      · have t5 : ((k : Int) % 2 == 1) = false := by rw [beq_eq_false_iff_ne]; omega
        have HW1 := Lib.hid (fun V (hg : Gr wB V) => t_write (writeD_ok HC1.out.1 hfo) (HTB.out.gr hg) (by omega) (by omega) (by omega))
        have HW3 := Lib.hid (fun V (hT : Tri w (fun j => j = bb) gc ga gb n x1 (x1.wrote fo fs) y1 V) => t_write (writeD_ok HC1.out.1 hfo) hT (by omega) (by omega) (by omega))
        have HWc := Lib.hid (wrote_calm (o := fo) (s := fs) HC1.out)
        have hpw : (x1.wrote fo fs).pend.length ≤ k + 1 := by rw [wrote_pend, List.length_append]; simpa using hp1
        generalize x1.wrote fo fs = x2 at HW1 HW3 HWc hpw
        go_upto_region 15 with fail
        have c2 : wB.cell? ⟨bb, 2, none⟩ = some (.bool bx) := by rw [cell_of_row _ _ _ _ _ _ HX.out]; rfl
        have HFr : Hid (∀ V V' : World, Hid (BoxAt bb fo fs bx V) → Chs (Fre w (fun j => j = bb)) V V' → Hid (BoxAt bb fo fs bx V')) := Lib.hid (fun V V' h hc => fre_row hc h.out (.inl rfl))
        cases bx with
        | true =>
          have HS1 := Lib.hid (fun V (hT : Tri w (fun j => j = bb) ga gb gc n x2 y1 x2 V) => t_sync (sync_calm HWc.out).1 hT)
          have HS3 := Lib.hid (fun V (hT : Tri w (fun j => j = bb) gc ga gb n x2 (settleD x2 x2.vis) y1 V) => t_sync (sync_calm HWc.out).1 hT)
          have HSc := Lib.hid (sync_calm HWc.out).2
          have hps : (settleD x2 x2.vis).pend.length ≤ k + 1 := Nat.zero_le _
          generalize settleD x2 x2.vis = x3 at HS1 HS3 HSc hps
          first
            | (go_region_held3 (fun w' => w'.cell? ⟨bb, 0, none⟩ = some (.int .i64 (fo : Int)) ∧ w'.cell? ⟨bb, 1, none⟩ = some (.string fs) ∧ w'.cell? ⟨bb, 2, none⟩ = some (.bool true)) (first | exact ⟨c0, c1, c2⟩ | exact hbE | exact hbF | exact hbG | exact hbH)
               (first
                 | (go_at_call_of 21 (Value.pointer (some ⟨ga, 0, none⟩))
                    refine (HW1.out _ ?_).mono ?_
                    · exact Gr.drew _
                    rintro e wE ⟨rfl, hTE, hcE⟩
                    have hbE := box_cells (fre_row hcE (Gr.block (Gr.drew wB) HX.out) (.inl rfl))
                    have HTE := Lib.hid hTE
                    have HbE := Lib.hid (fre_row hcE (Gr.block (Gr.drew wB) HX.out) (.inl rfl))
                    clear hTE hcE)
                 | (go_at_call_of 21 (Value.pointer (some ⟨gc, 0, none⟩))
                    refine (HW3.out _ ?_).mono ?_
                    · exact HTE.out.rot.rot
                    rintro e wF ⟨rfl, hTF, hcF⟩
                    have hbF := box_cells (fre_row hcF HbE.out (.inl rfl))
                    have HTF := Lib.hid hTF
                    have HbF := Lib.hid (fre_row hcF HbE.out (.inl rfl))
                    clear hTF hcF)
                 | (go_at_call_of 23 (Value.pointer (some ⟨ga, 0, none⟩))
                    refine (HS1.out _ ?_).mono ?_
                    · exact HTF.out.rot
                    rintro e wG ⟨rfl, hTG, hcG⟩
                    have hbG := box_cells (fre_row hcG HbF.out (.inl rfl))
                    have HTG := Lib.hid hTG
                    have HbG := Lib.hid (fre_row hcG HbF.out (.inl rfl))
                    clear hTG hcG)
                 | (go_at_call_of 23 (Value.pointer (some ⟨gc, 0, none⟩))
                    refine (HS3.out _ ?_).mono ?_
                    · exact HTG.out.rot.rot
                    rintro e wH ⟨rfl, hTH, hcH⟩
                    have hbH := box_cells (fre_row hcH HbG.out (.inl rfl))
                    have HTH := Lib.hid hTH
                    clear hTH hcH)))
            | fail
          all_goals
            have HI : Hid (TwI w ga gb gc n (k + 1) wH) := Lib.hid ⟨x3, y1, (HTH.out.more (Gr.refl _) (fun k hk => hk.elim)).rot, HSc.out, HC2.out, hps, by omega⟩
            clear HTF HTG HTH HbE HbF HbG hbE hbF hbG hbH c0 c1 c2
            go_wp2_with fail
            go_roundw
            case rel => exact ⟨k + 1, by omega, by omega, by go_num, HI⟩
            case measure => simp [intOf]; omega
        | false =>
          refine wp_region_noPanic ?_
          refine wp_region_held_drew (S := (fun w' => w'.cell? ⟨bb, 0, none⟩ = some (.int .i64 (fo : Int)) ∧ w'.cell? ⟨bb, 1, none⟩ = some (.string fs) ∧ w'.cell? ⟨bb, 2, none⟩ = some (.bool false))) (by kernel_rfl) ⟨c0, c1, c2⟩ (fun hHeld => ?_)
          refine held_take 0 (v := ?_) rfl rfl (by kernel_rfl) (by kernel_rfl) (by kernel_rfl) (fun _ _ _ h => h) (by rfl) ?_ (by assumption) ?_
          rotate_left
          · (intro w hSw; (try dsimp only at hSw); go_simp; try with_reducible rfl)
          try simp only [Act.put, List.setIfInBounds_toArray, List.set_cons_zero, List.set_cons_succ]
          refine held_take 1 (v := ?_) rfl rfl (by kernel_rfl) (by kernel_rfl) (by kernel_rfl) (fun _ _ _ h => h) (by rfl) ?_ (by assumption) ?_
          rotate_left
          · (intro w hSw; (try dsimp only at hSw); go_simp; try with_reducible rfl)
          try simp only [Act.put, List.setIfInBounds_toArray, List.set_cons_zero, List.set_cons_succ]
          refine held_take 2 (v := ?_) rfl rfl (by kernel_rfl) (by kernel_rfl) (by kernel_rfl) (fun _ _ _ h => h) (by rfl) ?_ (by assumption) ?_
          rotate_left
          · (intro w hSw; (try dsimp only at hSw); go_simp; try with_reducible rfl)
          try simp only [Act.put, List.setIfInBounds_toArray, List.set_cons_zero, List.set_cons_succ]
          refine held_take 3 (v := ?_) rfl rfl (by kernel_rfl) (by kernel_rfl) (by kernel_rfl) (fun _ _ _ h => h) (by rfl) ?_ (by assumption) ?_
          rotate_left
          · (intro w hSw; (try dsimp only at hSw); go_simp; try with_reducible rfl)
          try simp only [Act.put, List.setIfInBounds_toArray, List.set_cons_zero, List.set_cons_succ]
          refine held_take 4 (v := ?_) rfl rfl (by kernel_rfl) (by kernel_rfl) (by kernel_rfl) (fun _ _ _ h => h) (by rfl) ?_ (by assumption) ?_
          rotate_left
          · (intro w hSw; (try dsimp only at hSw); go_simp; try with_reducible rfl)
          try simp only [Act.put, List.setIfInBounds_toArray, List.set_cons_zero, List.set_cons_succ]
          refine held_take 6 (v := ?_) rfl rfl (by kernel_rfl) (by kernel_rfl) (by kernel_rfl) (fun _ _ _ h => h) (by rfl) ?_ (by assumption) ?_
          rotate_left
          · (intro w hSw; (try dsimp only at hSw); go_simp; try with_reducible rfl)
          try simp only [Act.put, List.setIfInBounds_toArray, List.set_cons_zero, List.set_cons_succ]
          refine held_take 7 (v := ?_) rfl rfl (by kernel_rfl) (by kernel_rfl) (by kernel_rfl) (fun _ _ _ h => h) (by rfl) ?_ (by assumption) ?_
          rotate_left
          · (intro w hSw; (try dsimp only at hSw); go_simp; try with_reducible rfl)
          try simp only [Act.put, List.setIfInBounds_toArray, List.set_cons_zero, List.set_cons_succ]
          refine held_take 8 (v := ?_) rfl rfl (by kernel_rfl) (by kernel_rfl) (by kernel_rfl) (fun _ _ _ h => h) (by rfl) ?_ (by assumption) ?_
          rotate_left
          · (intro w hSw; (try dsimp only at hSw); go_simp; try with_reducible rfl)
          try simp only [Act.put, List.setIfInBounds_toArray, List.set_cons_zero, List.set_cons_succ]
          refine held_take 9 (v := ?_) rfl rfl (by kernel_rfl) (by kernel_rfl) (by kernel_rfl) (fun _ _ _ h => h) (by rfl) ?_ (by assumption) ?_
          rotate_left
          · (intro w hSw; (try dsimp only at hSw); go_simp; try with_reducible rfl)
          try simp only [Act.put, List.setIfInBounds_toArray, List.set_cons_zero, List.set_cons_succ]
          refine held_take 10 (v := ?_) rfl rfl (by kernel_rfl) (by kernel_rfl) (by kernel_rfl) (fun _ _ _ h => h) (by rfl) ?_ (by assumption) ?_
          rotate_left
          · (intro w hSw; (try dsimp only at hSw); go_simp; try with_reducible rfl)
          try simp only [Act.put, List.setIfInBounds_toArray, List.set_cons_zero, List.set_cons_succ]
          refine held_step 5 (by kernel_rfl) rfl rfl (by rfl) ?_
          go_simp
          refine (HW1.out _ (Gr.drew _)).mono ?_
          rintro e wE ⟨rfl, hTE, hcE⟩
          have hbE := box_cells (fre_row hcE (Gr.block (Gr.drew wB) HX.out) (.inl rfl))
          have HTE := Lib.hid hTE
          have HbE := Lib.hid (fre_row hcE (Gr.block (Gr.drew wB) HX.out) (.inl rfl))
          clear hTE hcE hHeld
          refine ⟨_, rfl, Thn.mk hbE (fun hHeld => ?_)⟩
          try simp only [Act.put, List.setIfInBounds_toArray, List.set_cons_zero, List.set_cons_succ]
          refine held_step 11 (by kernel_rfl) rfl rfl (by rfl) ?_
          go_simp
          refine (HW3.out _ HTE.out.rot.rot).mono ?_
          rintro e wF ⟨rfl, hTF, hcF⟩
          have hbF := box_cells (fre_row hcF HbE.out (.inl rfl))
          have HTF := Lib.hid hTF
          clear hTF hcF hHeld
          refine ⟨_, rfl, Thn.mk hbF (fun hHeld => ?_)⟩
          try simp only [Act.put, List.setIfInBounds_toArray, List.set_cons_zero, List.set_cons_succ]
          refine held_take 12 (v := ?_) rfl rfl (by kernel_rfl) (by kernel_rfl) (by kernel_rfl) (fun _ _ _ h => h) (by rfl) ?_ (by assumption) ?_
          rotate_left
          · (intro w hSw; (try dsimp only at hSw); go_simp; try with_reducible rfl)
          try simp only [Act.put, List.setIfInBounds_toArray, List.set_cons_zero, List.set_cons_succ]
          refine held_take 13 (v := ?_) rfl rfl (by kernel_rfl) (by kernel_rfl) (by kernel_rfl) (fun _ _ _ h => h) (by rfl) ?_ (by assumption) ?_
          rotate_left
          · (intro w hSw; (try dsimp only at hSw); go_simp; try with_reducible rfl)
          try simp only [Act.put, List.setIfInBounds_toArray, List.set_cons_zero, List.set_cons_succ]
          refine held_take 14 (v := ?_) rfl rfl (by kernel_rfl) (by kernel_rfl) (by kernel_rfl) (fun _ _ _ h => h) (by rfl) ?_ (by assumption) ?_
          rotate_left
          · (intro w hSw; (try dsimp only at hSw); go_simp; try with_reducible rfl)
          try simp only [Act.put, List.setIfInBounds_toArray, List.set_cons_zero, List.set_cons_succ]
          refine held_take 15 (v := ?_) rfl rfl (by kernel_rfl) (by kernel_rfl) (by kernel_rfl) (fun _ _ _ h => h) (by rfl) ?_ (by assumption) ?_
          rotate_left
          · (intro w hSw; (try dsimp only at hSw); go_simp; try with_reducible rfl)
          try simp only [Act.put, List.setIfInBounds_toArray, List.set_cons_zero, List.set_cons_succ]
          refine held_take 16 (v := ?_) rfl rfl (by kernel_rfl) (by kernel_rfl) (by kernel_rfl) (fun _ _ _ h => h) (by rfl) ?_ (by assumption) ?_
          rotate_left
          · (intro w hSw; (try dsimp only at hSw); go_simp; try with_reducible rfl)
          try simp only [Act.put, List.setIfInBounds_toArray, List.set_cons_zero, List.set_cons_succ]
          refine held_skip 17 rfl rfl (by kernel_rfl) (by kernel_rfl) (by kernel_rfl) (fun _ _ _ h => h) (by rfl) (by assumption) ?_
          try simp only [Act.put, List.setIfInBounds_toArray, List.set_cons_zero, List.set_cons_succ]
          refine held_skip 18 rfl rfl (by kernel_rfl) (by kernel_rfl) (by kernel_rfl) (fun _ _ _ h => h) (by rfl) (by assumption) ?_
          try simp only [Act.put, List.setIfInBounds_toArray, List.set_cons_zero, List.set_cons_succ]
          refine held_skip 19 rfl rfl (by kernel_rfl) (by kernel_rfl) (by kernel_rfl) (fun _ _ _ h => h) (by rfl) (by assumption) ?_
          try simp only [Act.put, List.setIfInBounds_toArray, List.set_cons_zero, List.set_cons_succ]
          refine held_skip 20 rfl rfl (by kernel_rfl) (by kernel_rfl) (by kernel_rfl) (fun _ _ _ h => h) (by rfl) (by assumption) ?_
          try simp only [Act.put, List.setIfInBounds_toArray, List.set_cons_zero, List.set_cons_succ]
          refine held_skip 21 rfl rfl (by kernel_rfl) (by kernel_rfl) (by kernel_rfl) (fun _ _ _ h => h) (by rfl) (by assumption) ?_
          try simp only [Act.put, List.setIfInBounds_toArray, List.set_cons_zero, List.set_cons_succ]
          refine held_take 22 (v := ?_) rfl rfl (by kernel_rfl) (by kernel_rfl) (by kernel_rfl) (fun _ _ _ h => h) (by rfl) ?_ (by assumption) ?_
          rotate_left
          · (intro w hSw; (try dsimp only at hSw); go_simp; try with_reducible rfl)
          try simp only [Act.put, List.setIfInBounds_toArray, List.set_cons_zero, List.set_cons_succ]
          refine held_take 23 (v := ?_) rfl rfl (by kernel_rfl) (by kernel_rfl) (by kernel_rfl) (fun _ _ _ h => h) (by rfl) ?_ (by assumption) ?_
          rotate_left
          · (intro w hSw; (try dsimp only at hSw); go_simp; try with_reducible rfl)
          try simp only [Act.put, List.setIfInBounds_toArray, List.set_cons_zero, List.set_cons_succ]
          refine wpAnyH_done (by kernel_rfl) ?_ _
          refine NoPanic.normal ?_
          all_goals
            have HI : Hid (TwI w ga gb gc n (k + 1) wF) := Lib.hid ⟨x2, y1, (HTF.out.more (Gr.refl _) (fun k hk => hk.elim)).rot, HWc.out, HC2.out, hpw, by omega⟩
            clear HTF HbE hbE hbF c0 c1 c2
            go_wp2_with fail
            go_roundw
            case rel => exact ⟨k + 1, by omega, by omega, by go_num, HI⟩
            case measure => simp [intOf]; omega
    · obtain ⟨x1, y1, hT, c1', c2', hp1, hp2⟩ := HC.out
      have hor : (decide (k < l.length) = true ∧ decide (k < 30) = false ∧ decide ((k : Int) < 30) = false) ∨ decide (k < l.length) = false := by
        by_cases hl : k < l.length
        · exact .inl ⟨decide_eq_true hl, decide_eq_false (by omega), decide_eq_false (by omega)⟩
        · exact .inr (decide_eq_false hl)
      have HR1 := Lib.hid (t_read (read_all c1' hT.2.1) hT (by omega) (by decide))
      have HR2 := Lib.hid (t_read (read_all c1' hT.2.1) hT.rot.rot (by omega) (by decide))
      have HP1 := Lib.hid (t_pending hT)
      have HP2 := Lib.hid (t_pending hT.rot.rot)
      have HG := Lib.hid hT.g
      generalize bytesOf x1.vis = B at HR1 HR2
      clear hT c1' c2' HC HI0
      rcases hor with ⟨t1, t2, t3⟩ | t1
      all_goals
        go_wp2_with fail
        refine HR1.out.mono ?_
        rintro e w6 ⟨rfl, rfl⟩
        clear HR1
        go_wp2_with fail
        refine HR2.out.mono ?_
        rintro e w6 ⟨rfl, rfl⟩
        clear HR2
        go_wp2_with fail
        refine HP1.out.mono ?_
        rintro e w6 ⟨rfl, rfl⟩
        clear HP1
        go_wp2_with fail
        refine HP2.out.mono ?_
        rintro e w6 ⟨rfl, rfl⟩
        clear HP2
        go_wp2_with fail
        go_ret
        exact ⟨rfl, HG.out⟩
end Go.Proofs.Ytmkdnfiiehgcaaa
