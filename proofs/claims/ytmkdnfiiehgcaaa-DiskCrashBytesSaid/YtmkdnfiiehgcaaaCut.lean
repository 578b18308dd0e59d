/- DiskCut: the walk. -/
import Derived.Test.YtmkdnfiiehgcaaaCutA
namespace Go.Proofs.Ytmkdnfiiehgcaaa
open Go Go.RowKit
attribute [local go_sem] gAt gUpon
attribute [local simp] Gr.refl Gr.alloc

/-- the blocks that a disk's call leaves alone: the content's, and the list's of numbers -/
def XA (gb : Nat) (v : Value) : Nat → Prop := fun j => j = gb ∨ v.ownBlock = some j
/-- what holds at a round -/
def CuI (w : World) (gb gd n m k : Nat) (v : Value) (W : World) : Prop := ∃ d, Held w (XA gb v) gd n d W ∧ CuD m k d ∧ ByRow 5 gb d.vis W ∧ Own 0 1 v (min k m) (iC ((List.range (min k m)).map fun i : Nat => (i : Int))) W ∧ ∀ g, v.ownBlock = some g → g ≠ gb
set_option maxRecDepth 100000 in
set_option maxHeartbeats 4000000 in
theorem dcut_any (z y : Int) (v : Value) (l : List WP) (w : World) (hz : -9223372036854775808 ≤ z ∧ z ≤ 9223372036854775807) (hy : -9223372036854775808 ≤ y ∧ y ≤ 9223372036854775807) (hv : RowsIn 3 WpR v l w) :
    Calls Try.prog 10 #[.int .i64 z, .int .i64 y, v] w fun e w' => e = .returned (.bool true) ∧ Gr w w' := by
  obtain ⟨p, c, rfl, -⟩ := hv.shape
  have HS := Lib.hid (sane_any w)
  have HP := Lib.hid (fun x => pick_any z 100 x hz (by decide) (by decide))
  have hlt := pickD_lt z (n := 100) (by decide)
  generalize pickD z 100 = q at HP hlt
  have e1 : IntKind.i64.wrap (1 + (q : Int)) = ((1 + q : Nat) : Int) := by rw [IntWalk.i64_in _ (by omega)]; rfl
  obtain ⟨n, hn⟩ : ∃ n, 1 + q = n := ⟨_, rfl⟩
  rw [hn] at e1
  have hn1 : 1 ≤ n := by omega
  have hn2 : n ≤ 100 := by omega
  have HP2 := Lib.hid (fun x => pick_any y 20 x hy (by decide) (by decide))
  have hm20 := pickD_lt y (n := 20) (by decide)
  generalize pickD y 20 = m at HP2 hm20
  obtain ⟨m5, hm5⟩ : ∃ m5, m + 5 = m5 := ⟨_, rfl⟩
  have e2 : IntKind.i64.wrap ((m : Int) + 5) = (m5 : Int) := by rw [IntWalk.i64_in _ (by omega)]; omega
  have h50 : m5 ≠ 0 := by omega
  have h51 : m5 ≤ 25 := by omega
  clear hm5
  have HN := Lib.hid (fun x hG => h_new n hn1 (by omega) (w := w) (x := x) (fun _ => False) hG (fun _ h => h.elim))
  have HMk := Lib.hid (fun x => run_make40 n (by omega) x)
  have HV := Lib.hid hv
  have hll := hv.len
  unfold maxLen at hll
  clear hz hy hv hlt hn
  go_enter Try.func10, Try.ntmps10
  go_wp2_with fail
  refine HS.out.mono ?_
  rintro e w1 ⟨rfl, hg1⟩
  have HG1 := Lib.hid hg1
  clear hg1 HS
  go_wp2_with fail
  refine (HP.out _).mono ?_
  rintro e w2 ⟨rfl, rfl⟩
  clear HP
  go_wp2_with fail
  refine (HP2.out _).mono ?_
  rintro e w2 ⟨rfl, rfl⟩
  clear HP2
  go_wp2_with fail
  refine (HN.out _ HG1.out).mono ?_
  rintro e wx ⟨gd, rfl, hdx, hgx⟩
  have HC1 := Lib.hid (h_cut (cut_a n m5 h50) hdx (by omega))
  clear hdx hgx HN HG1
  go_wp2_with fail
  refine HC1.out.mono ?_
  rintro e wy ⟨rfl, hdy, -⟩
  have HC2 := Lib.hid (h_cut (cut_b (d := { newD n with off := false, left := m5 }) rfl m) hdy (by omega))
  clear hdy HC1
  go_wp2_with fail
  refine HC2.out.mono ?_
  rintro e w2 ⟨rfl, hd2, -⟩
  have HCu := Lib.hid (cuD_zero m { newD n with off := false, left := m5 } rfl)
  have HVi : Hid (Dk.vis { ({ newD n with off := false, left := m5 } : Dk) with off := decide ((m : Int) = 0), left := m } = List.replicate n 0) := Lib.hid rfl
  generalize ({ ({ newD n with off := false, left := m5 } : Dk) with off := decide ((m : Int) = 0), left := m } : Dk) = d0 at hd2 HCu HVi
  have HD2 := Lib.hid hd2
  have hmk := HMk.out
  clear hd2 HC2 e2 h50 h51
  go_wp2_with fail
  obtain ⟨gb, hgb⟩ : ∃ gb, gb = w2.heap.size := ⟨_, rfl⟩
  rw [← hgb]
  refine wp_gen (F := fun x => CuI w gb gd n m 0 (.slice none 0 0) x) ⟨d0, HD2.out.more (Gr.alloc _ _) (fun k hk => .inr (by rcases hk with hk | hk; exact ⟨by omega, by rw [World.size_alloc]; omega⟩; simp [Value.ownBlock] at hk)), HCu.out, by rw [HVi.out, hgb]; exact heap_alloc_new w2 _, by rw [Nat.zero_min]; exact Own.nil _ _ _, fun g hg => by simp [Value.ownBlock] at hg⟩ ?_
  intro wA hA
  have HA := Lib.hid hA
  clear hA HD2 hmk hgb HMk e1 HCu HVi
  obtain ⟨i3, hi3, hz3, hs3, hb3⟩ := info_parts info3
  go_wp2_with fail
  go_loopw [11, 12] (fun v11 v12 W => ∃ (k : Nat) (v : Value), k ≤ l.length ∧ k ≤ 40 ∧ v11 = v ∧ v12 = .int .i64 (k : Int) ∧ Hid (CuI w gb gd n m k v W)) (fun _ v12 _ => 40 - (intOf v12).toNat)
  case atStart => exact ⟨0, _, Nat.zero_le _, by decide, rfl, rfl, HA⟩
  case round =>
    obtain ⟨k, va, hkl, hk40, hva, rfl, HC⟩ := hrel
    subst hva
    by_cases hlt : k < l.length ∧ k < 40
    · obtain ⟨d, hd, hcu, hrow, hown, hne⟩ := HC.out
      have t1 : decide (k < l.length) = true := decide_eq_true hlt.1
      have t2 : decide (k < 40) = true := decide_eq_true hlt.2
      have t3 : decide ((k : Int) < 40) = true := decide_eq_true (by omega)
      obtain ⟨x, hx⟩ : ∃ x, l[k]? = some x := ⟨_, List.getElem?_eq_getElem hlt.1⟩
      obtain ⟨g, off, rfl, hlc, c0, c1, c2, bo, bs⟩ := wp_at HV.out hx hd.g
      have HF := Lib.hid (fun y => fits_any x.off x.s x.sync n y bo bs (by omega))
      have HOk := Lib.hid (fitsD_ok x.off x.s n)
      obtain ⟨ox, sx, bx⟩ := x
      simp only at c0 c1 c2 HF HOk
      generalize fitsD ox sx n = f at HF HOk
      obtain ⟨fo, fs⟩ := f
      simp only at HF
      have HD := Lib.hid hd
      have HR := Lib.hid hrow
      have HCu := Lib.hid hcu
      have HO := Lib.hid hown
      have HNe := Lib.hid hne
      clear hd hrow hcu hown hne HC hx bo bs
      go_wp2_with fail
      refine (HF.out _).mono ?_
      rintro e w5 ⟨rfl, hg5⟩
      have HG5 := Lib.hid hg5
      clear hg5 HF c0 c1 c2
      go_upto_region 13 with fail
      have hbox := heap_alloc_new w5 (.cells #[.int .i64 (fo : Int), .string fs, .bool bx] 53)
      obtain ⟨bb, hbb⟩ : ∃ bb, bb = w5.heap.size := ⟨_, rfl⟩
      have HB5 : Hid (Held w (fun j => XA gb u11 j ∨ j = bb) gd n d (w5.alloc (.cells #[.int .i64 (fo : Int), .string fs, .bool bx] 53)) ∧ ByRow 5 gb d.vis (w5.alloc (.cells #[.int .i64 (fo : Int), .string fs, .bool bx] 53)) ∧ bb ≠ gb ∧
          Own 0 1 u11 (min k m) (iC ((List.range (min k m)).map fun i : Nat => (i : Int))) (w5.alloc (.cells #[.int .i64 (fo : Int), .string fs, .bool bx] 53))) := Lib.hid (by
        have hlt := HR.out.lt
        have hsz := HG5.out.size
        refine ⟨(HD.out.gr HG5.out).more (Gr.alloc _ _) (fun j hj => hj.imp id (fun e => by rw [World.size_alloc]; omega)), Gr.block (Gr.alloc _ _) (Gr.block HG5.out HR.out), by omega, (HO.out.gr HG5.out).gr (Gr.alloc _ _)⟩)
      rw [← hbb] at hbox ⊢
      refine wp_gen (F := fun y => (Held w (fun j => XA gb u11 j ∨ j = bb) gd n d y ∧ ByRow 5 gb d.vis y ∧ bb ≠ gb ∧ Own 0 1 u11 (min k m) (iC ((List.range (min k m)).map fun i : Nat => (i : Int))) y) ∧ y.heap[bb]? = some (.cells #[.int .i64 (fo : Int), .string fs, .bool bx] 53 (0, 0))) ⟨HB5.out, hbox⟩ ?_
      clear HB5 hbox hbb HG5 HD HR HO
      rintro wB ⟨⟨hdB, hrB, hbb, hoB⟩, hbox⟩
      have c0 : wB.cell? ⟨bb, 0, none⟩ = some (.int .i64 (fo : Int)) := by rw [cell_of_row _ _ _ _ _ _ hbox]; rfl
      have c1 : wB.cell? ⟨bb, 1, none⟩ = some (.string fs) := by rw [cell_of_row _ _ _ _ _ _ hbox]; rfl
      have hp20 : d.pend.length ≤ 20 := by have := HCu.out.2.2; omega
      have HX := Lib.hid hbox
      have HR := Lib.hid hrB
      have HO := Lib.hid hoB
      by_cases hkm : k < m
      · have t4 : decide (k < m) = true := decide_eq_true hkm
        have emn : min k m = k := Nat.min_eq_left (by omega)
        have HCu1 := Lib.hid (cuD_wrote HCu.out hkm fo fs)
        have HW := Lib.hid (h_write (writeD_ok (cuD_on HCu.out hkm) (by have := HOk.out; unfold Wr.ok at this; exact this)) hdB (by omega) (by omega) (by have := HOk.out; unfold Wr.ok at this; simp only at this; omega))
        rw [emn] at HO
        have hvl := hdB.inv.2.1
        clear hdB hrB hoB hbox emn
        go_wp2_with fail
        refine HW.out.mono ?_
        rintro e wC ⟨rfl, hdC, hcC⟩
        have hxC := fre_row hcC HX.out (.inl (.inr rfl))
        have hrC : ByRow 5 gb d.vis wC := fre_row hcC HR.out (.inl (.inl (.inl rfl)))
        have hoC := HO.out.keepS hcC (fun g hg hf => hf.2 (.inl (.inr hg)))
        have c0 : wC.cell? ⟨bb, 0, none⟩ = some (.int .i64 (fo : Int)) := by rw [cell_of_row _ _ _ _ _ _ hxC]; rfl
        have c1 : wC.cell? ⟨bb, 1, none⟩ = some (.string fs) := by rw [cell_of_row _ _ _ _ _ _ hxC]; rfl
        have HPt := Lib.hid (put_any (o := fo) (s := fs) hrC hvl (by have := HOk.out; unfold Wr.ok at this; exact this) (by omega))
        have hsz0 := HNe.out
        have HD := Lib.hid hdC
        have HX := Lib.hid hxC
        have HO := Lib.hid hoC
        clear hdC hcC hxC hrC hoC HW hvl hsz0
        go_wp2_with fail
        refine HPt.out.mono ?_
        rintro e wD ⟨rfl, hrD, hcD⟩
        have HO := Lib.hid (HO.out.keepS hcD (fun g hg e => HNe.out g hg e))
        have HD := Lib.hid (HD.out.keep hcD (fun j hj => .inl (.inl hj)))
        have HR : Hid (ByRow 5 gb (d.wrote fo fs).vis wD) := Lib.hid hrD
        generalize d.wrote fo fs = d1 at HD HR HCu1
        clear hrD hcD HPt HX c0 c1
        have hk1 : min (k + 1) m = k + 1 := Nat.min_eq_left (by omega)
        have Hk1 := Lib.hid hk1
        clear hk1
        go_wp2_with ((with_reducible show wpList _ _ _ (⟨some 82, _, _, _, _, _⟩ :: _) _ _); refine push_num (dt := 79) (st := 81) rfl rfl hi3 hz3 hs3 hb3 rfl HO.out (by omega) (Nat.zero_le _) rfl ?_; intro v' wE hown hch hnew)
        have HI : Hid (CuI w gb gd n m (k + 1) v' wE) := Lib.hid (by
          have hlt := HR.out.lt
          refine ⟨d1, HD.out.grow hch (fun j hj => .inl (.inr hj)) (fun j hj => ?_), HCu1.out, hch.block HR.out (fun e => HNe.out gb e rfl), ?_, fun g hg e => ?_⟩
          · rcases hj with hj | hj
            · exact .inl (.inl (.inl hj))
            · rcases (hnew j hj).1 with h | h
              · exact .inl (.inl (.inr h))
              · exact .inr ⟨h, (hnew j hj).2⟩
          · rw [Hk1.out, List.range_succ, List.map_append]; exact hown
          · rcases (hnew g hg).1 with h | h
            · exact HNe.out g h e
            · omega)
        clear hown hch hnew HD HR HO HCu1 Hk1
        go_wp2_with fail
        go_roundw
        case rel => exact ⟨k + 1, _, by omega, by omega, rfl, by go_num, HI⟩
        case measure => simp [intOf]; omega
      · have t4 : decide (k < m) = false := decide_eq_false hkm
        have hover := cuD_over HCu.out (by omega)
        have emn : min (k + 1) m = min k m := by omega
        have HW := Lib.hid (h_write (write_off (n := n) (o := (fo : Int)) (s := fs) hover.2) hdB (by omega) (by omega) (by have := HOk.out; unfold Wr.ok at this; simp only at this; omega))
        have HCu1 := Lib.hid hover.1
        have Hemn := Lib.hid emn
        clear hdB hrB hoB hbox emn hover
        go_wp2_with fail
        refine HW.out.mono ?_
        rintro e wC ⟨rfl, hdC, hcC⟩
        have HI : Hid (CuI w gb gd n m (k + 1) u11 wC) := Lib.hid ⟨d, hdC.less (fun j hj => .inl hj), HCu1.out, fre_row hcC HR.out (.inl (.inl (.inl rfl))), by rw [Hemn.out]; exact HO.out.keepS hcC (fun g hg hf => hf.2 (.inl (.inr hg))), HNe.out⟩
        clear hdC hcC HW HO HR HX HCu1 Hemn c0 c1
        go_wp2_with fail
        go_roundw
        case rel => exact ⟨k + 1, _, by omega, by omega, rfl, by go_num, HI⟩
        case measure => simp [intOf]; omega
    · obtain ⟨d, hd, hcu, hrow, hown, hne⟩ := HC.out
      have hor : (decide (k < l.length) = true ∧ decide (k < 40) = false ∧ decide ((k : Int) < 40) = false) ∨ decide (k < l.length) = false := by
        by_cases hl : k < l.length
        · exact .inl ⟨decide_eq_true hl, decide_eq_false (by omega), decide_eq_false (by omega)⟩
        · exact .inr (decide_eq_false hl)
      have hp20 : d.pend.length ≤ 20 := by have := hcu.2.2; omega
      obtain ⟨pa, ca, rfl⟩ := hown.slice2
      by_cases hkm : k < m
      · have emn : min k m = k := Nat.min_eq_left (by omega)
        have t4 : decide (k < m) = true := decide_eq_true hkm
        have HSy := Lib.hid (h_sync (sync_on (cuD_on hcu hkm)) hd)
        rw [emn]
        clear hd hcu hrow hown hne HC emn HA
        rcases hor with ⟨t1, t2, t3⟩ | t1
        all_goals
          go_wp2_with fail
          refine HSy.out.mono ?_
          rintro e wE ⟨rfl, hdE, -⟩
          have HG := Lib.hid hdE.g
          clear hdE HSy
          go_wp2_with fail
          go_ret
          exact ⟨rfl, HG.out⟩
      · have emn : min k m = m := Nat.min_eq_right (by omega)
        have t4 : decide (m < m) = false := decide_eq_false (by omega)
        have hoff := (cuD_over hcu (by omega)).2
        have HRd := Lib.hid (h_read (read_off (n := n) (o := 0) (m := 0) hoff) hd (by omega) (by decide))
        have HSy := Lib.hid (fun x (h : Held w (XA gb (.slice pa (min k m) ca)) gd n d x) => h_sync (sync_off hoff) h)
        have HCt := Lib.hid (fun x (h : Held w (XA gb (.slice pa (min k m) ca)) gd n d x) => h_cut (m := 3) (cut_off hoff) h (by decide))
        rw [emn] at HSy HCt hown hd
        have hpl := hcu.2.2
        rw [emn] at hpl
        rw [emn]
        have HD := Lib.hid hd
        have HR := Lib.hid hrow
        have HO := Lib.hid hown
        have HPl := Lib.hid hpl
        rw [emn] at hne
        have HNe := Lib.hid hne
        clear hd hcu hrow hown hne HC emn HA hpl
        rcases hor with ⟨t1, t2, t3⟩ | t1
        all_goals
          go_wp2_with fail
          refine HRd.out.mono ?_
          rintro e wE ⟨rfl, rfl⟩
          have HS1 := Lib.hid (HSy.out _ HD.out)
          clear HRd HSy
          go_wp2_with fail
          refine HS1.out.mono ?_
          rintro e wF ⟨rfl, hdF, hcF⟩
          have HC1 := Lib.hid (HCt.out _ hdF)
          have HR := Lib.hid (fre_row hcF HR.out (.inl (.inl rfl)))
          have HO := Lib.hid (HO.out.keepS hcF (fun g hg hf => hf.2 (.inr hg)))
          clear hdF hcF HCt HS1 HD
          go_wp2_with fail
          refine HC1.out.mono ?_
          rintro e wG ⟨rfl, hdG, hcG⟩
          have hpg := h_pending hdG
          rw [HPl.out] at hpg
          have HP1 := Lib.hid hpg
          have HZ1 := Lib.hid (h_size hdG)
          have HR := Lib.hid (fre_row hcG HR.out (.inl (.inl rfl)))
          have HO := Lib.hid (HO.out.keepS hcG (fun g hg hf => hf.2 (.inr hg)))
          have HD := Lib.hid hdG
          clear hdG hcG HC1 hpg
          go_wp2_with fail
          refine HP1.out.mono ?_
          rintro e wH ⟨rfl, rfl⟩
          clear HP1
          go_wp2_with fail
          refine HZ1.out.mono ?_
          rintro e wH ⟨rfl, rfl⟩
          clear HZ1
          have hzj := own_ints0 HO.out (by simp)
          have hpm := HPl.out
          rw [← hpm] at hzj
          have HCr := Lib.hid (h_crash _ _ (-1) (crashD_all HD.out.inv) HD.out (by omega) (by omega) (by simp; omega) hzj (by decide))
          have hc2 : Dk.calm { settleD d d.vis with off := false, left := 0 } := ⟨rfl, rfl⟩
          have hv2 : Dk.vis { settleD d d.vis with off := false, left := 0 } = d.vis := rfl
          have hp2 : Dk.pend { settleD d d.vis with off := false, left := 0 } = [] := rfl
          generalize ({ settleD d d.vis with off := false, left := 0 } : Dk) = d2 at HCr hc2 hv2 hp2
          have HE2 : Hid (d2.calm ∧ d2.vis = d.vis ∧ d2.pend = []) := Lib.hid ⟨hc2, hv2, hp2⟩
          rw [hpm] at HCr
          clear hzj hpm hc2 hv2 hp2 HO HD
          go_wp2_with fail
          refine HCr.out.mono ?_
          rintro e w5 ⟨rfl, hd5, hc5⟩
          have hr5 : ByRow 5 gb d2.vis w5 := by rw [HE2.out.2.1]; exact fre_row hc5 HR.out (.inl (.inl rfl))
          have HR5 := Lib.hid (h_read (read_all HE2.out.1 hd5.inv) hd5 (by omega) (by decide))
          have HW5 := Lib.hid (h_write (show writeD d2 n 0 ⟨#[120]⟩ = _ from writeD_ok (o := 0) (s := ⟨#[120]⟩) HE2.out.1.1 hn1) hd5 (by omega) (by rw [HE2.out.2.2]; decide) (by decide))
          have hcv := conv_all hr5 hd5.inv.2.1 n
          have HCw := Lib.hid (wrote_calm (o := 0) (s := ⟨#[120]⟩) HE2.out.1)
          generalize bytesOf d2.vis = B at HR5 hcv
          generalize d2.wrote 0 ⟨#[120]⟩ = d3 at HW5 HCw
          clear hd5 hc5 hr5 HCr HR HE2
          go_wp2_with fail
          refine HR5.out.mono ?_
          rintro e w6 ⟨rfl, rfl⟩
          clear HR5
          go_wp2_with fail
          refine HW5.out.mono ?_
          rintro e w7 ⟨rfl, hd7, -⟩
          have HS7 := Lib.hid (h_sync (sync_calm HCw.out).1 hd7)
          clear hd7 HW5
          go_wp2_with fail
          refine HS7.out.mono ?_
          rintro e w8 ⟨rfl, hd8, -⟩
          have HG := Lib.hid hd8.g
          clear hd8 HS7
          go_wp2_with fail
          go_ret
          exact ⟨rfl, HG.out⟩
end Go.Proofs.Ytmkdnfiiehgcaaa
