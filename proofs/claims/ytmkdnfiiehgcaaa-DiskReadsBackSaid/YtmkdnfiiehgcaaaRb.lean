/- DiskReadsBack: the walk. -/
import Derived.Test.YtmkdnfiiehgcaaaDsR
namespace Go.Proofs.Ytmkdnfiiehgcaaa
open Go.RowKit
attribute [local go_sem] gAt gUpon
attribute [local simp] Gr.refl Gr.alloc

/-- what holds at a round -/
def RbI (w : World) (gb gd n k : Nat) (W : World) : Prop := ∃ d, Held w (fun j => j = gb) gd n d W ∧ d.calm ∧ d.pend.length ≤ k ∧ ByRow 5 gb d.vis W
set_option maxHeartbeats 2000000 in
theorem rb_any (z : Int) (v : Value) (l : List WP) (w : World) (hz : -9223372036854775808 ≤ z ∧ z ≤ 9223372036854775807) (hv : RowsIn 3 WpR v l w) :
    Calls Try.prog 6 #[.int .i64 z, v] w fun e w' => e = .returned (.bool true) ∧ Gr w w' := by
  obtain ⟨p, c, rfl, -⟩ := hv.shape
  have HS := Lib.hid (sane_any w)
  have HP := Lib.hid (fun x => pick_any z 300 x hz (by decide) (by decide))
  have hlt := pickD_lt z (n := 300) (by decide)
  generalize pickD z 300 = q at HP hlt
  have e1 : IntKind.i64.wrap (1 + (q : Int)) = ((1 + q : Nat) : Int) := by rw [IntWalk.i64_in _ (by omega)]; rfl
  obtain ⟨n, hn⟩ : ∃ n, 1 + q = n := ⟨_, rfl⟩
  rw [hn] at e1
  have hn1 : 1 ≤ n := by omega
  have hn2 : n ≤ 300 := by omega
  have HN := Lib.hid (fun x hG => h_new n hn1 (by omega) (w := w) (x := x) (fun _ => False) hG (fun _ h => h.elim))
  have HMk := Lib.hid (fun x => run_make40 n (by omega) x)
  have HV := Lib.hid hv
  have hll := hv.len
  unfold maxLen at hll
  clear hz hv hlt hn
  go_enter Try.func6, Try.ntmps6
  go_wp2_with fail
  refine HS.out.mono ?_
  rintro e w1 ⟨rfl, hg1⟩
  have HG1 := Lib.hid hg1
  clear hg1 HS
  go_wp2_with fail
  refine (HP.out _).mono ?_
  rintro e w2 ⟨rfl, rfl⟩
  clear HP
  go_wp2_with fail
  refine (HN.out _ HG1.out).mono ?_
  rintro e w2 ⟨gd, rfl, hd2, hg2⟩
  have HD2 := Lib.hid hd2
  have hmk := HMk.out
  clear hd2 hg2 HN HG1
  go_wp2_with fail
  obtain ⟨gb, hgb⟩ : ∃ gb, gb = w2.heap.size := ⟨_, rfl⟩
  rw [← hgb]
  refine wp_gen (F := fun x => RbI w gb gd n 0 x) ⟨newD n, HD2.out.more (Gr.alloc _ _) (fun k hk => .inr ⟨by omega, by rw [World.size_alloc]; omega⟩), ⟨rfl, rfl⟩, Nat.zero_le _, by rw [hgb]; exact heap_alloc_new w2 _⟩ ?_
  intro wA hA
  have HA := Lib.hid hA
  clear hA HD2 hmk hgb HMk e1
  go_loopw [9] (fun v9 W => ∃ k : Nat, k ≤ l.length ∧ k ≤ 60 ∧ v9 = .int .i64 (k : Int) ∧ Hid (RbI w gb gd n k W)) (fun v9 _ => 60 - (intOf v9).toNat)
  case atStart => exact ⟨0, Nat.zero_le _, by decide, rfl, HA⟩
  case round =>
    obtain ⟨k, hkl, hk60, rfl, HC⟩ := hrel
    by_cases hlt : k < l.length ∧ k < 60
    · obtain ⟨d, hd, hcalm, hpl, hrow⟩ := HC.out
      have t1 : decide (k < l.length) = true := decide_eq_true hlt.1
      have t2 : decide (k < 60) = true := decide_eq_true hlt.2
      have t3 : decide ((k : Int) < 60) = true := decide_eq_true (by omega)
      obtain ⟨x, hx⟩ : ∃ x, l[k]? = some x := ⟨_, List.getElem?_eq_getElem hlt.1⟩
      obtain ⟨g, off, rfl, hlc, c0, c1, c2, bo, bs⟩ := wp_at HV.out hx hd.g
      have HF := Lib.hid (fun y => fits_any x.off x.s x.sync n y bo bs (by omega))
      have HOk := Lib.hid (fitsD_ok x.off x.s n)
      obtain ⟨ox, sx, bx⟩ := x
      simp only at c0 c1 c2 HF HOk
      generalize fitsD ox sx n = f at HF HOk
      obtain ⟨fo, fs⟩ := f
      simp only at HF
      have HD := Lib.hid hd
      have HR := Lib.hid hrow
      have HCm := Lib.hid hcalm
      clear hd hrow hcalm HC hx bo bs
      go_wp2_with fail
      refine (HF.out _).mono ?_
      rintro e w5 ⟨rfl, hg5⟩
      have HG5 := Lib.hid hg5
      clear hg5 HF c0 c1 c2
      go_upto_region 11 with fail
      have hbox := heap_alloc_new w5 (.cells #[.int .i64 (fo : Int), .string fs, .bool bx] 53)
      obtain ⟨bb, hbb⟩ : ∃ bb, bb = w5.heap.size := ⟨_, rfl⟩
      have HB5 : Hid (Held w (fun j => j = gb ∨ j = bb) gd n d (w5.alloc (.cells #[.int .i64 (fo : Int), .string fs, .bool bx] 53)) ∧ ByRow 5 gb d.vis (w5.alloc (.cells #[.int .i64 (fo : Int), .string fs, .bool bx] 53)) ∧ bb ≠ gb) := Lib.hid (by
        have hlt := HR.out.lt
        have hsz := HG5.out.size
        refine ⟨(HD.out.gr HG5.out).more (Gr.alloc _ _) (fun j hj => hj.imp id (fun e => by rw [World.size_alloc]; omega)), Gr.block (Gr.alloc _ _) (Gr.block HG5.out HR.out), by omega⟩)
      rw [← hbb] at hbox ⊢
      refine wp_gen (F := fun y => (Held w (fun j => j = gb ∨ j = bb) gd n d y ∧ ByRow 5 gb d.vis y ∧ bb ≠ gb) ∧ y.heap[bb]? = some (.cells #[.int .i64 (fo : Int), .string fs, .bool bx] 53 (0, 0))) ⟨HB5.out, hbox⟩ ?_
      clear HB5 hbox hbb HG5 HD HR
      rintro wB ⟨⟨hdB, hrB, hbb⟩, hbox⟩
      have c0 : wB.cell? ⟨bb, 0, none⟩ = some (.int .i64 (fo : Int)) := by rw [cell_of_row _ _ _ _ _ _ hbox]; rfl
      have c1 : wB.cell? ⟨bb, 1, none⟩ = some (.string fs) := by rw [cell_of_row _ _ _ _ _ _ hbox]; rfl
      have HPt := Lib.hid (put_any (o := fo) (s := fs) hrB hdB.inv.2.1 (by have := HOk.out; unfold Wr.ok at this; exact this) (by omega))
      have HD := Lib.hid hdB
      have HX := Lib.hid hbox
      clear hdB hrB hbox
      go_wp2_with fail
      refine HPt.out.mono ?_
      rintro e wC ⟨rfl, hrC, hcC⟩
      have hbC := hcC.block HX.out (fun e => hbb e)
      have c0 : wC.cell? ⟨bb, 0, none⟩ = some (.int .i64 (fo : Int)) := by rw [cell_of_row _ _ _ _ _ _ hbC]; rfl
      have c1 : wC.cell? ⟨bb, 1, none⟩ = some (.string fs) := by rw [cell_of_row _ _ _ _ _ _ hbC]; rfl
      have HW := Lib.hid (h_write (writeD_ok HCm.out.1 (by have := HOk.out; unfold Wr.ok at this; exact this)) (HD.out.keep hcC (fun j hj => .inl hj)) (by omega) (by omega) (by have := HOk.out; unfold Wr.ok at this; simp only at this; omega))
      have HX := Lib.hid hbC
      have HR := Lib.hid hrC
      clear hbC hrC hcC HPt HD
      go_wp2_with fail
      refine HW.out.mono ?_
      rintro e wD ⟨rfl, hdD, hcD⟩
      have hbD := fre_row hcD HX.out (.inl (.inr rfl))
      have HR : Hid (ByRow 5 gb (d.wrote fo fs).vis wD) := Lib.hid (fre_row hcD HR.out (.inl (.inl rfl)))
      have c2 : wD.cell? ⟨bb, 2, none⟩ = some (.bool bx) := by rw [cell_of_row _ _ _ _ _ _ hbD]; rfl
      have HD := Lib.hid hdD
      have hcw := wrote_calm (o := fo) (s := fs) HCm.out
      have hpw : (d.wrote fo fs).pend.length ≤ k + 1 := by rw [wrote_pend, List.length_append]; simpa using hpl
      clear hbD hdD hcD HW HX c0 c1 HCm hpl
      generalize d.wrote fo fs = d1 at HR HD hcw hpw
      cases bx with
      | true =>
        have HSy := Lib.hid (h_sync (sync_calm hcw).1 HD.out)
        have hcs := (sync_calm hcw).2
        go_wp2_with fail
        refine HSy.out.mono ?_
        rintro e wE ⟨rfl, hdE, hcE⟩
        have hrE : ByRow 5 gb (settleD d1 d1.vis).vis wE := fre_row hcE HR.out (.inl (.inl rfl))
        have hpE : (settleD d1 d1.vis).pend.length ≤ k + 1 := Nat.zero_le _
        generalize settleD d1 d1.vis = d2 at hcs hdE hrE hpE
        have HRd := Lib.hid (h_read (read_all hcs hdE.inv) hdE (by omega) (by decide))
        have hcv := conv_all hrE hdE.inv.2.1 n
        have HI : Hid (RbI w gb gd n (k + 1) wE) := Lib.hid ⟨_, hdE.less (fun j hj => .inl hj), hcs, hpE, hrE⟩
        generalize bytesOf d2.vis = B at HRd hcv
        clear hrE hdE hcE HSy HD HR hcs hcw
        go_wp2_with fail
        refine HRd.out.mono ?_
        rintro e wF ⟨rfl, rfl⟩
        clear HRd
        go_wp2_with fail
        go_roundw
        case rel => exact ⟨k + 1, by omega, by omega, by go_num, HI⟩
        case measure => simp [intOf]; omega
      | false =>
        have hrE := HR.out
        have HRd := Lib.hid (h_read (read_all hcw HD.out.inv) HD.out (by omega) (by decide))
        have hcv := conv_all hrE HD.out.inv.2.1 n
        have HI : Hid (RbI w gb gd n (k + 1) wD) := Lib.hid ⟨_, HD.out.less (fun j hj => .inl hj), hcw, hpw, hrE⟩
        generalize bytesOf d1.vis = B at HRd hcv
        clear hrE HD HR hcw
        go_wp2_with fail
        refine HRd.out.mono ?_
        rintro e wF ⟨rfl, rfl⟩
        clear HRd
        go_wp2_with fail
        go_roundw
        case rel => exact ⟨k + 1, by omega, by omega, by go_num, HI⟩
        case measure => simp [intOf]; omega
    · have ht : (decide (k < l.length) && decide (k < 60)) = false := by simp only [Bool.and_eq_false_iff, decide_eq_false_iff_not]; omega
      obtain ⟨d, hd, -⟩ := HC.out
      have HG := Lib.hid hd.g
      clear hd HC
      by_cases hl : k < l.length
      · have t1 : decide (k < l.length) = true := decide_eq_true hl
        have t2 : decide (k < 60) = false := decide_eq_false (by omega)
        have t3 : decide ((k : Int) < 60) = false := decide_eq_false (by omega)
        go_wp2_with fail
        go_ret
        exact ⟨rfl, HG.out⟩
      · have t1 : decide (k < l.length) = false := decide_eq_false hl
        go_wp2_with fail
        go_ret
        exact ⟨rfl, HG.out⟩
end Go.Proofs.Ytmkdnfiiehgcaaa
