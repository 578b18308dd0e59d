/- DiskSynced: the walk. -/
import Derived.Test.YtmkdnfiiehgcaaaDsR
namespace Go.Proofs.Ytmkdnfiiehgcaaa
open Go Go.RowKit
attribute [local go_sem] gAt gUpon
attribute [local simp] Gr.refl Gr.alloc

/-- what holds at a round -/
def SyI (w : World) (gb gd n k : Nat) (B : ByteArray) (W : World) : Prop := ∃ d, Held w (fun j => j = gb) gd n d W ∧ d.calm ∧ d.pend.length ≤ k ∧ ByRow 5 gb d.vis W ∧ bytesOf d.dur = B
set_option maxHeartbeats 2000000 in
theorem syn_any (z : Int) (v : Value) (l : List WP) (t : Int) (w : World) (hz : -9223372036854775808 ≤ z ∧ z ≤ 9223372036854775807) (hv : RowsIn 3 WpR v l w) (ht : -9223372036854775808 ≤ t ∧ t ≤ 9223372036854775807) :
    Calls Try.prog 7 #[.int .i64 z, v, .int .i64 t] w fun e w' => e = .returned (.bool true) ∧ Gr w w' := by
  obtain ⟨p, c, rfl, -⟩ := hv.shape
  have HS := Lib.hid (sane_any w)
  have HP := Lib.hid (fun x => pick_any z 300 x hz (by decide) (by decide))
  have hlt := pickD_lt z (n := 300) (by decide)
  generalize pickD z 300 = q at HP hlt
  have e1 : IntKind.i64.wrap (1 + (q : Int)) = ((1 + q : Nat) : Int) := by rw [IntWalk.i64_in _ (by omega)]; rfl
  obtain ⟨n, hn⟩ : ∃ n, 1 + q = n := ⟨_, rfl⟩
  rw [hn] at e1
  have hn1 : 1 ≤ n := by omega
  have hn2 : n ≤ 300 := by omega
  have HN := Lib.hid (fun x hG => h_new n hn1 (by omega) (w := w) (x := x) (fun _ => False) hG (fun _ h => h.elim))
  have HMk := Lib.hid (fun x => run_make40 n (by omega) x)
  have HV := Lib.hid hv
  have hll := hv.len
  unfold maxLen at hll
  have HT := Lib.hid ht
  clear hz hv hlt hn ht
  go_enter Try.func7, Try.ntmps7
  go_wp2_with fail
  refine HS.out.mono ?_
  rintro e w1 ⟨rfl, hg1⟩
  have HG1 := Lib.hid hg1
  clear hg1 HS
  go_wp2_with fail
  refine (HP.out _).mono ?_
  rintro e w2 ⟨rfl, rfl⟩
  clear HP
  go_wp2_with fail
  refine (HN.out _ HG1.out).mono ?_
  rintro e w2 ⟨gd, rfl, hd2, hg2⟩
  have HD2 := Lib.hid hd2
  have hmk := HMk.out
  clear hd2 hg2 HN HG1
  have hnd : (newD n).vis.length = n := (newD_inv n).2.1
  have hrb := heap_alloc_new w2 (.cells (byC (List.replicate n 0)).toArray 5)
  have hcv := conv_all (show ByRow 5 w2.heap.size (newD n).vis (w2.alloc (.cells (byC (List.replicate n 0)).toArray 5)) from hrb) hnd n
  obtain ⟨gb, hgb⟩ : ∃ gb, gb = w2.heap.size := ⟨_, rfl⟩
  rw [← hgb] at hcv
  obtain ⟨B0, hB0⟩ : ∃ B, bytesOf (newD n).vis = B := ⟨_, rfl⟩
  rw [hB0] at hcv
  have HB0 := Lib.hid hB0
  have Hgb := Lib.hid hgb
  have hmk2 : ∀ x, x = w2 → (Instr.makeSlice 40 (.int .i64 (n : Int)) (.int .i64 (n : Int))).run Try.prog x = .ok (.slice (some ⟨gb, 0, none⟩) n n) (x.alloc (.cells (byC (List.replicate n 0)).toArray 5)) := fun x hx => by rw [hmk x, hx, ← hgb]
  have hmk3 := hmk2 w2 rfl
  clear hmk hmk2 hB0 hrb hnd hgb HMk
  go_wp2_with fail
  refine wp_gen (F := fun x => SyI w gb gd n 0 B0 x) ⟨newD n, HD2.out.more (Gr.alloc _ _) (fun k hk => .inr ⟨by have := Hgb.out; omega, by have := Hgb.out; rw [World.size_alloc]; omega⟩), ⟨rfl, rfl⟩, Nat.zero_le _, by rw [Hgb.out]; exact heap_alloc_new w2 _, HB0.out⟩ ?_
  intro wA hA
  have HA := Lib.hid hA
  clear hA HD2 Hgb HB0 hmk3 hcv e1
  go_loopw [11, 12] (fun v11 v12 W => ∃ (k : Nat) (B : ByteArray), k ≤ l.length ∧ k ≤ 60 ∧ v11 = .string B ∧ v12 = .int .i64 (k : Int) ∧ Hid (SyI w gb gd n k B W)) (fun _ v12 _ => 60 - (intOf v12).toNat)
  case atStart => exact ⟨0, B0, Nat.zero_le _, by decide, rfl, rfl, HA⟩
  case round =>
    obtain ⟨k, B, hkl, hk60, rfl, rfl, HC⟩ := hrel
    by_cases hlt : k < l.length ∧ k < 60
    · obtain ⟨d, hd, hcalm, hpl, hrow, hdur⟩ := HC.out
      have HDu := Lib.hid hdur
      have t1 : decide (k < l.length) = true := decide_eq_true hlt.1
      have t2 : decide (k < 60) = true := decide_eq_true hlt.2
      have t3 : decide ((k : Int) < 60) = true := decide_eq_true (by omega)
      obtain ⟨x, hx⟩ : ∃ x, l[k]? = some x := ⟨_, List.getElem?_eq_getElem hlt.1⟩
      obtain ⟨g, off, rfl, hlc, c0, c1, c2, bo, bs⟩ := wp_at HV.out hx hd.g
      have HF := Lib.hid (fun y => fits_any x.off x.s x.sync n y bo bs (by omega))
      have HOk := Lib.hid (fitsD_ok x.off x.s n)
      obtain ⟨ox, sx, bx⟩ := x
      simp only at c0 c1 c2 HF HOk
      generalize fitsD ox sx n = f at HF HOk
      obtain ⟨fo, fs⟩ := f
      simp only at HF
      have HD := Lib.hid hd
      have HR := Lib.hid hrow
      have HCm := Lib.hid hcalm
      clear hd hrow hcalm hdur HC hx bo bs
      go_wp2_with fail
      refine (HF.out _).mono ?_
      rintro e w5 ⟨rfl, hg5⟩
      have HG5 := Lib.hid hg5
      clear hg5 HF c0 c1 c2
      go_upto_region 12 with fail
      have hbox := heap_alloc_new w5 (.cells #[.int .i64 (fo : Int), .string fs, .bool bx] 53)
      obtain ⟨bb, hbb⟩ : ∃ bb, bb = w5.heap.size := ⟨_, rfl⟩
      have HB5 : Hid (Held w (fun j => j = gb ∨ j = bb) gd n d (w5.alloc (.cells #[.int .i64 (fo : Int), .string fs, .bool bx] 53)) ∧ ByRow 5 gb d.vis (w5.alloc (.cells #[.int .i64 (fo : Int), .string fs, .bool bx] 53)) ∧ bb ≠ gb) := Lib.hid (by
        have hlt := HR.out.lt
        have hsz := HG5.out.size
        refine ⟨(HD.out.gr HG5.out).more (Gr.alloc _ _) (fun j hj => hj.imp id (fun e => by rw [World.size_alloc]; omega)), Gr.block (Gr.alloc _ _) (Gr.block HG5.out HR.out), by omega⟩)
      rw [← hbb] at hbox ⊢
      refine wp_gen (F := fun y => (Held w (fun j => j = gb ∨ j = bb) gd n d y ∧ ByRow 5 gb d.vis y ∧ bb ≠ gb) ∧ y.heap[bb]? = some (.cells #[.int .i64 (fo : Int), .string fs, .bool bx] 53 (0, 0))) ⟨HB5.out, hbox⟩ ?_
      clear HB5 hbox hbb HG5 HD HR
      rintro wB ⟨⟨hdB, hrB, hbb⟩, hbox⟩
      have c0 : wB.cell? ⟨bb, 0, none⟩ = some (.int .i64 (fo : Int)) := by rw [cell_of_row _ _ _ _ _ _ hbox]; rfl
      have c1 : wB.cell? ⟨bb, 1, none⟩ = some (.string fs) := by rw [cell_of_row _ _ _ _ _ _ hbox]; rfl
      have HPt := Lib.hid (put_any (o := fo) (s := fs) hrB hdB.inv.2.1 (by have := HOk.out; unfold Wr.ok at this; exact this) (by omega))
      have HD := Lib.hid hdB
      have HX := Lib.hid hbox
      clear hdB hrB hbox
      go_wp2_with fail
      refine HPt.out.mono ?_
      rintro e wC ⟨rfl, hrC, hcC⟩
      have hbC := hcC.block HX.out (fun e => hbb e)
      have c0 : wC.cell? ⟨bb, 0, none⟩ = some (.int .i64 (fo : Int)) := by rw [cell_of_row _ _ _ _ _ _ hbC]; rfl
      have c1 : wC.cell? ⟨bb, 1, none⟩ = some (.string fs) := by rw [cell_of_row _ _ _ _ _ _ hbC]; rfl
      have HW := Lib.hid (h_write (writeD_ok HCm.out.1 (by have := HOk.out; unfold Wr.ok at this; exact this)) (HD.out.keep hcC (fun j hj => .inl hj)) (by omega) (by omega) (by have := HOk.out; unfold Wr.ok at this; simp only at this; omega))
      have HX := Lib.hid hbC
      have HR := Lib.hid hrC
      clear hbC hrC hcC HPt HD
      go_wp2_with fail
      refine HW.out.mono ?_
      rintro e wD ⟨rfl, hdD, hcD⟩
      have hbD := fre_row hcD HX.out (.inl (.inr rfl))
      have HR : Hid (ByRow 5 gb (d.wrote fo fs).vis wD) := Lib.hid (fre_row hcD HR.out (.inl (.inl rfl)))
      have c2 : wD.cell? ⟨bb, 2, none⟩ = some (.bool bx) := by rw [cell_of_row _ _ _ _ _ _ hbD]; rfl
      have HD := Lib.hid hdD
      have hcw := wrote_calm (o := fo) (s := fs) HCm.out
      have hpw : (d.wrote fo fs).pend.length ≤ k + 1 := by rw [wrote_pend, List.length_append]; simpa using hpl
      have HBx := Lib.hid hbD
      clear hbD hdD hcD HW HX c0 c1 HCm hpl
      have hdu1 : bytesOf (d.wrote fo fs).dur = B := HDu.out
      have HDu1 := Lib.hid hdu1
      clear hdu1 HDu
      generalize d.wrote fo fs = d1 at HR HD hcw hpw HDu1
      cases bx with
      | true =>
        have HSy := Lib.hid (h_sync (sync_calm hcw).1 HD.out)
        have hcs := (sync_calm hcw).2
        go_wp2_with fail
        refine HSy.out.mono ?_
        rintro e wE ⟨rfl, hdE, hcE⟩
        have hrE : ByRow 5 gb (settleD d1 d1.vis).vis wE := fre_row hcE HR.out (.inl (.inl rfl))
        have hbE := fre_row hcE HBx.out (.inl (.inr rfl))
        have hpE : (settleD d1 d1.vis).pend.length ≤ k + 1 := Nat.zero_le _
        have hvd : (settleD d1 d1.vis).dur = (settleD d1 d1.vis).vis := rfl
        generalize settleD d1 d1.vis = d2 at hcs hdE hrE hpE hvd
        have hcv := conv_all hrE hdE.inv.2.1 n
        have c2' : wE.cell? ⟨bb, 2, none⟩ = some (.bool true) := by rw [cell_of_row _ _ _ _ _ _ hbE]; rfl
        have HI : Hid (SyI w gb gd n (k + 1) (bytesOf d2.vis) wE) := Lib.hid ⟨_, hdE.less (fun j hj => .inl hj), hcs, hpE, hrE, by rw [hvd]⟩
        generalize bytesOf d2.vis = B2 at hcv HI
        clear hrE hdE hcE HSy HD HR hcs hcw hvd hbE c2
        go_wp2_with fail
        go_roundw
        case rel => exact ⟨k + 1, B2, by omega, by omega, rfl, by go_num, HI⟩
        case measure => simp [intOf]; omega
      | false =>
        have HI : Hid (SyI w gb gd n (k + 1) B wD) := Lib.hid ⟨_, HD.out.less (fun j hj => .inl hj), hcw, hpw, HR.out, HDu1.out⟩
        clear HD HR hcw HDu1
        go_wp2_with fail
        go_roundw
        case rel => exact ⟨k + 1, B, by omega, by omega, rfl, by go_num, HI⟩
        case measure => simp [intOf]; omega
    · obtain ⟨d, hd, hcalm, hpl, hrow, hdur⟩ := HC.out
      have HCr := Lib.hid (h_crash (.slice none 0 0) [] t (crashD_nil d t) hd (by omega) (by omega) (by decide) (.inl ⟨rfl, _, _, rfl⟩) HT.out)
      have hc2 : Dk.calm { settleD d d.dur with off := false, left := 0 } := ⟨rfl, rfl⟩
      have hv2 : Dk.vis { settleD d d.dur with off := false, left := 0 } = d.dur := rfl
      have hp2 : Dk.pend { settleD d d.dur with off := false, left := 0 } = [] := rfl
      generalize ({ settleD d d.dur with off := false, left := 0 } : Dk) = d2 at HCr hc2 hv2 hp2
      have Hv2 : Hid (bytesOf d2.vis = B) := Lib.hid (by rw [hv2]; exact hdur)
      have Hp2 := Lib.hid hp2
      have Hc2 := Lib.hid hc2
      clear hd HC hcalm hpl hrow hdur hv2 hp2 hc2
      have key : ∀ W, Held w (fun j => j = gb) gd n d2 W → Hid (Calls Try.prog 14 #[.pointer (some ⟨gd, 0, none⟩), .int .i64 0, .int .i64 (n : Int)] W fun e y => e = .returned (.tuple #[.string B, .int .i64 0]) ∧ W = y) ∧
          Hid (Calls Try.prog 17 #[.pointer (some ⟨gd, 0, none⟩)] W fun e y => e = .returned (.int .i64 0) ∧ W = y) := fun W hW => by
        refine ⟨Lib.hid (h_read (by rw [read_all Hc2.out hW.inv, Hv2.out]) hW (by omega) (by decide)), Lib.hid ?_⟩
        have := h_pending hW
        rw [Hp2.out] at this; exact this
      have HKey := Lib.hid key
      clear key Hv2 Hp2 Hc2
      by_cases hl : k < l.length
      · have t1 : decide (k < l.length) = true := decide_eq_true hl
        have t2 : decide (k < 60) = false := decide_eq_false (by omega)
        have t3 : decide ((k : Int) < 60) = false := decide_eq_false (by omega)
        go_wp2_with fail
        refine HCr.out.mono ?_
        rintro e wE ⟨rfl, hdE, -⟩
        obtain ⟨HRd, HPn⟩ := HKey.out wE hdE
        have HG := Lib.hid hdE.g
        clear hdE HCr HKey
        go_wp2_with fail
        refine HRd.out.mono ?_
        rintro e wF ⟨rfl, rfl⟩
        clear HRd
        go_wp2_with fail
        refine HPn.out.mono ?_
        rintro e wF ⟨rfl, rfl⟩
        clear HPn
        go_wp2_with fail
        go_ret
        exact ⟨rfl, HG.out⟩
      · have t1 : decide (k < l.length) = false := decide_eq_false hl
        go_wp2_with fail
        refine HCr.out.mono ?_
        rintro e wE ⟨rfl, hdE, -⟩
        obtain ⟨HRd, HPn⟩ := HKey.out wE hdE
        have HG := Lib.hid hdE.g
        clear hdE HCr HKey
        go_wp2_with fail
        refine HRd.out.mono ?_
        rintro e wF ⟨rfl, rfl⟩
        clear HRd
        go_wp2_with fail
        refine HPn.out.mono ?_
        rintro e wF ⟨rfl, rfl⟩
        clear HPn
        go_wp2_with fail
        go_ret
        exact ⟨rfl, HG.out⟩
end Go.Proofs.Ytmkdnfiiehgcaaa
