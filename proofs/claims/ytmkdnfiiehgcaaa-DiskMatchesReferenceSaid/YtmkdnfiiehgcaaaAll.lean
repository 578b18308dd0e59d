/- DiskAllSurvive: the walk. -/
import Derived.Test.YtmkdnfiiehgcaaaDsR
namespace Go.Proofs.Ytmkdnfiiehgcaaa
open Go Go.RowKit
attribute [local go_sem] gAt gUpon
attribute [local simp] Gr.refl Gr.alloc

/-- what holds at a round -/
def AlI (w : World) (gd n k : Nat) (W : World) : Prop := ∃ d, Held w (fun _ => False) gd n d W ∧ d.calm ∧ d.pend.length ≤ k
def AlJ (w3 : World) (k : Nat) (v : Value) (W : World) : Prop := Own w3.heap.size 1 v k (iC ((List.range k).map fun i : Nat => (i : Int))) W ∧ Gr w3 W
theorem own_ints {w3 W : World} {k : Nat} {v : Value} {l : List Int} (h : Own w3.heap.size 1 v k (iC l) W) (hl : l.length = k) : IntsBelow W.heap.size v l W := by
  rcases h.2 with ⟨rfl, rfl⟩ | ⟨g, off, cap, rfl, hB, hn, hcm, hx, hw⟩
  · exact .inl ⟨List.eq_nil_of_length_eq_zero hl, _, _, rfl⟩
  · by_cases h0 : k = 0
    · subst h0; exact .inl ⟨List.eq_nil_of_length_eq_zero hl, _, _, rfl⟩
    · refine .inr ⟨g, off, cap, by rw [hl], isSome_lt (hw 0 (by omega)).1, fun j x hj => hx j _ (by simp [iC, hj])⟩
theorem push_int {ops : Array Oper} {rest : List Oper} {o : Oper} {a : Act} {W wo : World} {Q : Exit → Act → World → Prop} {i : TypeInfo} {v : Value} {j : Nat} {dt st : Tmp} (hg : o.guard = none)
    (hop : o.op = Op.call { callee := Callee.builtin Builtin.append, args := #[.tmp dt, .tmp st], argTypes := #[37, 37] }) (h2 : Try.prog.info? 3 = some i) (h3 : i.zero = some (.int .i64 0)) (h4 : i.size = 1) (h5 : i.bytes = 8)
    (hs : a.eval (.tmp dt) = v) (hO : Own wo.heap.size 1 v j (iC ((List.range j).map fun i : Nat => (i : Int))) W) (hG : Gr wo W) (hj : j ≤ 1000000)
    (hx : a.eval (.tmp st) = .slice (some ⟨W.heap.size, 0, none⟩) 1 1)
    (h : ∀ v' w', Hid (AlJ wo (j + 1) v' w') → wpList Try.prog ops Q rest (a.put o.dst v') w') :
    wpList Try.prog ops Q (o :: rest) a (W.alloc (.cells #[.int .i64 (j : Int)] 3)) := by
  have hrow := heap_alloc_new W (.cells #[.int .i64 (j : Int)] 3)
  refine wpList_append_Own hg (.tmp dt) (.tmp st) 37 hop 3 i (.int .i64 0) 1 8 Try.underlying37 h2 h3 h4 h5 rfl (by decide) hs (hO.gr (Gr.alloc W (.cells #[.int .i64 (j : Int)] 3))) ⟨W.heap.size, 0, none⟩ 1 1 [.int .i64 (j : Int)] hx rfl ?_ (by intro u hu; simp at hu; subst hu; rfl) (by decide) (by unfold maxLen; omega) (by omega) (Nat.le_trans hG.size (by simp)) ?_
  · intro k u hk
    rw [Addr.add_mid, cell_of_row _ _ _ _ _ _ hrow, Nat.zero_add]; simpa using hk
  · intro v' w' k1 k2 k3
    refine h v' w' (Lib.hid ⟨?_, ?_⟩)
    · have e : iC ((List.range (j + 1)).map fun i : Nat => (i : Int)) = iC ((List.range j).map fun i : Nat => (i : Int)) ++ [.int .i64 (j : Int)] := by
        rw [List.range_succ]; simp [iC]
      rw [e]; exact k1
    · exact gr_stepJ hG (Gr.alloc W _) k2 (fun g hg => own_geJ hO hg)
set_option maxHeartbeats 2000000 in
theorem all_any (z : Int) (v : Value) (l : List WP) (w : World) (hz : -9223372036854775808 ≤ z ∧ z ≤ 9223372036854775807) (hv : RowsIn 3 WpR v l w) :
    Calls Try.prog 9 #[.int .i64 z, v] w fun e w' => e = .returned (.bool true) ∧ Gr w w' := by
  obtain ⟨p, c, rfl, -⟩ := hv.shape
  have HS := Lib.hid (sane_any w)
  have HP := Lib.hid (fun x => pick_any z 300 x hz (by decide) (by decide))
  have hlt := pickD_lt z (n := 300) (by decide)
  generalize pickD z 300 = q at HP hlt
  have e1 : IntKind.i64.wrap (1 + (q : Int)) = ((1 + q : Nat) : Int) := by rw [IntWalk.i64_in _ (by omega)]; rfl
  obtain ⟨n, hn⟩ : ∃ n, 1 + q = n := ⟨_, rfl⟩
  rw [hn] at e1
  have hn1 : 1 ≤ n := by omega
  have hn2 : n ≤ 300 := by omega
  have HN := Lib.hid (fun x hG => h_new n hn1 (by omega) (w := w) (x := x) (fun _ => False) hG (fun _ h => h.elim))
  have HV := Lib.hid hv
  have hll := hv.len
  unfold maxLen at hll
  clear hz hv hlt hn
  go_enter Try.func9, Try.ntmps9
  go_wp2_with fail
  refine HS.out.mono ?_
  rintro e w1 ⟨rfl, hg1⟩
  have HG1 := Lib.hid hg1
  clear hg1 HS
  go_wp2_with fail
  refine (HP.out _).mono ?_
  rintro e w2 ⟨rfl, rfl⟩
  clear HP
  go_wp2_with fail
  refine (HN.out _ HG1.out).mono ?_
  rintro e w2 ⟨gd, rfl, hd2, hg2⟩
  have HD2 := Lib.hid hd2
  clear hd2 hg2 HN HG1
  go_wp2_with fail
  have HA : Hid (AlI w gd n 0 w2) := Lib.hid ⟨newD n, HD2.out, ⟨rfl, rfl⟩, Nat.zero_le _⟩
  clear HD2 e1
  go_loopw [8] (fun v9 W => ∃ k : Nat, k ≤ l.length ∧ k ≤ 60 ∧ v9 = .int .i64 (k : Int) ∧ Hid (AlI w gd n k W)) (fun v9 _ => 60 - (intOf v9).toNat)
  case atStart => exact ⟨0, Nat.zero_le _, by decide, rfl, HA⟩
  case round =>
    obtain ⟨k, hkl, hk60, rfl, HC⟩ := hrel
    by_cases hlt : k < l.length ∧ k < 60
    · obtain ⟨d, hd, hcalm, hpl⟩ := HC.out
      have t1 : decide (k < l.length) = true := decide_eq_true hlt.1
      have t2 : decide (k < 60) = true := decide_eq_true hlt.2
      have t3 : decide ((k : Int) < 60) = true := decide_eq_true (by omega)
      obtain ⟨x, hx⟩ : ∃ x, l[k]? = some x := ⟨_, List.getElem?_eq_getElem hlt.1⟩
      obtain ⟨g, off, rfl, hlc, c0, c1, c2, bo, bs⟩ := wp_at HV.out hx hd.g
      have HF := Lib.hid (fun y => fits_any x.off x.s x.sync n y bo bs (by omega))
      have HOk := Lib.hid (fitsD_ok x.off x.s n)
      obtain ⟨ox, sx, bx⟩ := x
      simp only at c0 c1 c2 HF HOk
      generalize fitsD ox sx n = f at HF HOk
      obtain ⟨fo, fs⟩ := f
      simp only at HF
      have HD := Lib.hid hd
      have HCm := Lib.hid hcalm
      clear hd hcalm HC hx bo bs
      go_wp2_with fail
      refine (HF.out _).mono ?_
      rintro e w5 ⟨rfl, hg5⟩
      have HG5 := Lib.hid hg5
      clear hg5 HF c0 c1 c2
      go_upto_region 10 with fail
      have hbox := heap_alloc_new w5 (.cells #[.int .i64 (fo : Int), .string fs, .bool bx] 53)
      obtain ⟨bb, hbb⟩ : ∃ bb, bb = w5.heap.size := ⟨_, rfl⟩
      have HB5 : Hid (Held w (fun j => j = bb) gd n d (w5.alloc (.cells #[.int .i64 (fo : Int), .string fs, .bool bx] 53))) := Lib.hid (by
        have hsz := HG5.out.size
        exact (HD.out.gr HG5.out).more (Gr.alloc _ _) (fun j hj => .inr (by rw [World.size_alloc]; omega)))
      rw [← hbb] at hbox ⊢
      refine wp_gen (F := fun y => Held w (fun j => j = bb) gd n d y ∧ y.heap[bb]? = some (.cells #[.int .i64 (fo : Int), .string fs, .bool bx] 53 (0, 0))) ⟨HB5.out, hbox⟩ ?_
      clear HB5 hbox hbb HG5 HD
      rintro wB ⟨hdB, hbox⟩
      have c0 : wB.cell? ⟨bb, 0, none⟩ = some (.int .i64 (fo : Int)) := by rw [cell_of_row _ _ _ _ _ _ hbox]; rfl
      have c1 : wB.cell? ⟨bb, 1, none⟩ = some (.string fs) := by rw [cell_of_row _ _ _ _ _ _ hbox]; rfl
      have HW := Lib.hid (h_write (writeD_ok HCm.out.1 (by have := HOk.out; unfold Wr.ok at this; exact this)) hdB (by omega) (by omega) (by have := HOk.out; unfold Wr.ok at this; simp only at this; omega))
      have HX := Lib.hid hbox
      clear hdB hbox
      go_wp2_with fail
      refine HW.out.mono ?_
      rintro e wD ⟨rfl, hdD, hcD⟩
      have hbD := fre_row hcD HX.out (.inl rfl)
      have c2 : wD.cell? ⟨bb, 2, none⟩ = some (.bool bx) := by rw [cell_of_row _ _ _ _ _ _ hbD]; rfl
      have HD := Lib.hid hdD
      have hcw := wrote_calm (o := fo) (s := fs) HCm.out
      have hpw : (d.wrote fo fs).pend.length ≤ k + 1 := by rw [wrote_pend, List.length_append]; simpa using hpl
      clear hbD hdD hcD HW HX c0 c1 HCm hpl
      generalize d.wrote fo fs = d1 at HD hcw hpw
      cases bx with
      | true =>
        have HSy := Lib.hid (h_sync (sync_calm hcw).1 HD.out)
        have hcs := (sync_calm hcw).2
        go_wp2_with fail
        refine HSy.out.mono ?_
        rintro e wE ⟨rfl, hdE, hcE⟩
        have HI : Hid (AlI w gd n (k + 1) wE) := Lib.hid ⟨_, hdE.less (fun j hj => hj.elim), hcs, Nat.zero_le _⟩
        clear hdE hcE HSy HD hcs hcw
        go_wp2_with fail
        go_roundw
        case rel => exact ⟨k + 1, by omega, by omega, by go_num, HI⟩
        case measure => simp [intOf]; omega
      | false =>
        have HI : Hid (AlI w gd n (k + 1) wD) := Lib.hid ⟨_, HD.out.less (fun j hj => hj.elim), hcw, hpw⟩
        clear HD hcw
        go_wp2_with fail
        go_roundw
        case rel => exact ⟨k + 1, by omega, by omega, by go_num, HI⟩
        case measure => simp [intOf]; omega
    · obtain ⟨d, hd, hcalm, hpl⟩ := HC.out
      have HRd := Lib.hid (h_read (read_all hcalm hd.inv) hd (by omega) (by decide))
      have HPn := Lib.hid (h_pending hd)
      have HD := Lib.hid hd
      have HCm := Lib.hid hcalm
      have hor : (decide (k < l.length) = true ∧ decide (k < 60) = false ∧ decide ((k : Int) < 60) = false) ∨ decide (k < l.length) = false := by
        by_cases hl : k < l.length
        · exact .inl ⟨decide_eq_true hl, decide_eq_false (by omega), decide_eq_false (by omega)⟩
        · exact .inr (decide_eq_false hl)
      clear hd HC hcalm
      generalize hB : bytesOf d.vis = B at HRd
      have HB := Lib.hid hB
      clear hB
      rcases hor with ⟨t1, t2, t3⟩ | t1
      all_goals
        go_wp2_with fail
        refine HRd.out.mono ?_
        rintro e w3 ⟨rfl, rfl⟩
        clear HRd
        obtain ⟨wo, hwo⟩ : ∃ wo, wo = wr := ⟨_, rfl⟩
        rw [← hwo] at HPn HD
        have H0 : Hid (AlJ wo 0 (.slice none 0 0) wr) := Lib.hid ⟨by rw [← hwo]; exact Own.nil _ _ _, by rw [hwo]; exact Gr.refl _⟩
        generalize wr = wq at H0 hwo
        clear hwo
        have HPq := Lib.hid (fun y (hg : Gr wo y) => h_pending (HD.out.gr hg))
        generalize hm : d.pend.length = m at HPq hpl
        have Hm := Lib.hid hm
        clear hm HPn
        obtain ⟨i3, hi3, hz3, hs3, hb3⟩ := info_parts info3
        go_wp2_with fail
        go_loopw [12, 13] (fun v12 v13 W => ∃ (j : Nat) (v : Value), j ≤ m ∧ v12 = v ∧ v13 = .int .i64 (j : Int) ∧ Hid (AlJ wo j v W)) (fun _ v13 _ => m - (intOf v13).toNat)
        case atStart => exact ⟨0, _, Nat.zero_le _, rfl, rfl, H0⟩
        case round =>
          obtain ⟨j, v12, hjm, rfl, rfl, HJ⟩ := hrel
          have HPj := Lib.hid (HPq.out wr HJ.out.2)
          by_cases hj : j < m
          · have t5 : decide (j < m) = true := decide_eq_true hj
            go_wp2_with fail
            refine HPj.out.mono ?_
            rintro e w4 ⟨rfl, rfl⟩
            clear HPj
            have HO := Lib.hid HJ.out.1
            have HGj := Lib.hid HJ.out.2
            clear HJ
            go_wp2_with ((with_reducible show wpList _ _ _ (⟨some 78, _, _, _, _, _⟩ :: _) _ _); refine push_int (dt := 75) (st := 77) rfl rfl hi3 hz3 hs3 hb3 rfl HO.out HGj.out (by omega) rfl ?_; intro v' w5 hpush)
            have HJ5 : Hid (AlJ wo (j + 1) v' w5) := hpush
            clear hpush HO HGj
            go_wp2_with fail
            go_roundw
            case rel => exact ⟨j + 1, _, by omega, rfl, by go_num, HJ5⟩
            case measure => simp [intOf]; omega
          · have t5 : decide (j < m) = false := decide_eq_false hj
            obtain rfl : j = m := by omega
            have HDj := Lib.hid (HD.out.gr HJ.out.2)
            have hmj := Hm.out
            have hzj := own_ints HJ.out.1 (by simp)
            rw [← hmj] at hzj
            have HCr := Lib.hid (h_crash _ _ (-1) (crashD_all HDj.out.inv) HDj.out (by omega) (by omega) (by simp; omega) hzj (by decide))
            have hc2 : Dk.calm { settleD d d.vis with off := false, left := 0 } := ⟨rfl, rfl⟩
            have hv2 : Dk.vis { settleD d d.vis with off := false, left := 0 } = d.vis := rfl
            have hd2 : Dk.dur { settleD d d.vis with off := false, left := 0 } = d.vis := rfl
            have hp2 : Dk.pend { settleD d d.vis with off := false, left := 0 } = [] := rfl
            generalize ({ settleD d d.vis with off := false, left := 0 } : Dk) = d2 at HCr hc2 hv2 hp2 hd2
            have HE2 : Hid (d2.calm ∧ bytesOf d2.vis = B ∧ bytesOf d2.dur = B ∧ d2.pend = []) := Lib.hid ⟨hc2, by rw [hv2]; exact HB.out, by rw [hd2]; exact HB.out, hp2⟩
            clear hmj hzj hc2 hv2 hd2 hp2
            clear HJ HD HPq H0
            go_wp2_with fail
            refine HPj.out.mono ?_
            rintro e w4 ⟨rfl, rfl⟩
            clear HPj HDj
            go_wp2_with fail
            refine HCr.out.mono ?_
            rintro e w5 ⟨rfl, hd5, -⟩
            have HR5 := Lib.hid (h_read (by rw [read_all HE2.out.1 hd5.inv, HE2.out.2.1]) hd5 (by omega) (by decide))
            have HC5 := Lib.hid (h_crash (.slice none 0 0) [] 0 (crashD_nil d2 0) hd5 (by omega) (by rw [HE2.out.2.2.2]; decide) (by decide) (.inl ⟨rfl, _, _, rfl⟩) (by decide))
            have hc3 : Dk.calm { settleD d2 d2.dur with off := false, left := 0 } := ⟨rfl, rfl⟩
            have hv3 : Dk.vis { settleD d2 d2.dur with off := false, left := 0 } = d2.dur := rfl
            generalize ({ settleD d2 d2.dur with off := false, left := 0 } : Dk) = d3 at HC5 hc3 hv3
            have HE3 : Hid (d3.calm ∧ bytesOf d3.vis = B) := Lib.hid ⟨hc3, by rw [hv3]; exact HE2.out.2.2.1⟩
            clear hd5 HCr hc3 hv3 HE2
            go_wp2_with fail
            refine HR5.out.mono ?_
            rintro e w6 ⟨rfl, rfl⟩
            clear HR5
            go_wp2_with fail
            refine HC5.out.mono ?_
            rintro e w7 ⟨rfl, hd7, -⟩
            have HR7 := Lib.hid (h_read (by rw [read_all HE3.out.1 hd7.inv, HE3.out.2]) hd7 (by omega) (by decide))
            have HG := Lib.hid hd7.g
            clear hd7 HC5 HE3
            go_wp2_with fail
            refine HR7.out.mono ?_
            rintro e w8 ⟨rfl, rfl⟩
            clear HR7
            go_wp2_with fail
            go_ret
            exact ⟨rfl, HG.out⟩
end Go.Proofs.Ytmkdnfiiehgcaaa
