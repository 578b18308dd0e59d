/- DiskCrashBytes: the walk. -/
import Derived.Test.YtmkdnfiiehgcaaaCbA
import Derived.Test.YtmkdnfiiehgcaaaCut
namespace Go.Proofs.Ytmkdnfiiehgcaaa
open Go Go.RowKit
attribute [local go_sem] gAt gUpon
attribute [local simp] Gr.refl Gr.alloc

/-- what holds while the first content is made -/
def CbI (w : World) (gb gd n : Nat) (W : World) : Prop := Held w (XA gb (.slice none 0 0)) gd n (newD n) W ∧ ∃ b, b.length = n ∧ ByRow 5 gb b W
/-- the write that the statement makes of an element -/
def wrOf (l : List WP) (n i : Nat) : Wr := match l[i]? with | some x => fitsD x.off x.s n | none => (0, ⟨#[]⟩)
theorem wrOf_at {l : List WP} {n i : Nat} {x : WP} (h : l[i]? = some x) : wrOf l n i = fitsD x.off x.s n := by unfold wrOf; rw [h]
/-- what holds at a round of the writes -/
def CbJ (w : World) (K : Nat → Bool) (last t : Int) (l : List WP) (b0 : List UInt8) (gb gd n k : Nat) (v : Value) (W : World) : Prop :=
  ∃ d, Held w (XA gb v) gd n d W ∧ d.calm ∧ d.dur = b0 ∧ d.pend = (List.range k).map (wrOf l n) ∧ ByRow 5 gb (wantD K last t (wrOf l n) b0 k) W ∧ NumS v (numsD K k) W ∧ ∀ g, v.ownBlock = some g → g ≠ gb
theorem byC_u8 (k : Nat) : ((UInt8.ofNat (48 + k % 10)).toNat : Int) = 48 + (k : Int) % 10 := by
  have h1 : k % 10 < 10 := Nat.mod_lt _ (by decide)
  have e : (UInt8.ofNat (48 + k % 10)).toNat = 48 + k % 10 := by simp; omega
  rw [e]; omega
theorem wrOf_ok (l : List WP) (n i : Nat) : Wr.ok n (wrOf l n i) := by
  unfold wrOf
  split
  · exact fitsD_ok _ _ _
  · unfold Wr.ok; simp [ByteArray.size]
theorem wantD_len {K : Nat → Bool} {last t : Int} {f : Nat → Wr} {b : List UInt8} {n : Nat} (hb : b.length = n) (h : ∀ i, Wr.ok n (f i)) (k : Nat) : (wantD K last t f b k).length = n := by
  unfold wantD
  rw [applyL_len _ _ ?_, hb]
  intro x hx
  obtain ⟨i, _, rfl⟩ := List.mem_map.1 hx
  rw [hb]
  have := h i
  unfold Wr.ok at *
  split
  · have := tornS_size t (f i).2
    simp only; omega
  · exact this
set_option maxRecDepth 100000 in
set_option maxHeartbeats 4000000 in
theorem cb_any (z : Int) (v : Value) (l : List WP) (vk : Value) (lk : List Bool) (t : Int) (w : World) (hz : -9223372036854775808 ≤ z ∧ z ≤ 9223372036854775807) (hv : RowsIn 3 WpR v l w) (hvk : RowsIn 1 BoolR vk lk w) (ht : -9223372036854775808 ≤ t ∧ t ≤ 9223372036854775807) :
    Calls Try.prog 8 #[.int .i64 z, v, vk, .int .i64 t] w fun e w' => e = .returned (.bool true) ∧ Gr w w' := by
  obtain ⟨pk, ck, rfl, -⟩ := hvk.shape
  obtain ⟨p, c, rfl, -⟩ := hv.shape
  have HS := Lib.hid (sane_any w)
  have HP := Lib.hid (fun x => pick_any z 100 x hz (by decide) (by decide))
  have hlt := pickD_lt z (n := 100) (by decide)
  generalize pickD z 100 = q at HP hlt
  have e1 : IntKind.i64.wrap (1 + (q : Int)) = ((1 + q : Nat) : Int) := by rw [IntWalk.i64_in _ (by omega)]; rfl
  obtain ⟨n, hn⟩ : ∃ n, 1 + q = n := ⟨_, rfl⟩
  rw [hn] at e1
  have hn1 : 1 ≤ n := by omega
  have hn2 : n ≤ 100 := by omega
  have HN := Lib.hid (fun x hG => h_new n hn1 (by omega) (w := w) (x := x) (fun _ => False) hG (fun _ h => h.elim))
  have HMk := Lib.hid (fun x => run_make40 n (by omega) x)
  have HV := Lib.hid hv
  have HVk := Lib.hid hvk
  have HT := Lib.hid ht
  have hll := hv.len
  have hlk := hvk.len
  unfold maxLen at hll hlk
  clear hz hv hvk ht hlt hn
  go_enter Try.func8, Try.ntmps8
  go_wp2_with fail
  refine HS.out.mono ?_
  rintro e w1 ⟨rfl, hg1⟩
  have HG1 := Lib.hid hg1
  clear hg1 HS
  go_wp2_with fail
  refine (HP.out _).mono ?_
  rintro e w2 ⟨rfl, rfl⟩
  clear HP
  go_wp2_with fail
  refine (HN.out _ HG1.out).mono ?_
  rintro e w2 ⟨gd, rfl, hd2, hg2⟩
  have HD2 := Lib.hid hd2
  have hmk := HMk.out
  clear hd2 hg2 HN HG1
  go_wp2_with fail
  obtain ⟨gb, hgb⟩ : ∃ gb, gb = w2.heap.size := ⟨_, rfl⟩
  rw [← hgb]
  refine wp_gen (F := fun x => CbI w gb gd n x) ⟨HD2.out.more (Gr.alloc _ _) (fun k hk => .inr (by rcases hk with hk | hk; exact ⟨by omega, by rw [World.size_alloc]; omega⟩; simp [Value.ownBlock] at hk)), _, (newD_inv n).2.1, by rw [hgb]; exact heap_alloc_new w2 _⟩ ?_
  intro wA hA
  have HA := Lib.hid hA
  clear hA HD2 hmk hgb HMk e1
  obtain ⟨i3, hi3, hz3, hs3, hb3⟩ := info_parts info3
  go_wp2_with fail
  go_loopw [13] (fun v13 W => ∃ k : Nat, k ≤ n ∧ v13 = .int .i64 (k : Int) ∧ Hid (CbI w gb gd n W)) (fun v13 _ => n - (intOf v13).toNat)
  case atStart => exact ⟨0, Nat.zero_le _, rfl, HA⟩
  case round =>
    obtain ⟨k, hkn, rfl, HC⟩ := hrel
    by_cases hlt : k < n
    · obtain ⟨hd, b, hbl, hrow⟩ := HC.out
      have t1 : decide (k < n) = true := decide_eq_true hlt
      obtain ⟨u, hcell⟩ : ∃ u, wr.cell? ⟨gb, k, none⟩ = some u := ⟨_, hrow.get k _ (List.getElem?_eq_getElem (by omega))⟩
      have hfr : wr.frozen? ⟨gb, k, none⟩ = false := frozen_of_row _ _ _ _ _ hrow
      have HI : Hid (CbI w gb gd n (wr.setCell ⟨gb, k, none⟩ (.int .u8 (48 + (k : Int) % 10)))) := Lib.hid (by
        rw [← byC_u8]
        exact ⟨hd.keep (chs_setCell (S := fun j => j = gb) wr rfl _ _) (fun j hj => .inl hj), b.set k (UInt8.ofNat (48 + k % 10)), by simp [hbl], byRow_set hrow⟩)
      clear hd hrow HC hbl
      go_wp2_with fail
      go_roundw
      case rel => exact ⟨k + 1, by omega, by go_num, HI⟩
      case measure => simp [intOf]; omega
    · obtain ⟨hd, b, hbl, hrow⟩ := HC.out
      have t1 : decide (k < n) = false := decide_eq_false hlt
      have hcv := conv_all hrow hbl n
      have hbs : (bytesOf b).size = n := by rw [(bytes_all hrow).2, hbl]
      have HW := Lib.hid (h_write (show writeD (newD n) n 0 (bytesOf b) = _ from writeD_ok (o := 0) (s := bytesOf b) rfl (by omega)) hd (by omega) (Nat.zero_le _) (by decide))
      have HCw := Lib.hid (wrote_calm (d := newD n) (o := 0) (s := bytesOf b) ⟨rfl, rfl⟩)
      have HVw : Hid (((newD n).wrote 0 (bytesOf b)).vis = b) := Lib.hid (by
        rw [wrote_vis]; exact put_whole (by rw [hbl]; exact (newD_inv n).2.1.symm))
      generalize (newD n).wrote 0 (bytesOf b) = d1 at HW HCw HVw
      have HR := Lib.hid hrow
      generalize bytesOf b = B at hcv HW
      clear hd hrow HC hbs HA hkn hlt
      go_wp2_with fail
      refine HW.out.mono ?_
      rintro e wB ⟨rfl, hdB, hcB⟩
      have HSy := Lib.hid (h_sync (sync_calm HCw.out).1 hdB)
      have HR := Lib.hid (fre_row hcB HR.out (.inl (.inl rfl)))
      have hcs := (sync_calm HCw.out).2
      have hds : (settleD d1 d1.vis).dur = b := HVw.out
      have hps : (settleD d1 d1.vis).pend = [] := rfl
      generalize settleD d1 d1.vis = d2 at HSy hcs hds hps
      have HE2 : Hid (d2.calm ∧ d2.dur = b ∧ d2.pend = []) := Lib.hid ⟨hcs, hds, hps⟩
      clear hdB hcB HW hcv HCw HVw hcs hds hps
      go_wp2_with fail
      refine HSy.out.mono ?_
      rintro e wC ⟨rfl, hdC, hcC⟩
      have HR := Lib.hid (fre_row hcC HR.out (.inl (.inl rfl)))
      have HD := Lib.hid hdC
      clear hdC hcC HSy
      go_wp2_with fail
      clear t1
      obtain ⟨wo, hwo⟩ : ∃ wo, wo = wC := ⟨_, rfl⟩
      go_loopw [14, 15] (fun v14 v15 W => ∃ k : Nat, k ≤ l.length ∧ k ≤ 20 ∧ v14 = .int .i64 (lastOf (keptB lk) k) ∧ v15 = .int .i64 (k : Int) ∧ W = wo) (fun _ v15 _ => 20 - (intOf v15).toNat)
      case atStart => exact ⟨0, Nat.zero_le _, by decide, rfl, rfl, hwo.symm⟩
      case round =>
        obtain ⟨k, hkl, hk20, rfl, rfl, rfl⟩ := hrel
        subst hwo
        by_cases hlt : k < l.length ∧ k < 20
        · have t1 : decide (k < l.length) = true := decide_eq_true hlt.1
          have t2 : decide (k < 20) = true := decide_eq_true hlt.2
          have t3 : decide ((k : Int) < 20) = true := decide_eq_true (by omega)
          by_cases hk : k < lk.length
          · have t4 : decide (k < lk.length) = true := decide_eq_true hk
            obtain ⟨x, hx⟩ : ∃ x, lk[k]? = some x := ⟨_, List.getElem?_eq_getElem hk⟩
            obtain ⟨g, off, rfl, hlc, c0⟩ := bool_at HVk.out hx HD.out.g
            have hK := keptB_at hx
            have HX := Lib.hid hK
            clear hx hK
            cases x with
            | true =>
              have e : lastOf (keptB lk) (k + 1) = (k : Int) := by rw [lastOf, if_pos HX.out]
              have HE := Lib.hid e
              clear e
              go_wp2_with fail
              go_roundw
              case rel => exact ⟨k + 1, by omega, by omega, by rw [HE.out], by go_num, trivial⟩
              case measure => simp [intOf]; omega
            | false =>
              have e : lastOf (keptB lk) (k + 1) = lastOf (keptB lk) k := by rw [lastOf, if_neg (by rw [HX.out]; simp)]
              have HE := Lib.hid e
              clear e
              go_wp2_with fail
              go_roundw
              case rel => exact ⟨k + 1, by omega, by omega, by rw [HE.out], by go_num, trivial⟩
              case measure => simp [intOf]; omega
          · have t4 : decide (k < lk.length) = false := decide_eq_false hk
            have e : lastOf (keptB lk) (k + 1) = lastOf (keptB lk) k := by rw [lastOf, if_neg (by rw [keptB_out (by omega)]; simp)]
            have HE := Lib.hid e
            clear e
            go_wp2_with fail
            go_roundw
            case rel => exact ⟨k + 1, by omega, by omega, by rw [HE.out], by go_num, trivial⟩
            case measure => simp [intOf]; omega
        · have hor : (decide (k < l.length) = true ∧ decide (k < 20) = false ∧ decide ((k : Int) < 20) = false) ∨ decide (k < l.length) = false := by
            by_cases hl : k < l.length
            · exact .inl ⟨decide_eq_true hl, decide_eq_false (by omega), decide_eq_false (by omega)⟩
            · exact .inr (decide_eq_false hl)
          have hM : k = min l.length 20 := by omega
          have hlast := lastOf_lt (keptB lk) k
          obtain ⟨K, hK⟩ : ∃ K, keptB lk = K := ⟨_, rfl⟩
          rw [hK] at hlast
          obtain ⟨last, hL⟩ : ∃ last, lastOf K k = last := ⟨_, rfl⟩
          rw [hL] at hlast
          have HK := Lib.hid hK
          have HL := Lib.hid hL
          have HM := Lib.hid hM
          have HJ0 : Hid (CbJ w K last t l b gb gd n 0 (.slice none 0 0) wr) := Lib.hid ⟨d2, HD.out, HE2.out.1, HE2.out.2.1, by rw [HE2.out.2.2]; rfl, HR.out, .inl ⟨rfl, rfl⟩, fun g hg => by simp [Value.ownBlock] at hg⟩
          rw [hK, hL]
          clear hK hL hM HE2 HR HD
          obtain ⟨wq, hwq⟩ : ∃ wq, wr = wq := ⟨_, rfl⟩
          rw [hwq] at HJ0 ⊢
          rcases hor with ⟨t1, t2, t3⟩ | t1
          all_goals
            go_wp2_with fail
            clear hwq t1
            go_loopw [16, 17] (fun v16 v17 W => ∃ (k : Nat) (v : Value), k ≤ l.length ∧ k ≤ 20 ∧ v16 = v ∧ v17 = .int .i64 (k : Int) ∧ Hid (CbJ w K last t l b gb gd n k v W)) (fun _ v17 _ => 20 - (intOf v17).toNat)
            case atStart => exact ⟨0, _, Nat.zero_le _, by decide, rfl, rfl, HJ0⟩
            case round =>
              obtain ⟨k, va, hkl, hk20, hva, rfl, HC⟩ := hrel
              subst hva
              by_cases hlt : k < l.length ∧ k < 20
              · obtain ⟨d, hd, hcalm, hdur, hpend, hrow, hnum, hne⟩ := HC.out
                have t1 : decide (k < l.length) = true := decide_eq_true hlt.1
                have t2 : decide (k < 20) = true := decide_eq_true hlt.2
                have t3 : decide ((k : Int) < 20) = true := decide_eq_true (by omega)
                obtain ⟨x, hx⟩ : ∃ x, l[k]? = some x := ⟨_, List.getElem?_eq_getElem hlt.1⟩
                obtain ⟨g, off, rfl, hlc, c0, c1, c2, bo, bs⟩ := wp_at HV.out hx hd.g
                have HF := Lib.hid (fun y => fits_any x.off x.s x.sync n y bo bs (by omega))
                have HOk := Lib.hid (fitsD_ok x.off x.s n)
                obtain ⟨ox, sx, bx⟩ := x
                simp only at c0 c1 c2 HF HOk
                obtain ⟨f, hf⟩ : ∃ f, wrOf l n k = f := ⟨_, rfl⟩
                have hf2 := hf
                rw [wrOf_at hx] at hf2
                simp only at hf2
                rw [hf2] at HF HOk
                clear hf2
                have Hf := Lib.hid hf
                obtain ⟨fo, fs⟩ := f
                simp only at HF
                have HD := Lib.hid hd
                have HR := Lib.hid hrow
                have HCm := Lib.hid hcalm
                have HO := Lib.hid hnum
                have HNe := Lib.hid hne
                have HPd := Lib.hid hpend
                have HDu := Lib.hid hdur
                clear hd hrow hcalm hnum hne hpend hdur HC hx bo bs hf
                go_wp2_with fail
                refine (HF.out _).mono ?_
                rintro e w5 ⟨rfl, hg5⟩
                have HG5 := Lib.hid hg5
                clear hg5 HF c0 c1 c2
                go_upto_region 24 with fail
                have hbox := heap_alloc_new w5 (.cells #[.int .i64 (fo : Int), .string fs, .bool bx] 53)
                obtain ⟨bb, hbb⟩ : ∃ bb, bb = w5.heap.size := ⟨_, rfl⟩
                have HB5 : Hid (Held w (fun j => XA gb u16 j ∨ j = bb) gd n d (w5.alloc (.cells #[.int .i64 (fo : Int), .string fs, .bool bx] 53)) ∧ ByRow 5 gb (wantD K last t (wrOf l n) b k) (w5.alloc (.cells #[.int .i64 (fo : Int), .string fs, .bool bx] 53)) ∧ bb ≠ gb ∧
                    NumS u16 (numsD K k) (w5.alloc (.cells #[.int .i64 (fo : Int), .string fs, .bool bx] 53))) := Lib.hid (by
                  have hlt := HR.out.lt
                  have hsz := HG5.out.size
                  refine ⟨(HD.out.gr HG5.out).more (Gr.alloc _ _) (fun j hj => hj.imp id (fun e => by rw [World.size_alloc]; omega)), Gr.block (Gr.alloc _ _) (Gr.block HG5.out HR.out), by omega, HO.out.keepS (R := fun _ => False) (Chs.of_gr (HG5.out.trans (Gr.alloc _ _))) (fun _ _ h => h)⟩)
                rw [← hbb] at hbox ⊢
                refine wp_gen (F := fun y => (Held w (fun j => XA gb u16 j ∨ j = bb) gd n d y ∧ ByRow 5 gb (wantD K last t (wrOf l n) b k) y ∧ bb ≠ gb ∧ NumS u16 (numsD K k) y) ∧ y.heap[bb]? = some (.cells #[.int .i64 (fo : Int), .string fs, .bool bx] 53 (0, 0))) ⟨HB5.out, hbox⟩ ?_
                clear HB5 hbox hbb HG5 HD HR HO
                rintro wB ⟨⟨hdB, hrB, hbb, hoB⟩, hbox⟩
                have c0 : wB.cell? ⟨bb, 0, none⟩ = some (.int .i64 (fo : Int)) := by rw [cell_of_row _ _ _ _ _ _ hbox]; rfl
                have c1 : wB.cell? ⟨bb, 1, none⟩ = some (.string fs) := by rw [cell_of_row _ _ _ _ _ _ hbox]; rfl
                have hfo : fo + fs.size ≤ n := by have := HOk.out; unfold Wr.ok at this; exact this
                have hpl : d.pend.length ≤ 20 := by rw [HPd.out]; simp; omega
                have HW := Lib.hid (h_write (writeD_ok HCm.out.1 hfo) hdB (by omega) (by omega) (by omega))
                have HWc := Lib.hid (wrote_calm (o := fo) (s := fs) HCm.out)
                have HWd : Hid ((d.wrote fo fs).dur = b) := Lib.hid HDu.out
                have HWp : Hid ((d.wrote fo fs).pend = (List.range (k + 1)).map (wrOf l n)) := Lib.hid (by rw [wrote_pend, HPd.out, List.range_succ, List.map_append, List.map_singleton, Hf.out])
                generalize d.wrote fo fs = d1 at HW HWc HWd HWp
                have HX := Lib.hid hbox
                have HR := Lib.hid hrB
                have HO := Lib.hid hoB
                clear hdB hrB hoB hbox HPd HDu HCm hpl
                go_wp2_with fail
                refine HW.out.mono ?_
                rintro e wC ⟨rfl, hdC, hcC⟩
                have hxC := fre_row hcC HX.out (.inl (.inr rfl))
                have HR : Hid (ByRow 5 gb (wantD K last t (wrOf l n) b k) wC) := Lib.hid (fre_row hcC HR.out (.inl (.inl (.inl rfl))))
                have HO := Lib.hid (HO.out.keepS hcC (fun g hg hf => hf.2 (.inl (.inr hg))))
                have HD := Lib.hid hdC
                have HX := Lib.hid hxC
                clear hdC hcC hxC HW c0 c1
                have hnl := numsD_len K k
                have hskip : K k = false → Hid (CbJ w K last t l b gb gd n (k + 1) u16 wC) := fun hk => by
                  refine ⟨d1, HD.out.less (fun j hj => .inl hj), HWc.out, HWd.out, HWp.out, ?_, ?_, HNe.out⟩
                  · rw [wantD_succ, if_neg (by rw [hk]; simp)]; exact HR.out
                  · rw [numsD_succ, if_neg (by rw [hk]; simp)]; exact HO.out
                by_cases hk : k < lk.length
                · have t4 : decide (k < lk.length) = true := decide_eq_true hk
                  obtain ⟨x, hx⟩ : ∃ x, lk[k]? = some x := ⟨_, List.getElem?_eq_getElem hk⟩
                  obtain ⟨gk, offk, rfl, hlck, k0⟩ := bool_at HVk.out hx HD.out.g
                  have hKx : K k = x := by rw [← HK.out]; exact keptB_at hx
                  have HKx := Lib.hid hKx
                  clear hx hKx
                  cases x with
                  | false =>
                    have HI := hskip HKx.out
                    clear hskip HD HR HO HX
                    go_wp2_with fail
                    go_roundw
                    case rel => exact ⟨k + 1, _, by omega, by omega, rfl, by go_num, HI⟩
                    case measure => simp [intOf]; omega
                  | true =>
                    clear hskip
                    have hbox2 : ∀ (v' : Value) (wD : World), Gr wC wD → wD.cell? ⟨bb, 0, none⟩ = some (.int .i64 (fo : Int)) ∧ wD.cell? ⟨bb, 1, none⟩ = some (.string fs) := fun v' wD hg => by
                      have hxD := hg.block HX.out
                      exact ⟨by rw [cell_of_row _ _ _ _ _ _ hxD]; rfl, by rw [cell_of_row _ _ _ _ _ _ hxD]; rfl⟩
                    go_upto_region 28 with ((with_reducible show wpList _ _ _ (⟨some 115, _, _, _, _, _⟩ :: _) _ _); refine push_front (dt := 113) (st := 114) rfl rfl hi3 hz3 hs3 hb3 rfl rfl HO.out (by omega) ?_; intro v' wD hnum hgD hown; obtain ⟨c0, c1⟩ := hbox2 v' wD hgD; clear hbox2)
                    have hrD : ByRow 5 gb (wantD K last t (wrOf l n) b k) wD := Gr.block hgD HR.out
                    have hdD : Held w (fun j => XA gb v' j ∨ j = bb) gd n d1 wD := HD.out.more hgD (fun j hj => by
                      rcases hj with (hj | hj) | hj
                      · exact .inl (.inl (.inl hj))
                      · exact .inr (hown j hj)
                      · exact .inl (.inr hj))
                    have hneD : ∀ g, v'.ownBlock = some g → g ≠ gb := fun g hg => by have := (hown g hg).1; have := HR.out.lt; omega
                    have hvl : (wantD K last t (wrOf l n) b k).length = n := wantD_len hbl (wrOf_ok l n) k
                    have HPt := Lib.hid (fun (s' : ByteArray) (hs : s'.size ≤ fs.size) => put_any (o := fo) (s := s') hrD hvl (by omega) (by omega))
                    have HFin : Hid (∀ (s' : ByteArray) (W : World), s' = (if (k : Int) = last then tornS t fs else fs) → ByRow 5 gb (putW (wantD K last t (wrOf l n) b k) (fo, s')) W → Chs (fun j => j = gb) wD W → Hid (CbJ w K last t l b gb gd n (k + 1) v' W)) := Lib.hid (fun s' W hs hr hc => by
                      refine ⟨d1, (hdD.keep hc (fun j hj => .inl (.inl hj))).less (fun j hj => .inl hj), HWc.out, HWd.out, HWp.out, ?_, ?_, hneD⟩
                      · rw [wantD_succ, if_pos HKx.out, Hf.out, ← hs]; exact hr
                      · rw [numsD_succ, if_pos HKx.out]; exact hnum.keepS hc (fun g hg e => hneD g hg e))
                    clear hrD hdD hneD hvl hnum hgD hown HD HR HO HX
                    by_cases hkl : (k : Int) = last
                    · have t6 : ((k : Int) == last) = true := by rw [beq_iff_eq]; exact hkl
                      by_cases h0 : 0 ≤ t
                      · have t7 : decide (0 ≤ t) = true := decide_eq_true h0
                        obtain ⟨tn, rfl⟩ := Int.eq_ofNat_of_zero_le h0
                        have HCs := Lib.hid (fun x => cut_str fs tn x (by omega) (by have := HT.out; omega))
                        have HS' : Hid (fs.extract 0 (min fs.size tn) = (if (k : Int) = last then tornS (tn : Int) fs else fs)) := Lib.hid (by rw [if_pos hkl, cut_torn])
                        have HPs := Lib.hid (HPt.out (fs.extract 0 (min fs.size tn)) (by simp only [ByteArray.size_extract]; omega))
                        generalize fs.extract 0 (min fs.size tn) = s' at HCs HS' HPs
                        clear HPt h0
                        go_wp2_with fail
                        refine (HCs.out _).mono ?_
                        rintro e wE ⟨rfl, rfl⟩
                        clear HCs
                        go_wp2_with fail
                        refine HPs.out.mono ?_
                        rintro e wE ⟨rfl, hrE, hcE⟩
                        have HI := HFin.out _ _ HS'.out hrE hcE
                        clear hrE hcE HFin HPs c0 c1
                        go_wp2_with fail
                        go_roundw
                        case rel => exact ⟨k + 1, _, by omega, by omega, rfl, by go_num, HI⟩
                        case measure => simp [intOf]; omega
                      · have t7 : decide (0 ≤ t) = false := decide_eq_false h0
                        have HS' : Hid (fs = (if (k : Int) = last then tornS t fs else fs)) := Lib.hid (by rw [if_pos hkl, tornS_neg (by omega)])
                        have HPs := Lib.hid (HPt.out fs (Nat.le_refl _))
                        clear HPt h0
                        go_wp2_with fail
                        refine HPs.out.mono ?_
                        rintro e wE ⟨rfl, hrE, hcE⟩
                        have HI := HFin.out _ _ HS'.out hrE hcE
                        clear hrE hcE HFin HPs c0 c1
                        go_wp2_with fail
                        go_roundw
                        case rel => exact ⟨k + 1, _, by omega, by omega, rfl, by go_num, HI⟩
                        case measure => simp [intOf]; omega
                    · have t6 : ((k : Int) == last) = false := by rw [beq_eq_false_iff_ne]; exact hkl
                      have HS' : Hid (fs = (if (k : Int) = last then tornS t fs else fs)) := Lib.hid (by rw [if_neg hkl])
                      have HPs := Lib.hid (HPt.out fs (Nat.le_refl _))
                      clear HPt
                      go_wp2_with fail
                      refine HPs.out.mono ?_
                      rintro e wE ⟨rfl, hrE, hcE⟩
                      have HI := HFin.out _ _ HS'.out hrE hcE
                      clear hrE hcE HFin HPs c0 c1
                      go_wp2_with fail
                      go_roundw
                      case rel => exact ⟨k + 1, _, by omega, by omega, rfl, by go_num, HI⟩
                      case measure => simp [intOf]; omega
                · have t4 : decide (k < lk.length) = false := decide_eq_false hk
                  have HI := hskip (by rw [← HK.out]; exact keptB_out (by omega))
                  clear hskip HD HR HO HX
                  go_wp2_with fail
                  go_roundw
                  case rel => exact ⟨k + 1, _, by omega, by omega, rfl, by go_num, HI⟩
                  case measure => simp [intOf]; omega
              · obtain ⟨d, hd, hcalm, hdur, hpend, hrow, hnum, hne⟩ := HC.out
                have hor : (decide (k < l.length) = true ∧ decide (k < 20) = false ∧ decide ((k : Int) < 20) = false) ∨ decide (k < l.length) = false := by
                  by_cases hl : k < l.length
                  · exact .inl ⟨decide_eq_true hl, decide_eq_false (by omega), decide_eq_false (by omega)⟩
                  · exact .inr (decide_eq_false hl)
                have hlk' : lastOf K k = last := by
                  have := HL.out
                  rwa [HM.out, show min l.length 20 = k by omega] at this
                have hplen : d.pend.length = k := by rw [hpend]; simp
                have hnl := numsD_len K k
                have hvis : (crashD d (numsD K k) t).vis = wantD K last t (wrOf l n) b k := by
                  rw [crash_want (K := K) (fun i hi => by rw [← hplen]; exact numsD_mem K _ i hi), hplen, hlk', hdur]
                  apply wantD_congr
                  intro i hi
                  rw [hpend, List.getD_eq_getElem?_getD, List.getElem?_map, List.getElem?_range hi]; rfl
                have hcc : (crashD d (numsD K k) t).calm := ⟨rfl, rfl⟩
                have HCr := Lib.hid (h_crash u16 (numsD K k) t rfl hd (by omega) (by omega) (by omega) hnum.ints HT.out)
                have HE := Lib.hid hvis
                have HCc := Lib.hid hcc
                have HR := Lib.hid hrow
                generalize crashD d (numsD K k) t = d5 at HCr HE HCc
                clear hd hcalm hdur hpend hrow hnum hne hlk' hplen hvis hcc HC HJ0 HL HM hlast
                rcases hor with ⟨t1, t2, t3⟩ | t1
                all_goals
                  go_wp2_with fail
                  refine HCr.out.mono ?_
                  rintro e w5 ⟨rfl, hd5, hc5⟩
                  have hr5 : ByRow 5 gb d5.vis w5 := by rw [HE.out]; exact fre_row hc5 HR.out (.inl (.inl rfl))
                  have HR5 := Lib.hid (h_read (read_all HCc.out hd5.inv) hd5 (by omega) (by decide))
                  have hcv := conv_all hr5 hd5.inv.2.1 n
                  have HG := Lib.hid hd5.g
                  generalize bytesOf d5.vis = B5 at HR5 hcv
                  clear hd5 hc5 hr5 HCr HE HCc HR
                  go_wp2_with fail
                  refine HR5.out.mono ?_
                  rintro e w6 ⟨rfl, rfl⟩
                  clear HR5
                  go_wp2_with fail
                  go_ret
                  exact ⟨rfl, HG.out⟩
end Go.Proofs.Ytmkdnfiiehgcaaa
