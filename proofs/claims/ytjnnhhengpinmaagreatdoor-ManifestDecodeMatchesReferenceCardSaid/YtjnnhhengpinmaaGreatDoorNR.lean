/- The contract of the reference's Int. -/
import Derived.Test.YtjnnhhengpinmaaGreatDoorNC
import Derived.Test.YtjnnhhengpinmaaGreatDoorND
import Derived.Test.YtjnnhhengpinmaaGreatDoorHeldP
import Derived.Test.YtjnnhhengpinmaaGreatDoorMkA
import Derived.Test.YtjnnhhengpinmaaGreatDoorNA
import Derived.Test.YtjnnhhengpinmaaGreatDoorNO
import Derived.Test.YtjnnhhengpinmaaGreatDoorNF
import Derived.Test.YtjnnhhengpinmaaGreatDoorNM
namespace Go.Proofs.YtjnnhhengpinmaaGreatDoor
section
open Go Go.RowKit Go.Shelf
attribute [local go_sem] gAt gUpon
attribute [local simp] Gr.refl Gr.alloc

/-- a value read whose last group lies at the end: its encoding is what was read, exactly if the reader takes it -/
theorem ref_end {l : List UInt8} {z m : Nat} {bad : Prop} [Decidable bad] (hR : rdZ 9 0 0 l = if bad then none else some (z, l.drop m)) (hz : z < 9223372036854775807) : (encZ z).data.toList = l.take m ↔ ¬ bad := by
  have ho : zigOk (unzig z) = true := unzig_ok.2 hz
  constructor
  · intro he hb
    rw [if_pos hb] at hR
    have h1 := rdI_enc ho (l.drop m)
    rw [zig_unzig, he, List.take_append_drop] at h1
    unfold rdI at h1
    rw [hR] at h1
    cases h1
  · intro hb
    rw [if_neg hb] at hR
    have h1 : rdI l = some (unzig z, l.drop m) := by unfold rdI; rw [hR]; rfl
    have h2 := (rdI_inv h1).2
    rw [zig_unzig] at h2
    have h3 : l.take m ++ l.drop m = (encZ z).data.toList ++ l.drop m := by rw [List.take_append_drop]; exact h2
    exact (List.append_cancel_right h3).symm
theorem wrap_sum {z c7 k X z' : Nat} (hX : c7 * 128 ^ k = X) (hz : z + X = z') (hz' : z' < 9223372036854775808) : IntKind.u64.wrap ((c7 : Int) * 2 ^ (7 * k)) = (X : Int) ∧ IntKind.u64.wrap ((z : Int) + (X : Int)) = (z' : Int) := by
  have hpow : (2 : Nat) ^ (7 * k) = 128 ^ k := by rw [Nat.pow_mul]
  have e1 : (c7 : Int) * 2 ^ (7 * k) = ((c7 * 2 ^ (7 * k) : Nat) : Int) := by rw [Int.natCast_mul, Int.natCast_pow]; rfl
  rw [e1, hpow, hX, wrap_u64, wrap_u64]
  omega
theorem ref_num {z h q : Nat} (hz : z < 9223372036854775808) (hh : z / 2 = h) (hq : z % 2 = q) :
    IntKind.u64.wrap (h : Int) = (h : Int) ∧ (z : Int).tdiv 2 = (h : Int) ∧ wrap64 (h : Int) = (h : Int) ∧ IntKind.u64.wrap (q : Int) = (q : Int) ∧ (z : Int).tmod 2 = (q : Int) ∧ wrap64 (-(h : Int)) = -(h : Int) ∧ wrap64 (-(h : Int) - 1) = -(h : Int) - 1 := by
  refine ⟨by rw [wrap_u64]; omega, by rw [Int.tdiv_eq_ediv_of_nonneg (by omega)]; omega, wrap64_in (by omega) (by omega), by rw [wrap_u64]; omega, by rw [Int.tmod_eq_emod_of_nonneg (by omega)]; omega, wrap64_in (by omega) (by omega), wrap64_in (by omega) (by omega)⟩
theorem ref_unzig {z h : Nat} (hh : z / 2 = h) : (z % 2 = 0 → unzig z = (h : Int)) ∧ (z % 2 = 1 → unzig z = -(h : Int) - 1) := by
  unfold unzig
  refine ⟨fun e => by rw [if_pos e, hh], fun e => by rw [if_neg (by omega), hh]⟩
theorem mod2 {z q : Nat} (h : z % 2 = q) : q = 0 ∨ q = 1 := by omega
theorem lt_max {z : Nat} (h : z < 9223372036854775808) (h2 : ¬ z = 9223372036854775807) : z < 9223372036854775807 := by omega
set_option maxRecDepth 100000 in
set_option maxHeartbeats 2000000 in
theorem intR_any (s : ByteArray) (at_ : Nat) (hs : s.size ≤ 9223372036854775000) (ha : at_ ≤ s.size) (w : World) :
    Calls Tryz.prog 109 #[.string s, .int .i64 (at_ : Int)] w fun e w' => e = .returned (intV s.size (rdI (s.data.toList.drop at_))) ∧ Gr w w' := by
  have hlen : s.data.toList.length = s.size := by simp
  obtain ⟨R, hR⟩ : ∃ R, rdZ 9 0 0 (s.data.toList.drop at_) = R := ⟨_, rfl⟩
  have HR : Hid (rdI (s.data.toList.drop at_) = R.map fun p => (unzig p.1, p.2)) := Lib.hid (by unfold rdI; rw [hR])
  rw [HR.out]
  have H0 : Hid (rdZ (9 - 0) 0 0 (s.data.toList.drop (at_ + 0)) = R ∧ 0 < 128 ^ 0) := Lib.hid ⟨hR, by decide⟩
  have HR0 := Lib.hid hR
  clear hR HR
  have t1 : decide ((at_ : Int) < 0) = false := decide_eq_false (by omega)
  have t2 : decide ((s.size : Int) < (at_ : Int)) = false := decide_eq_false (by omega)
  have t2' : decide (s.size < at_) = false := decide_eq_false (by omega)
  go_enter Tryz.func109, Tryz.ntmps109
  go_wp2_with fail
  go_loopw [7, 8, 9, 10, 11, 12] (fun v7 v8 v9 v10 v11 v12 W => ∃ (z k : Nat), k ≤ 9 ∧ v7 = .int .u64 (z : Int) ∧ v8 = .int .i64 (k : Int) ∧ Hid (rdZ (9 - k) k z (s.data.toList.drop (at_ + k)) = R ∧ z < 128 ^ k) ∧ W = w) (fun _ v8 _ _ _ _ _ => 9 - (intOf v8).toNat)
  case atStart => exact ⟨0, 0, by omega, rfl, rfl, H0, rfl⟩
  clear H0
  case round =>
    obtain ⟨z, k, hk, rfl, rfl, HI, rfl⟩ := hrel
    by_cases h9 : k < 9
    · have t3 : decide (k < 9) = true := decide_eq_true h9
      have t3' : decide ((k : Int) < 9) = true := decide_eq_true (by omega)
      obtain ⟨p, hp⟩ : ∃ p, at_ + k = p := ⟨_, rfl⟩
      have ea : (at_ : Int) + (k : Int) = (p : Int) := by omega
      have ew : IntKind.i64.wrap (p : Int) = (p : Int) := IntWalk.i64_in _ (by omega)
      by_cases hin : p < s.size
      · have t4 : decide (p < s.size) = true := decide_eq_true (by omega)
        have t4' : decide ((p : Int) < (s.size : Int)) = true := decide_eq_true (by omega)
        obtain ⟨cb, hcb⟩ : ∃ cb, s[p]'hin = cb := ⟨_, rfl⟩
        have hgl : s.data.toList[p]? = some cb := by
          rw [List.getElem?_eq_getElem (by omega), ← hcb]; rfl
        obtain ⟨c, hc⟩ : ∃ c, cb.toNat = c := ⟨_, rfl⟩
        have hc256 : c < 256 := by rw [← hc]; exact cb.toNat_lt
        obtain ⟨c7, hc7⟩ : ∃ c7, c % 128 = c7 := ⟨_, rfl⟩
        have b1 : (c : Int).tmod 128 = (c7 : Int) := by rw [Int.tmod_eq_emod_of_nonneg (by omega)]; omega
        have b2 : IntKind.u64.wrap (c : Int) = (c : Int) := by rw [wrap_u64]; omega
        have b2' : IntKind.u64.wrap (c7 : Int) = (c7 : Int) := by rw [wrap_u64]; omega
        have b3 : IntKind.i64.wrap (7 * (k : Int)) = 7 * (k : Int) := IntWalk.i64_in _ (by omega)
        obtain ⟨hz1, hz63, -⟩ := grp_step h9 HI.out.2 (show c7 < 128 by omega)
        obtain ⟨X, hX⟩ : ∃ X, c7 * 128 ^ k = X := ⟨_, rfl⟩
        rw [hX] at hz1 hz63
        obtain ⟨z', hz'⟩ : ∃ z', z + X = z' := ⟨_, rfl⟩
        rw [hz'] at hz1 hz63
        obtain ⟨b4, b5⟩ := wrap_sum hX hz' hz63
        have hstep : ∀ l, rdZ (9 - k) k z (cb :: l) = if 128 ≤ c then rdZ (9 - (k + 1)) (k + 1) z' l else if (c = 0 ∧ 0 < k) ∨ z' = 9223372036854775807 then none else some (z', l) := fun l => by
          rw [show 9 - k = (9 - (k + 1)) + 1 by omega, rdZ, hc, hc7, hX, hz']
        have hRw : R = if 128 ≤ c then rdZ (9 - (k + 1)) (k + 1) z' (s.data.toList.drop (at_ + (k + 1))) else if (c = 0 ∧ 0 < k) ∨ z' = 9223372036854775807 then none else some (z', s.data.toList.drop (at_ + (k + 1))) := by
          rw [← HI.out.1, drop_at (show s.data.toList[at_ + k]? = some cb by rw [hp]; exact hgl), hstep]
          rw [show at_ + k + 1 = at_ + (k + 1) by omega]
        have HRw := Lib.hid hRw
        have Hz1 : Hid (z' < 128 ^ (k + 1)) := Lib.hid hz1
        have b6 : ((z : Int) + (X : Int)) = (z' : Int) := by omega
        clear hRw hstep hz1 hz' HI hgl hX hc7
        by_cases hhi : 128 ≤ c
        · have t5 : decide (128 ≤ (c : Int)) = true := decide_eq_true (by omega)
          have t5' : decide (128 ≤ c) = true := decide_eq_true hhi
          have HR2 := Lib.hid (HRw.out.trans (if_pos hhi))
          clear HRw
          go_wp2_with fail
          go_roundw
          case rel => exact ⟨z', k + 1, by omega, rfl, by go_num, Lib.hid ⟨HR2.out.symm, Hz1.out⟩, trivial⟩
          case measure => simp [intOf]; omega
        · have t5 : decide (128 ≤ (c : Int)) = false := decide_eq_false (by omega)
          have t5' : decide (128 ≤ c) = false := decide_eq_false hhi
          have HR2 := Lib.hid (HRw.out.trans (if_neg hhi))
          clear HRw
          obtain ⟨h, hh⟩ : ∃ h, z' / 2 = h := ⟨_, rfl⟩
          obtain ⟨q, hq⟩ : ∃ q, z' % 2 = q := ⟨_, rfl⟩
          obtain ⟨d1, d2, d3, d4, d5, d6, d7⟩ := ref_num hz63 hh hq
          obtain ⟨u0, u1⟩ := ref_unzig hh
          have hqq := mod2 hq
          obtain ⟨n, hn⟩ : ∃ n, unzig z' = n := ⟨_, rfl⟩
          rw [hn, hq] at u0 u1
          have ew2 : IntKind.i64.wrap ((p : Int) + 1) = (p : Int) + 1 := IntWalk.i64_in _ (by omega)
          have i0 : (0 : Int) ≤ (at_ : Int) := by omega
          have i1 : (at_ : Int) ≤ (p : Int) + 1 := by omega
          have i2 : (p : Int) + 1 ≤ (s.size : Int) := by omega
          have HDs := Lib.hid (And.intro d1 (And.intro d2 (And.intro d3 (And.intro d4 (And.intro d5 (And.intro d6 d7))))))
          have HIs := Lib.hid (And.intro ew2 (And.intro i0 (And.intro i1 i2)))
          have Hhq := Lib.hid (And.intro hqq (And.intro u0 u1))
          clear d1 d2 d3 d4 d5 d6 d7 ew2 i0 i1 i2 hqq u0 u1
          obtain ⟨u, hu⟩ : ∃ u, s.extract at_ (p + 1) = u := ⟨_, rfl⟩
          have Hu := Lib.hid hu
          have Hn := Lib.hid hn
          have hul : u.data.toList = (s.data.toList.drop at_).take (k + 1) := by
            rw [← hu, show p + 1 = at_ + (k + 1) by omega, cut_bytes]
          have Hul := Lib.hid hul
          have hbig : Hid (∀ y, zigOk n = false → _) := Lib.hid (fun y hz => putIntR_big n hz y)
          have hok : Hid (∀ y, zigOk n = true → _) := Lib.hid (fun y hz => putIntR_ok n hz y)
          have Hzg : Hid (zigOk n = true ↔ z' < 9223372036854775807) := Lib.hid (by rw [← hn]; exact unzig_ok)
          have Hzz : Hid (zig n = z') := Lib.hid (by rw [← hn]; exact zig_unzig z')
          clear hn hul hq hh hu
          go_upto_region 10 with fail
          clear b1 b2 b2' b3 b4 b5 b6 t1 t2 t2' t3 t3' t4 t4' t5 t5' hhi hc256
          obtain ⟨hqq, u0, u1⟩ := Hhq.out
          clear Hhq
          by_cases hmx : z' = 9223372036854775807
          · obtain rfl : R = none := HR2.out.trans (if_pos (.inr hmx))
            have hzf : zigOk n = false := by
              cases hz : zigOk n with
              | false => rfl
              | true => exact absurd (Hzg.out.1 hz) (by rw [hmx]; exact Nat.lt_irrefl _)
            have HP := Lib.hid (fun y => hbig.out y hzf)
            clear HR2 hmx hzf hbig hok Hzg Hzz Hul Hn HR0
            rcases hqq with rfl | rfl
            · obtain rfl : n = (h : Int) := u0 rfl
              clear u0 u1
              obtain ⟨d1, d2, d3, d4, d5, d6, d7⟩ := HDs.out
              clear HDs
              go_upto_region 13 with fail
              first | rw [d7] | rw [d3]
              clear d1 d2 d3 d4 d5 d6 d7
              obtain ⟨ew2, i0, i1, i2⟩ := HIs.out
              have hu := Hu.out
              clear HIs Hu
              go_wp2_with fail
              refine (HP.out _).mono ?_
              rintro e w1 ⟨rfl, hg⟩
              go_wp2_with fail
              refine bodyPost_ret (results_tmp3 rfl _ _ _) rfl ?_
              exact ⟨rfl, hg⟩
            · have hn1 : n = -(h : Int) - 1 := u1 rfl
              clear u0 u1
              rw [hn1] at HP
              clear hn1
              obtain ⟨d1, d2, d3, d4, d5, d6, d7⟩ := HDs.out
              clear HDs
              go_upto_region 13 with fail
              first | rw [d7] | rw [d3]
              clear d1 d2 d3 d4 d5 d6 d7
              obtain ⟨ew2, i0, i1, i2⟩ := HIs.out
              have hu := Hu.out
              clear HIs Hu
              go_wp2_with fail
              refine (HP.out _).mono ?_
              rintro e w1 ⟨rfl, hg⟩
              go_wp2_with fail
              refine bodyPost_ret (results_tmp3 rfl _ _ _) rfl ?_
              exact ⟨rfl, hg⟩
          · have hlt : z' < 9223372036854775807 := lt_max hz63 hmx
            have HP := Lib.hid (fun y => hok.out y (Hzg.out.2 hlt))
            rw [Hzz.out] at HP
            have hend := ref_end (l := s.data.toList.drop at_) (z := z') (m := k + 1) (bad := c = 0 ∧ 0 < k) (by
              rw [HR0.out, HR2.out, List.drop_drop]
              by_cases hb : c = 0 ∧ 0 < k
              · rw [if_pos (.inl hb), if_pos hb]
              · rw [if_neg (fun h => h.elim hb hmx), if_neg hb]) hlt
            obtain ⟨T, hT⟩ : ∃ T, encZ z' = T := ⟨_, rfl⟩
            rw [hT] at HP hend
            rw [← Hul.out] at hend
            obtain ⟨C, hC⟩ : ∃ C, decide (T = u) = C := ⟨_, rfl⟩
            have tC : (T.toList == u.toList) = C := by rw [beq_str, hC]
            have hTu : T = u ↔ ¬ (c = 0 ∧ 0 < k) := by
              rw [← hend]
              exact ⟨fun e => by rw [e], fun e => by cases T; cases u; congr 1; exact Array.toList_inj.1 e⟩
            have HV : Hid (Value.tuple (if C then #[.int .i64 n, .int .i64 ((p : Int) + 1), .int .i64 0] else #[.int .i64 0, .int .i64 0, .int .i64 10]) = intV s.size (Option.map (fun p => (unzig p.fst, p.snd)) R)) := Lib.hid (by
              rw [HR2.out]
              cases C with
              | true =>
                have hb := hTu.1 (of_decide_eq_true hC)
                show Value.tuple #[.int .i64 n, .int .i64 ((p : Int) + 1), .int .i64 0] = _
                rw [if_neg (fun h => h.elim hb hmx), Option.map_some, intV, Hn.out, List.length_drop, hlen, show s.size - (s.size - (at_ + (k + 1))) = p + 1 by omega]
                rfl
              | false =>
                have hb : c = 0 ∧ 0 < k := Classical.byContradiction (fun h => (of_decide_eq_false hC) (hTu.2 h))
                show Value.tuple #[.int .i64 0, .int .i64 0, .int .i64 10] = _
                rw [if_pos (.inl hb)]; rfl)
            clear HR2 hmx hlt hbig hok Hzg Hzz Hul Hn HR0 hend hTu hC hT
            rcases hqq with rfl | rfl
            · obtain rfl : n = (h : Int) := u0 rfl
              clear u0 u1
              obtain ⟨d1, d2, d3, d4, d5, d6, d7⟩ := HDs.out
              clear HDs
              go_upto_region 13 with fail
              first | rw [d7] | rw [d3]
              clear d1 d2 d3 d4 d5 d6 d7
              obtain ⟨ew2, i0, i1, i2⟩ := HIs.out
              have hu := Hu.out
              clear HIs Hu
              cases C with
              | true =>
                go_wp2_with fail
                refine (HP.out _).mono ?_
                rintro e w1 ⟨rfl, hg⟩
                go_wp2_with fail
                refine bodyPost_ret (results_tmp3 rfl _ _ _) rfl ?_
                exact ⟨by rw [← HV.out]; rfl, hg⟩
              | false =>
                go_wp2_with fail
                refine (HP.out _).mono ?_
                rintro e w1 ⟨rfl, hg⟩
                go_wp2_with fail
                refine bodyPost_ret (results_tmp3 rfl _ _ _) rfl ?_
                exact ⟨by rw [← HV.out]; rfl, hg⟩
            · have hn1 : n = -(h : Int) - 1 := u1 rfl
              clear u0 u1
              rw [hn1] at HP HV
              clear hn1
              obtain ⟨d1, d2, d3, d4, d5, d6, d7⟩ := HDs.out
              clear HDs
              go_upto_region 13 with fail
              first | rw [d7] | rw [d3]
              clear d1 d2 d3 d4 d5 d6 d7
              obtain ⟨ew2, i0, i1, i2⟩ := HIs.out
              have hu := Hu.out
              clear HIs Hu
              cases C with
              | true =>
                go_wp2_with fail
                refine (HP.out _).mono ?_
                rintro e w1 ⟨rfl, hg⟩
                go_wp2_with fail
                refine bodyPost_ret (results_tmp3 rfl _ _ _) rfl ?_
                exact ⟨by rw [← HV.out]; rfl, hg⟩
              | false =>
                go_wp2_with fail
                refine (HP.out _).mono ?_
                rintro e w1 ⟨rfl, hg⟩
                go_wp2_with fail
                refine bodyPost_ret (results_tmp3 rfl _ _ _) rfl ?_
                exact ⟨by rw [← HV.out]; rfl, hg⟩
      · have t4 : decide (p < s.size) = false := decide_eq_false (by omega)
        have t4' : decide ((p : Int) < (s.size : Int)) = false := decide_eq_false (by omega)
        obtain rfl : none = R := by
          rw [← HI.out.1, List.drop_eq_nil_of_le (by omega), rdZ_nil]
        clear HI
        go_wp2_with fail
        refine bodyPost_ret (results_tmp3 rfl _ _ _) rfl ?_
        exact ⟨rfl, Gr.refl _⟩
    · have t3 : decide (k < 9) = false := decide_eq_false h9
      have t3' : decide ((k : Int) < 9) = false := decide_eq_false (by omega)
      obtain rfl : none = R := by
        rw [← HI.out.1, show 9 - k = 0 by omega]; rfl
      clear HI
      go_wp2_with fail
      refine bodyPost_ret (results_tmp3 rfl _ _ _) rfl ?_
      exact ⟨rfl, Gr.refl _⟩
end
section
open Go Go.RowKit Go.Shelf
attribute [local go_sem] gAt gUpon
attribute [local simp] Gr.refl Gr.alloc

set_option maxRecDepth 100000 in
theorem stringR_any (s : ByteArray) (k : Nat) (hs : s.size ≤ 9223372036854775000) (ha : k ≤ s.size) (w : World) :
    Calls Tryz.prog 110 #[.string s, .int .i64 (k : Int)] w fun e w' => e = .returned (txtV s.size (rdS (s.data.toList.drop k))) ∧ Gr w w' := by
  have HI := Lib.hid (intR_any s k hs ha)
  obtain ⟨R, hR⟩ : ∃ R, rdI (s.data.toList.drop k) = R := ⟨_, rfl⟩
  cases R with
  | none =>
    have HR : Hid (rdS (s.data.toList.drop k) = none) := Lib.hid (by unfold rdS; rw [hR])
    rw [hR] at HI
    rw [HR.out]
    clear hR
    go_enter Tryz.func110, Tryz.ntmps110
    go_wp2_with fail
    refine (HI.out w).mono ?_
    rintro e w1 ⟨rfl, hg⟩
    unfold intV
    clear HI
    go_wp2_with fail
    refine bodyPost_ret (results_tmp3 rfl _ _ _) rfl ?_
    exact ⟨rfl, hg⟩
  | some p =>
    obtain ⟨n, q⟩ := p
    obtain ⟨h1, h2, h3⟩ := rdI_rest hR
    have hz := (rdI_inv hR).1
    unfold zigOk at hz; simp only [Bool.and_eq_true, decide_eq_true_eq] at hz
    rw [hR] at HI
    obtain ⟨nx, hnx⟩ : ∃ nx, s.size - q.length = nx := ⟨_, rfl⟩
    have hq : q.length = s.size - nx := by omega
    by_cases c1 : n < 0
    · have HR : Hid (rdS (s.data.toList.drop k) = none) := Lib.hid (by unfold rdS; rw [hR]; simp only; rw [if_neg (by omega)])
      rw [HR.out]
      have t1 : decide (n < 0) = true := decide_eq_true c1
      clear hR h3
      go_enter Tryz.func110, Tryz.ntmps110
      go_wp2_with fail
      refine (HI.out w).mono ?_
      rintro e w1 ⟨rfl, hg⟩
      unfold intV
      clear HI
      go_wp2_with fail
      refine bodyPost_ret (results_tmp3 rfl _ _ _) rfl ?_
      exact ⟨rfl, hg⟩
    · have t1 : decide (n < 0) = false := decide_eq_false c1
      by_cases c2 : 65536 < n
      · have HR : Hid (rdS (s.data.toList.drop k) = none) := Lib.hid (by unfold rdS; rw [hR]; simp only; rw [if_neg (by omega)])
        rw [HR.out]
        have t2 : decide (65536 < n) = true := decide_eq_true c2
        clear hR h3
        go_enter Tryz.func110, Tryz.ntmps110
        go_wp2_with fail
        refine (HI.out w).mono ?_
        rintro e w1 ⟨rfl, hg⟩
        unfold intV
        clear HI
        go_wp2_with fail
        refine bodyPost_ret (results_tmp3 rfl _ _ _) rfl ?_
        exact ⟨rfl, hg⟩
      · have t2 : decide (65536 < n) = false := decide_eq_false c2
        obtain ⟨m, rfl⟩ := Int.eq_ofNat_of_zero_le (show 0 ≤ n by omega)
        have e3 : (s.size : Int) - (nx : Int) = ((s.size - nx : Nat) : Int) := by omega
        by_cases c3 : s.size - nx < m
        · have HR : Hid (rdS (s.data.toList.drop k) = none) := Lib.hid (by unfold rdS; rw [hR]; simp only; rw [if_neg (by omega)])
          rw [HR.out]
          have t3 : decide ((s.size : Int) - (nx : Int) < (m : Int)) = true := decide_eq_true (by omega)
          have t3' : decide (s.size - nx < m) = true := decide_eq_true c3
          rw [show intV s.size (some ((m : Int), q)) = .tuple #[.int .i64 (m : Int), .int .i64 (nx : Int), .int .i64 0] by rw [← hnx]; rfl] at HI
          clear hR h3
          go_enter Tryz.func110, Tryz.ntmps110
          go_wp2_with fail
          refine (HI.out w).mono ?_
          rintro e w1 ⟨rfl, hg⟩
          clear HI
          go_wp2_with fail
          refine bodyPost_ret (results_tmp3 rfl _ _ _) rfl ?_
          exact ⟨rfl, hg⟩
        · have t3 : decide ((s.size : Int) - (nx : Int) < (m : Int)) = false := decide_eq_false (by omega)
          have t3' : decide (s.size - nx < m) = false := decide_eq_false c3
          obtain ⟨y, hy⟩ : ∃ y, nx + m = y := ⟨_, rfl⟩
          have HR : Hid (txtV s.size (rdS (s.data.toList.drop k)) = .tuple #[.string (s.extract nx y), .int .i64 (y : Int), .int .i64 0]) := Lib.hid (by
            unfold rdS; rw [hR]; simp only
            rw [if_pos (by omega), Int.toNat_natCast, ← hy, cut_bytes s nx m]
            show Value.tuple #[.string _, .int .i64 ((s.size - (q.drop m).length : Nat) : Int), .int .i64 0] = _
            rw [List.length_drop, hq, show s.size - (s.size - nx - m) = nx + m by omega]
            rw [hnx] at h3
            rw [← h3])
          rw [HR.out]
          rw [show intV s.size (some ((m : Int), q)) = .tuple #[.int .i64 (m : Int), .int .i64 (nx : Int), .int .i64 0] by rw [← hnx]; rfl] at HI
          have e4 : (nx : Int) + (m : Int) = (y : Int) := by omega
          have e5 : IntKind.i64.wrap (y : Int) = (y : Int) := IntWalk.i64_in _ (by omega)
          have b1 : (nx : Int) ≤ (y : Int) := by omega
          have b2 : (y : Int) ≤ (s.size : Int) := by omega
          clear hR h3
          go_enter Tryz.func110, Tryz.ntmps110
          go_wp2_with fail
          refine (HI.out w).mono ?_
          rintro e w1 ⟨rfl, hg⟩
          clear HI
          go_wp2_with fail
          refine bodyPost_ret (results_tmp3 rfl _ _ _) rfl ?_
          exact ⟨rfl, hg⟩
end
section
open Go Go.RowKit Go.Shelf
attribute [local go_sem] gAt gUpon pUpon
attribute [local simp] Gr.refl Gr.alloc

/-- the reader's block: what is left to be read, or that reading failed -/
def TxR (bt : Nat) (s : ByteArray) (st : Option (List UInt8)) (w : World) : Prop := match st with
  | some l => ∃ k : Nat, k ≤ s.size ∧ l = s.data.toList.drop k ∧ w.heap[bt]? = some (.cells #[.string s, .int .i64 (k : Int), .bool true] 104 (0, 0))
  | none => ∃ a : Int, w.heap[bt]? = some (.cells #[.string s, .int .i64 a, .bool false] 104 (0, 0))
def TxS (bt : Nat) (s : ByteArray) (k : Nat) (y : World) : Prop := y.cell? ⟨bt, 0, none⟩ = some (.string s) ∧ y.cell? ⟨bt, 1, none⟩ = some (.int .i64 (k : Int))
def numN (st : Option (List UInt8)) : Int := ((st.bind rdI).map (·.1)).getD 0
def numS (st : Option (List UInt8)) : Option (List UInt8) := (st.bind rdI).map (·.2)
def txtN (st : Option (List UInt8)) : ByteArray := ((st.bind rdS).map (·.1)).getD ⟨#[]⟩
def txtS (st : Option (List UInt8)) : Option (List UInt8) := (st.bind rdS).map (·.2)
set_option maxRecDepth 100000 in
set_option maxHeartbeats 2000000 in
theorem number14_any (bt : Nat) (s : ByteArray) (st : Option (List UInt8)) (w : World) (hs : s.size ≤ 9223372036854775000) (h : TxR bt s st w) :
    Calls Tryz.prog 72 #[.pointer (some ⟨bt, 0, none⟩)] w fun e w' => e = .returned (.int .i64 (numN st)) ∧ TxR bt s (numS st) w' ∧ Chg (some bt) w w' := by
  cases st with
  | none =>
    obtain ⟨a, hr⟩ := h
    obtain ⟨m0, m1, m2⟩ := row3 hr
    have Hr := Lib.hid hr
    clear hr
    go_enter Tryz.func72, Tryz.ntmps72
    go_wp2_with fail
    go_ret
    exact ⟨rfl, ⟨a, Hr.out⟩, Chg.of_gr (Gr.refl _)⟩
  | some l =>
    obtain ⟨k, hk, hl, hr⟩ := h
    have HC := Lib.hid (intR_any s k hs hk)
    rw [← hl] at HC
    have Hr := Lib.hid hr
    have HSo : Hid (∀ y, Gr w y → TxS bt s k y) := Lib.hid (fun y hg => ⟨(row3 (hg.block hr)).1, (row3 (hg.block hr)).2.1⟩)
    have hblt : bt < w.heap.size := (Array.getElem?_eq_some_iff.1 hr).1
    obtain ⟨B, nx, vv, hV, hT⟩ : ∃ (B : Bool) (nx : Int) (vv : Int), intV s.size (rdI l) = .tuple #[.int .i64 vv, .int .i64 nx, .int .i64 (if B then 0 else 10)] ∧ (vv = numN (some l) ∧ ∀ y, y.heap[bt]? = some (.cells #[.string s, .int .i64 nx, .bool B] 104 (0, 0)) → TxR bt s (numS (some l)) y) := by
      cases hd : rdI l with
      | none => exact ⟨false, 0, 0, rfl, by unfold numN; simp [hd], fun y hy => by
          have e : numS (some l) = none := by unfold numS; simp [hd]
          rw [e]; exact ⟨0, hy⟩⟩
      | some q =>
        obtain ⟨n, r⟩ := q
        have hd2 := hd
        rw [hl] at hd2
        obtain ⟨r1, r2, r3⟩ := rdI_rest hd2
        refine ⟨true, ((s.size - r.length : Nat) : Int), n, rfl, by unfold numN; simp [hd], fun y hy => ?_⟩
        have e : numS (some l) = some r := by unfold numS; simp [hd]
        rw [e]
        exact ⟨s.size - r.length, Nat.sub_le _ _, r3, hy⟩
    rw [hV] at HC
    obtain ⟨cd, hcd⟩ : ∃ c : Int, (if B then 0 else 10) = c := ⟨_, rfl⟩
    rw [hcd] at HC
    have tB : (cd == 0) = B := by rw [← hcd]; cases B <;> rfl
    have HT := Lib.hid hT
    have Hb := Lib.hid hblt
    clear hT hV hcd hr hl hk hblt
    obtain ⟨m0, m1, m2⟩ := row3 Hr.out
    go_enter Tryz.func72, Tryz.ntmps72
    go_upto_region 3 with fail
    clear m0 m1 m2
    have hS0 := HSo.out w.drew (Gr.drew w)
    refine u_begin (TxS bt s k) (fun _ => false) (by kernel_rfl) (by assumption) (fun hHeld => ?_)
    have HGz := Gr.drew w
    generalize w.drew = wz at HGz hHeld hS0 ⊢
    refine u_take 0 (v := ?_) rfl rfl (by kernel_rfl) (by kernel_rfl) (by kernel_rfl) (by kernel_rfl) (fun _ _ _ h => h) (by rfl) (by assumption) ?_ ?_
    rotate_left
    · (intro w hSw; (try dsimp only at hSw); go_simp; try with_reducible rfl)
    try simp only [Act.put, List.setIfInBounds_toArray, List.set_cons_zero, List.set_cons_succ]
    refine u_take 1 (v := ?_) rfl rfl (by kernel_rfl) (by kernel_rfl) (by kernel_rfl) (by kernel_rfl) (fun _ _ _ h => h) (by rfl) (by assumption) ?_ ?_
    rotate_left
    · (intro w hSw; (try dsimp only at hSw); go_simp; try with_reducible rfl)
    try simp only [Act.put, List.setIfInBounds_toArray, List.set_cons_zero, List.set_cons_succ]
    refine u_take 2 (v := ?_) rfl rfl (by kernel_rfl) (by kernel_rfl) (by kernel_rfl) (by kernel_rfl) (fun _ _ _ h => h) (by rfl) (by assumption) ?_ ?_
    rotate_left
    · (intro w hSw; (try dsimp only at hSw); go_simp; try with_reducible rfl)
    try simp only [Act.put, List.setIfInBounds_toArray, List.set_cons_zero, List.set_cons_succ]
    refine u_take 3 (v := ?_) rfl rfl (by kernel_rfl) (by kernel_rfl) (by kernel_rfl) (by kernel_rfl) (fun _ _ _ h => h) (by rfl) (by assumption) ?_ ?_
    rotate_left
    · (intro w hSw; obtain ⟨z0, z1⟩ := hSw; go_simp; try with_reducible rfl)
    try simp only [Act.put, List.setIfInBounds_toArray, List.set_cons_zero, List.set_cons_succ]
    refine u_take 4 (v := ?_) rfl rfl (by kernel_rfl) (by kernel_rfl) (by kernel_rfl) (by kernel_rfl) (fun _ _ _ h => h) (by rfl) (by assumption) ?_ ?_
    rotate_left
    · (intro w hSw; (try dsimp only at hSw); go_simp; try with_reducible rfl)
    try simp only [Act.put, List.setIfInBounds_toArray, List.set_cons_zero, List.set_cons_succ]
    refine u_take 5 (v := ?_) rfl rfl (by kernel_rfl) (by kernel_rfl) (by kernel_rfl) (by kernel_rfl) (fun _ _ _ h => h) (by rfl) (by assumption) ?_ ?_
    rotate_left
    · (intro w hSw; (try dsimp only at hSw); go_simp; try with_reducible rfl)
    try simp only [Act.put, List.setIfInBounds_toArray, List.set_cons_zero, List.set_cons_succ]
    refine u_take 6 (v := ?_) rfl rfl (by kernel_rfl) (by kernel_rfl) (by kernel_rfl) (by kernel_rfl) (fun _ _ _ h => h) (by rfl) (by assumption) ?_ ?_
    rotate_left
    · (intro w hSw; (try dsimp only at hSw); go_simp; try with_reducible rfl)
    try simp only [Act.put, List.setIfInBounds_toArray, List.set_cons_zero, List.set_cons_succ]
    refine u_take 7 (v := ?_) rfl rfl (by kernel_rfl) (by kernel_rfl) (by kernel_rfl) (by kernel_rfl) (fun _ _ _ h => h) (by rfl) (by assumption) ?_ ?_
    rotate_left
    · (intro w hSw; obtain ⟨z0, z1⟩ := hSw; go_simp; try with_reducible rfl)
    try simp only [Act.put, List.setIfInBounds_toArray, List.set_cons_zero, List.set_cons_succ]
    refine u_step 8 (by kernel_rfl) rfl (by rfl) ?_
    go_simp
    refine (HC.out wz).mono ?_
    rintro e w1 ⟨rfl, hg⟩
    have hg1 := HGz.trans hg
    refine .inl ⟨_, rfl, HSo.out _ hg1, ?_⟩
    try simp only [Act.put, List.setIfInBounds_toArray, List.set_cons_zero, List.set_cons_succ]
    replace hHeld := HSo.out _ hg1
    clear hS0
    refine u_take 9 (v := ?_) rfl rfl (by kernel_rfl) (by kernel_rfl) (by kernel_rfl) (by kernel_rfl) (fun _ _ _ h => h) (by rfl) (by assumption) ?_ ?_
    rotate_left
    · (intro w hSw; (try dsimp only at hSw); go_simp; try with_reducible rfl)
    try simp only [Act.put, List.setIfInBounds_toArray, List.set_cons_zero, List.set_cons_succ]
    refine u_take 10 (v := ?_) rfl rfl (by kernel_rfl) (by kernel_rfl) (by kernel_rfl) (by kernel_rfl) (fun _ _ _ h => h) (by rfl) (by assumption) ?_ ?_
    rotate_left
    · (intro w hSw; (try dsimp only at hSw); go_simp; try with_reducible rfl)
    try simp only [Act.put, List.setIfInBounds_toArray, List.set_cons_zero, List.set_cons_succ]
    refine u_take 11 (v := ?_) rfl rfl (by kernel_rfl) (by kernel_rfl) (by kernel_rfl) (by kernel_rfl) (fun _ _ _ h => h) (by rfl) (by assumption) ?_ ?_
    rotate_left
    · (intro w hSw; (try dsimp only at hSw); go_simp; try with_reducible rfl)
    try simp only [Act.put, List.setIfInBounds_toArray, List.set_cons_zero, List.set_cons_succ]
    refine u_take 12 (v := ?_) rfl rfl (by kernel_rfl) (by kernel_rfl) (by kernel_rfl) (by kernel_rfl) (fun _ _ _ h => h) (by rfl) (by assumption) ?_ ?_
    rotate_left
    · (intro w hSw; (try dsimp only at hSw); go_simp; try with_reducible rfl)
    try simp only [Act.put, List.setIfInBounds_toArray, List.set_cons_zero, List.set_cons_succ]
    refine u_take 13 (v := ?_) rfl rfl (by kernel_rfl) (by kernel_rfl) (by kernel_rfl) (by kernel_rfl) (fun _ _ _ h => h) (by rfl) (by assumption) ?_ ?_
    rotate_left
    · (intro w hSw; (try dsimp only at hSw); go_simp; try with_reducible rfl)
    try simp only [Act.put, List.setIfInBounds_toArray, List.set_cons_zero, List.set_cons_succ]
    refine u_take 14 (v := ?_) rfl rfl (by kernel_rfl) (by kernel_rfl) (by kernel_rfl) (by kernel_rfl) (fun _ _ _ h => h) (by rfl) (by assumption) ?_ ?_
    rotate_left
    · (intro w hSw; (try dsimp only at hSw); go_simp; try with_reducible rfl)
    try simp only [Act.put, List.setIfInBounds_toArray, List.set_cons_zero, List.set_cons_succ]
    refine u_take 15 (v := ?_) rfl rfl (by kernel_rfl) (by kernel_rfl) (by kernel_rfl) (by kernel_rfl) (fun _ _ _ h => h) (by rfl) (by assumption) ?_ ?_
    rotate_left
    · (intro w hSw; (try dsimp only at hSw); go_simp; try with_reducible rfl)
    try simp only [Act.put, List.setIfInBounds_toArray, List.set_cons_zero, List.set_cons_succ]
    refine u_done (by kernel_rfl) ?_ _
    have HG1 := Lib.hid hg1
    have Hr1 := Lib.hid (hg1.block Hr.out)
    clear hHeld hg HGz hg1 HC HSo Hr
    obtain ⟨m0, m1, m2⟩ := row3 Hr1.out
    obtain ⟨f0, f1, f2⟩ := frozen3 Hr1.out
    go_upto_region 5 with fail
    clear m0 m1 m2 f0 f1 f2
    have hr2 : (w1.setCell ⟨bt, 2, none⟩ (.bool B)).heap[bt]? = some (.cells #[.string s, .int .i64 (k : Int), .bool B] 104 (0, 0)) := by
      rw [heap_setCell_same w1 bt 2 _ _ (.bool B) Hr1.out]; rfl
    have hc2 : Chg (some bt) w1 (w1.setCell ⟨bt, 2, none⟩ (.bool B)) := setCells_chg bt [.bool B] 2 w1
    generalize w1.setCell ⟨bt, 2, none⟩ (.bool B) = w2 at hr2 hc2 ⊢
    have Hr2 := Lib.hid hr2
    have Hc2 := Lib.hid ((Chg.of_gr HG1.out).trans hc2)
    clear hr2 hc2 HG1 Hr1
    obtain ⟨m0, m1, m2⟩ := row3 Hr2.out
    obtain ⟨f0, f1, f2⟩ := frozen3 Hr2.out
    go_upto_region 6 with fail
    clear m0 m1 m2 f0 f1 f2
    have hr3 : (w2.setCell ⟨bt, 1, none⟩ (.int .i64 nx)).heap[bt]? = some (.cells #[.string s, .int .i64 nx, .bool B] 104 (0, 0)) := by
      rw [heap_setCell_same w2 bt 1 _ _ (.int .i64 nx) Hr2.out]; rfl
    have hc3 : Chg (some bt) w2 (w2.setCell ⟨bt, 1, none⟩ (.int .i64 nx)) := setCells_chg bt [.int .i64 nx] 1 w2
    generalize w2.setCell ⟨bt, 1, none⟩ (.int .i64 nx) = w3 at hr3 hc3 ⊢
    have Hz := Lib.hid (And.intro (HT.out.2 w3 hr3) (Hc2.out.trans hc3))
    have Hv := Lib.hid HT.out.1
    clear hr3 hc3 Hr2 Hc2 HT
    go_wp2_with fail
    go_ret
    exact ⟨by rw [← Hv.out]; rfl, Hz.out.1, Hz.out.2⟩
set_option maxRecDepth 100000 in
set_option maxHeartbeats 2000000 in
theorem text14_any (bt : Nat) (s : ByteArray) (st : Option (List UInt8)) (w : World) (hs : s.size ≤ 9223372036854775000) (h : TxR bt s st w) :
    Calls Tryz.prog 73 #[.pointer (some ⟨bt, 0, none⟩)] w fun e w' => e = .returned (.string (txtN st)) ∧ TxR bt s (txtS st) w' ∧ Chg (some bt) w w' := by
  cases st with
  | none =>
    obtain ⟨a, hr⟩ := h
    obtain ⟨m0, m1, m2⟩ := row3 hr
    have Hr := Lib.hid hr
    clear hr
    go_enter Tryz.func73, Tryz.ntmps73
    go_wp2_with fail
    go_ret
    exact ⟨rfl, ⟨a, Hr.out⟩, Chg.of_gr (Gr.refl _)⟩
  | some l =>
    obtain ⟨k, hk, hl, hr⟩ := h
    have HC := Lib.hid (stringR_any s k hs hk)
    rw [← hl] at HC
    have Hr := Lib.hid hr
    have HSo : Hid (∀ y, Gr w y → TxS bt s k y) := Lib.hid (fun y hg => ⟨(row3 (hg.block hr)).1, (row3 (hg.block hr)).2.1⟩)
    have hblt : bt < w.heap.size := (Array.getElem?_eq_some_iff.1 hr).1
    obtain ⟨B, nx, vv, hV, hT⟩ : ∃ (B : Bool) (nx : Int) (vv : ByteArray), txtV s.size (rdS l) = .tuple #[.string vv, .int .i64 nx, .int .i64 (if B then 0 else 10)] ∧ (vv = txtN (some l) ∧ ∀ y, y.heap[bt]? = some (.cells #[.string s, .int .i64 nx, .bool B] 104 (0, 0)) → TxR bt s (txtS (some l)) y) := by
      cases hd : rdS l with
      | none => exact ⟨false, 0, ⟨#[]⟩, rfl, by unfold txtN; simp [hd], fun y hy => by
          have e : txtS (some l) = none := by unfold txtS; simp [hd]
          rw [e]; exact ⟨0, hy⟩⟩
      | some q =>
        obtain ⟨n, r⟩ := q
        have hd2 := hd
        rw [hl] at hd2
        obtain ⟨r1, r2, r3⟩ := rdS_rest hd2
        refine ⟨true, ((s.size - r.length : Nat) : Int), n, rfl, by unfold txtN; simp [hd], fun y hy => ?_⟩
        have e : txtS (some l) = some r := by unfold txtS; simp [hd]
        rw [e]
        exact ⟨s.size - r.length, Nat.sub_le _ _, r3, hy⟩
    rw [hV] at HC
    obtain ⟨cd, hcd⟩ : ∃ c : Int, (if B then 0 else 10) = c := ⟨_, rfl⟩
    rw [hcd] at HC
    have tB : (cd == 0) = B := by rw [← hcd]; cases B <;> rfl
    have HT := Lib.hid hT
    have Hb := Lib.hid hblt
    clear hT hV hcd hr hl hk hblt
    obtain ⟨m0, m1, m2⟩ := row3 Hr.out
    go_enter Tryz.func73, Tryz.ntmps73
    go_upto_region 3 with fail
    clear m0 m1 m2
    have hS0 := HSo.out w.drew (Gr.drew w)
    refine u_begin (TxS bt s k) (fun _ => false) (by kernel_rfl) (by assumption) (fun hHeld => ?_)
    have HGz := Gr.drew w
    generalize w.drew = wz at HGz hHeld hS0 ⊢
    refine u_take 0 (v := ?_) rfl rfl (by kernel_rfl) (by kernel_rfl) (by kernel_rfl) (by kernel_rfl) (fun _ _ _ h => h) (by rfl) (by assumption) ?_ ?_
    rotate_left
    · (intro w hSw; (try dsimp only at hSw); go_simp; try with_reducible rfl)
    try simp only [Act.put, List.setIfInBounds_toArray, List.set_cons_zero, List.set_cons_succ]
    refine u_take 1 (v := ?_) rfl rfl (by kernel_rfl) (by kernel_rfl) (by kernel_rfl) (by kernel_rfl) (fun _ _ _ h => h) (by rfl) (by assumption) ?_ ?_
    rotate_left
    · (intro w hSw; (try dsimp only at hSw); go_simp; try with_reducible rfl)
    try simp only [Act.put, List.setIfInBounds_toArray, List.set_cons_zero, List.set_cons_succ]
    refine u_take 2 (v := ?_) rfl rfl (by kernel_rfl) (by kernel_rfl) (by kernel_rfl) (by kernel_rfl) (fun _ _ _ h => h) (by rfl) (by assumption) ?_ ?_
    rotate_left
    · (intro w hSw; (try dsimp only at hSw); go_simp; try with_reducible rfl)
    try simp only [Act.put, List.setIfInBounds_toArray, List.set_cons_zero, List.set_cons_succ]
    refine u_take 3 (v := ?_) rfl rfl (by kernel_rfl) (by kernel_rfl) (by kernel_rfl) (by kernel_rfl) (fun _ _ _ h => h) (by rfl) (by assumption) ?_ ?_
    rotate_left
    · (intro w hSw; obtain ⟨z0, z1⟩ := hSw; go_simp; try with_reducible rfl)
    try simp only [Act.put, List.setIfInBounds_toArray, List.set_cons_zero, List.set_cons_succ]
    refine u_take 4 (v := ?_) rfl rfl (by kernel_rfl) (by kernel_rfl) (by kernel_rfl) (by kernel_rfl) (fun _ _ _ h => h) (by rfl) (by assumption) ?_ ?_
    rotate_left
    · (intro w hSw; (try dsimp only at hSw); go_simp; try with_reducible rfl)
    try simp only [Act.put, List.setIfInBounds_toArray, List.set_cons_zero, List.set_cons_succ]
    refine u_take 5 (v := ?_) rfl rfl (by kernel_rfl) (by kernel_rfl) (by kernel_rfl) (by kernel_rfl) (fun _ _ _ h => h) (by rfl) (by assumption) ?_ ?_
    rotate_left
    · (intro w hSw; (try dsimp only at hSw); go_simp; try with_reducible rfl)
    try simp only [Act.put, List.setIfInBounds_toArray, List.set_cons_zero, List.set_cons_succ]
    refine u_take 6 (v := ?_) rfl rfl (by kernel_rfl) (by kernel_rfl) (by kernel_rfl) (by kernel_rfl) (fun _ _ _ h => h) (by rfl) (by assumption) ?_ ?_
    rotate_left
    · (intro w hSw; (try dsimp only at hSw); go_simp; try with_reducible rfl)
    try simp only [Act.put, List.setIfInBounds_toArray, List.set_cons_zero, List.set_cons_succ]
    refine u_take 7 (v := ?_) rfl rfl (by kernel_rfl) (by kernel_rfl) (by kernel_rfl) (by kernel_rfl) (fun _ _ _ h => h) (by rfl) (by assumption) ?_ ?_
    rotate_left
    · (intro w hSw; obtain ⟨z0, z1⟩ := hSw; go_simp; try with_reducible rfl)
    try simp only [Act.put, List.setIfInBounds_toArray, List.set_cons_zero, List.set_cons_succ]
    refine u_step 8 (by kernel_rfl) rfl (by rfl) ?_
    go_simp
    refine (HC.out wz).mono ?_
    rintro e w1 ⟨rfl, hg⟩
    have hg1 := HGz.trans hg
    refine .inl ⟨_, rfl, HSo.out _ hg1, ?_⟩
    try simp only [Act.put, List.setIfInBounds_toArray, List.set_cons_zero, List.set_cons_succ]
    replace hHeld := HSo.out _ hg1
    clear hS0
    refine u_take 9 (v := ?_) rfl rfl (by kernel_rfl) (by kernel_rfl) (by kernel_rfl) (by kernel_rfl) (fun _ _ _ h => h) (by rfl) (by assumption) ?_ ?_
    rotate_left
    · (intro w hSw; (try dsimp only at hSw); go_simp; try with_reducible rfl)
    try simp only [Act.put, List.setIfInBounds_toArray, List.set_cons_zero, List.set_cons_succ]
    refine u_take 10 (v := ?_) rfl rfl (by kernel_rfl) (by kernel_rfl) (by kernel_rfl) (by kernel_rfl) (fun _ _ _ h => h) (by rfl) (by assumption) ?_ ?_
    rotate_left
    · (intro w hSw; (try dsimp only at hSw); go_simp; try with_reducible rfl)
    try simp only [Act.put, List.setIfInBounds_toArray, List.set_cons_zero, List.set_cons_succ]
    refine u_take 11 (v := ?_) rfl rfl (by kernel_rfl) (by kernel_rfl) (by kernel_rfl) (by kernel_rfl) (fun _ _ _ h => h) (by rfl) (by assumption) ?_ ?_
    rotate_left
    · (intro w hSw; (try dsimp only at hSw); go_simp; try with_reducible rfl)
    try simp only [Act.put, List.setIfInBounds_toArray, List.set_cons_zero, List.set_cons_succ]
    refine u_take 12 (v := ?_) rfl rfl (by kernel_rfl) (by kernel_rfl) (by kernel_rfl) (by kernel_rfl) (fun _ _ _ h => h) (by rfl) (by assumption) ?_ ?_
    rotate_left
    · (intro w hSw; (try dsimp only at hSw); go_simp; try with_reducible rfl)
    try simp only [Act.put, List.setIfInBounds_toArray, List.set_cons_zero, List.set_cons_succ]
    refine u_take 13 (v := ?_) rfl rfl (by kernel_rfl) (by kernel_rfl) (by kernel_rfl) (by kernel_rfl) (fun _ _ _ h => h) (by rfl) (by assumption) ?_ ?_
    rotate_left
    · (intro w hSw; (try dsimp only at hSw); go_simp; try with_reducible rfl)
    try simp only [Act.put, List.setIfInBounds_toArray, List.set_cons_zero, List.set_cons_succ]
    refine u_take 14 (v := ?_) rfl rfl (by kernel_rfl) (by kernel_rfl) (by kernel_rfl) (by kernel_rfl) (fun _ _ _ h => h) (by rfl) (by assumption) ?_ ?_
    rotate_left
    · (intro w hSw; (try dsimp only at hSw); go_simp; try with_reducible rfl)
    try simp only [Act.put, List.setIfInBounds_toArray, List.set_cons_zero, List.set_cons_succ]
    refine u_take 15 (v := ?_) rfl rfl (by kernel_rfl) (by kernel_rfl) (by kernel_rfl) (by kernel_rfl) (fun _ _ _ h => h) (by rfl) (by assumption) ?_ ?_
    rotate_left
    · (intro w hSw; (try dsimp only at hSw); go_simp; try with_reducible rfl)
    try simp only [Act.put, List.setIfInBounds_toArray, List.set_cons_zero, List.set_cons_succ]
    refine u_done (by kernel_rfl) ?_ _
    have HG1 := Lib.hid hg1
    have Hr1 := Lib.hid (hg1.block Hr.out)
    clear hHeld hg HGz hg1 HC HSo Hr
    obtain ⟨m0, m1, m2⟩ := row3 Hr1.out
    obtain ⟨f0, f1, f2⟩ := frozen3 Hr1.out
    go_upto_region 5 with fail
    clear m0 m1 m2 f0 f1 f2
    have hr2 : (w1.setCell ⟨bt, 2, none⟩ (.bool B)).heap[bt]? = some (.cells #[.string s, .int .i64 (k : Int), .bool B] 104 (0, 0)) := by
      rw [heap_setCell_same w1 bt 2 _ _ (.bool B) Hr1.out]; rfl
    have hc2 : Chg (some bt) w1 (w1.setCell ⟨bt, 2, none⟩ (.bool B)) := setCells_chg bt [.bool B] 2 w1
    generalize w1.setCell ⟨bt, 2, none⟩ (.bool B) = w2 at hr2 hc2 ⊢
    have Hr2 := Lib.hid hr2
    have Hc2 := Lib.hid ((Chg.of_gr HG1.out).trans hc2)
    clear hr2 hc2 HG1 Hr1
    obtain ⟨m0, m1, m2⟩ := row3 Hr2.out
    obtain ⟨f0, f1, f2⟩ := frozen3 Hr2.out
    go_upto_region 6 with fail
    clear m0 m1 m2 f0 f1 f2
    have hr3 : (w2.setCell ⟨bt, 1, none⟩ (.int .i64 nx)).heap[bt]? = some (.cells #[.string s, .int .i64 nx, .bool B] 104 (0, 0)) := by
      rw [heap_setCell_same w2 bt 1 _ _ (.int .i64 nx) Hr2.out]; rfl
    have hc3 : Chg (some bt) w2 (w2.setCell ⟨bt, 1, none⟩ (.int .i64 nx)) := setCells_chg bt [.int .i64 nx] 1 w2
    generalize w2.setCell ⟨bt, 1, none⟩ (.int .i64 nx) = w3 at hr3 hc3 ⊢
    have Hz := Lib.hid (And.intro (HT.out.2 w3 hr3) (Hc2.out.trans hc3))
    have Hv := Lib.hid HT.out.1
    clear hr3 hc3 Hr2 Hc2 HT
    go_wp2_with fail
    go_ret
    exact ⟨by rw [← Hv.out]; rfl, Hz.out.1, Hz.out.2⟩
end
section
open Go Go.RowKit Go.Shelf
attribute [local go_sem] gAt gUpon
attribute [local simp] Gr.refl Gr.alloc

theorem numS_none : numS none = none := rfl
theorem txtS_none : txtS none = none := rfl
/-- the head, number by number -/
theorem rdH_steps (l : List UInt8) : rdH l = (numS (numS (numS (some l)))).map fun r => ((numN (some l), numN (numS (some l)), numN (numS (numS (some l)))), r) := by
  unfold rdH numS numN
  cases h1 : rdI l with
  | none => simp [h1]
  | some p =>
    obtain ⟨a, l1⟩ := p
    cases h2 : rdI l1 with
    | none => simp [h1, h2]
    | some p =>
      obtain ⟨b, l2⟩ := p
      cases h3 : rdI l2 with
      | none => simp [h1, h2, h3]
      | some p => simp [h1, h2, h3]
/-- an entry as the reference reads it -/
def entN (st : Option (List UInt8)) : En := ⟨txtN st, numN (txtS st), numN (numS (txtS st)), txtN (numS (numS (txtS st)))⟩
def entS (st : Option (List UInt8)) : Option (List UInt8) := txtS (numS (numS (txtS st)))
theorem rdE_steps (l : List UInt8) : rdE l = (entS (some l)).map fun r => (entN (some l), r) := by
  unfold rdE entS entN numS numN txtS txtN
  cases h1 : rdS l with
  | none => simp [h1]
  | some p =>
    obtain ⟨a, l1⟩ := p
    cases h2 : rdI l1 with
    | none => simp [h1, h2]
    | some p =>
      obtain ⟨b, l2⟩ := p
      cases h3 : rdI l2 with
      | none => simp [h1, h2, h3]
      | some p =>
        obtain ⟨c, l3⟩ := p
        cases h4 : rdS l3 with
        | none => simp [h1, h2, h3, h4]
        | some p => simp [h1, h2, h3, h4]
theorem txtN_size (st : Option (List UInt8)) : (txtN st).size ≤ 65536 := by
  unfold txtN
  cases st with
  | none => decide
  | some l =>
    cases h : rdS l with
    | none => simp [h]; decide
    | some p => obtain ⟨x, r⟩ := p; simp [h]; exact (rdS_inv h).1
/-- what is still to be read of n entries -/
def rdRel (n : Nat) (r0 : List UInt8) (k : Nat) (st : Option (List UInt8)) (G : List En) : Prop := rdEs n r0 = match st with
  | some l => (rdEs (n - k) l).map fun p => (G ++ p.1, p.2)
  | none => none
theorem rdRel_step {n k : Nat} {r0 : List UInt8} {st : Option (List UInt8)} {G : List En} (h : rdRel n r0 k st G) (hk : k < n) : rdRel n r0 (k + 1) (entS st) (G ++ [entN st]) := by
  unfold rdRel at *
  cases st with
  | none => exact h
  | some l =>
    rw [h]
    simp only
    rw [show n - k = (n - (k + 1)) + 1 by omega, rdEs, rdE_steps]
    cases he : entS (some l) with
    | none => simp
    | some r =>
      simp only [Option.map_some]
      cases rdEs (n - (k + 1)) r with
      | none => rfl
      | some p => simp
theorem rdRel_end {n : Nat} {r0 : List UInt8} {st : Option (List UInt8)} {G : List En} (h : rdRel n r0 n st G) : rdEs n r0 = st.map fun l => (G, l) := by
  unfold rdRel at h
  rw [h]
  cases st with
  | none => rfl
  | some l => simp [rdEs]
/-- the state of the reference's Decode -/
structure DecAt (w0 : World) (b0 bt bp : Nat) (s : ByteArray) (st : Option (List UInt8)) (a b : Int) (V : Value) (k : Nat) (G : List En) (w : World) : Prop where
  g : Gr w0 w
  z : w0.heap.size = b0
  e1 : bt = b0 + 1
  e2 : bp = b0 + 2
  lt : b0 + 3 ≤ w.heap.size
  r : w.heap[b0]? = some (.cells #[.int .i64 0, .int .i64 0, .slice none 0 0] 24 (0, 0))
  t : TxR bt s st w
  p : w.heap[bp]? = some (.cells #[.int .i64 a, .int .i64 b, V] 24 (0, 0))
  o : Own (b0 + 3) 4 V k (G.flatMap enC) w
  ob : ∀ g, V.ownBlock = some g → g < w.heap.size
theorem TxR.keep {bt : Nat} {s : ByteArray} {st : Option (List UInt8)} {w x : World} (h : TxR bt s st w) (hk : ∀ o, w.heap[bt]? = some o → x.heap[bt]? = some o) : TxR bt s st x := by
  cases st with
  | none => obtain ⟨a, h⟩ := h; exact ⟨a, hk _ h⟩
  | some l => obtain ⟨k, h1, h2, h3⟩ := h; exact ⟨k, h1, h2, hk _ h3⟩
section
variable {w0 : World} {b0 bt bp : Nat} {s : ByteArray} {st st' : Option (List UInt8)} {a b a' b' : Int} {V : Value} {k : Nat} {G : List En} {w x : World}
theorem DecAt.gStep (h : DecAt w0 b0 bt bp s st a b V k G w) {j : Nat} (hc : Chg (some j) w x) (hj : b0 ≤ j) : Gr w0 x := gr_step h.g (Gr.refl _) hc (fun g e => by cases e; have := h.z; omega)
theorem DecAt.read (h : DecAt w0 b0 bt bp s st a b V k G w) (hc : Chg (some bt) w x) (ht : TxR bt s st' x) : DecAt w0 b0 bt bp s st' a b V k G x := by
  have e1 := h.e1
  have e2 := h.e2
  exact ⟨h.gStep hc (by omega), h.z, e1, e2, Nat.le_trans h.lt hc.size, hc.block h.r (by simp; omega), ht, hc.block h.p (by simp; omega), h.o.keep hc (.inr (fun e => by have := h.o.ge e; omega)), fun g e => Nat.lt_of_lt_of_le (h.ob g e) hc.size⟩
theorem DecAt.other (h : DecAt w0 b0 bt bp s st a b V k G w) {j : Nat} (hc : Chg (some j) w x) (hj : b0 + 3 ≤ j) (hv : V.ownBlock ≠ some j) : DecAt w0 b0 bt bp s st a b V k G x := by
  have e1 := h.e1
  have e2 := h.e2
  exact ⟨h.gStep hc (by omega), h.z, e1, e2, Nat.le_trans h.lt hc.size, hc.block h.r (by simp; omega), h.t.keep (fun _ ho => hc.block ho (by simp; omega)), hc.block h.p (by simp; omega), h.o.keep hc (.inr hv), fun g e => Nat.lt_of_lt_of_le (h.ob g e) hc.size⟩
theorem DecAt.gr (h : DecAt w0 b0 bt bp s st a b V k G w) (hg : Gr w x) : DecAt w0 b0 bt bp s st a b V k G x :=
  ⟨h.g.trans hg, h.z, h.e1, h.e2, Nat.le_trans h.lt hg.size, hg.block h.r, h.t.keep (fun _ ho => hg.block ho), hg.block h.p, h.o.gr hg, fun g e => Nat.lt_of_lt_of_le (h.ob g e) hg.size⟩
theorem DecAt.setP (h : DecAt w0 b0 bt bp s st a b V k G w) (hc : Chg (some bp) w x) (hp : x.heap[bp]? = some (.cells #[.int .i64 a', .int .i64 b', V] 24 (0, 0))) : DecAt w0 b0 bt bp s st a' b' V k G x := by
  have e1 := h.e1
  have e2 := h.e2
  exact ⟨h.gStep hc (by omega), h.z, e1, e2, Nat.le_trans h.lt hc.size, hc.block h.r (by simp; omega), h.t.keep (fun _ ho => hc.block ho (by simp; omega)), hp, h.o.keep hc (.inr (fun e => by have := h.o.ge e; omega)), fun g e => Nat.lt_of_lt_of_le (h.ob g e) hc.size⟩
end
set_option maxRecDepth 100000 in
set_option maxHeartbeats 4000000 in
theorem decodeR_any (s : ByteArray) (w : World) (hs : s.size ≤ 9223372036854775000) :
    Calls Tryz.prog 37 #[.string s] w (DcRes w (decL s.data.toList)) := by
  obtain ⟨iE, hiE, hzE, hszE, hbE⟩ := info_parts infoEn
  have HI := Lib.hid hiE
  have HI0 := Lib.hid hzE
  have HI1 := Lib.hid hszE
  have HI2 := Lib.hid hbE
  obtain ⟨O, hO⟩ : ∃ O, decL s.data.toList = O := ⟨_, rfl⟩
  rw [hO]
  have HOd := Lib.hid hO
  have HNu := Lib.hid (fun (bt : Nat) (st : Option (List UInt8)) (y : World) (h : TxR bt s st y) => number14_any bt s st y hs h)
  have HTx := Lib.hid (fun (bt : Nat) (st : Option (List UInt8)) (y : World) (h : TxR bt s st y) => text14_any bt s st y hs h)
  clear hiE hzE hszE hbE hO
  go_enter Tryz.func37, Tryz.ntmps37
  go_upto_region 3 with fail
  obtain ⟨b0, hb0⟩ : ∃ b, w.heap.size = b := ⟨_, rfl⟩
  have hX : ∃ W, ((w.alloc (.cells #[.int .i64 0, .int .i64 0, .slice none 0 0] 24)).alloc (.cells #[.string s, .int .i64 0, .bool true] 104)).alloc (.cells #[.int .i64 0, .int .i64 0, .slice none 0 0] 24) = W ∧ DecAt w b0 (b0 + 1) (b0 + 1 + 1) s (some s.data.toList) 0 0 (.slice none 0 0) 0 [] W := by
    refine ⟨_, rfl, ((Gr.alloc _ _).trans (Gr.alloc _ _)).trans (Gr.alloc _ _), hb0, rfl, rfl, by rw [World.size_alloc, World.size_alloc, World.size_alloc, hb0]; exact Nat.le_refl _, ?_, ⟨0, Nat.zero_le _, rfl, ?_⟩, ?_, Own.nil _ _ _, fun g e => by cases e⟩
    · rw [← hb0]; exact (Gr.alloc _ _).block ((Gr.alloc _ _).block (heap_alloc_new _ _))
    · rw [← hb0]
      have := (Gr.alloc ((w.alloc (.cells #[.int .i64 0, .int .i64 0, .slice none 0 0] 24)).alloc (.cells #[.string s, .int .i64 0, .bool true] 104)) (.cells #[.int .i64 0, .int .i64 0, .slice none 0 0] 24)).block (heap_alloc_new (w.alloc (.cells #[.int .i64 0, .int .i64 0, .slice none 0 0] 24)) (.cells #[.string s, .int .i64 0, .bool true] 104))
      rw [World.size_alloc] at this; exact this
    · rw [← hb0]
      have := heap_alloc_new ((w.alloc (.cells #[.int .i64 0, .int .i64 0, .slice none 0 0] 24)).alloc (.cells #[.string s, .int .i64 0, .bool true] 104)) (.cells #[.int .i64 0, .int .i64 0, .slice none 0 0] 24)
      rw [World.size_alloc, World.size_alloc] at this; exact this
  obtain ⟨W0, hW0, hD0⟩ := hX
  rw [hW0]
  simp only [hb0]
  obtain ⟨bt, hbt⟩ : ∃ b, b0 + 1 = b := ⟨_, rfl⟩
  rw [hbt] at hD0
  simp only [hbt]
  obtain ⟨bp, hbp⟩ : ∃ b, bt + 1 = b := ⟨_, rfl⟩
  rw [hbp] at hD0
  simp only [hbp]
  have HD := Lib.hid hD0
  clear hW0 hD0 hb0 hbt hbp
  obtain ⟨st0, hst0⟩ : ∃ z, some s.data.toList = z := ⟨_, rfl⟩
  rw [hst0] at HD
  have HO1 : Hid (O = match (numS (numS (numS st0))).map fun r => ((numN st0, numN (numS st0), numN (numS (numS st0))), r) with
    | none => .error 10
    | some ((a, b, n), r) =>
      if ¬ (1 ≤ n ∧ n ≤ 64) then .error 140
      else
        match rdEs n.toNat r with
        | none => .error 10
        | some (L, t) => if t ≠ [] then .error 10 else if validD a b L = true then .ok (a, b, L) else .error 140) := Lib.hid (by
    rw [← HOd.out, ← hst0, ← rdH_steps]; rfl)
  clear hst0 HOd
  go_wp2_with fail
  refine (HNu.out bt _ W0 HD.out.t).mono ?_
  rintro e w1 ⟨rfl, ht1, hc1⟩
  replace HD := Lib.hid (HD.out.read hc1 ht1)
  clear ht1 hc1
  obtain ⟨a, ha⟩ : ∃ a, numN st0 = a := ⟨_, rfl⟩
  obtain ⟨st1, hst1⟩ : ∃ z, numS st0 = z := ⟨_, rfl⟩
  rw [ha, hst1] at HO1
  rw [hst1] at HD
  rw [ha]
  clear ha hst1
  obtain ⟨m0, m1, m2⟩ := row3 HD.out.p
  obtain ⟨f0, f1, f2⟩ := frozen3 HD.out.p
  go_upto_region 4 with fail
  clear m0 m1 m2 f0 f1 f2
  have hcx : Chg (some bp) w1 (w1.setCell ⟨bp, 0, none⟩ (.int .i64 a)) := setCells_chg bp [.int .i64 a] 0 w1
  replace HD := Lib.hid (HD.out.setP (a' := a) (b' := 0) hcx (by rw [heap_setCell_same w1 bp 0 _ _ (.int .i64 a) HD.out.p]; rfl))
  clear hcx
  generalize w1.setCell ⟨bp, 0, none⟩ (.int .i64 a) = w2 at HD ⊢
  go_wp2_with fail
  refine (HNu.out bt _ w2 HD.out.t).mono ?_
  rintro e w3 ⟨rfl, ht1, hc1⟩
  replace HD := Lib.hid (HD.out.read hc1 ht1)
  clear ht1 hc1
  obtain ⟨b, hb⟩ : ∃ b, numN st1 = b := ⟨_, rfl⟩
  obtain ⟨st2, hst2⟩ : ∃ z, numS st1 = z := ⟨_, rfl⟩
  rw [hb, hst2] at HO1
  rw [hst2] at HD
  rw [hb]
  clear hb hst2
  obtain ⟨m0, m1, m2⟩ := row3 HD.out.p
  obtain ⟨f0, f1, f2⟩ := frozen3 HD.out.p
  go_upto_region 5 with fail
  clear m0 m1 m2 f0 f1 f2
  have hcx : Chg (some bp) w3 (w3.setCell ⟨bp, 1, none⟩ (.int .i64 b)) := setCells_chg bp [.int .i64 b] 1 w3
  replace HD := Lib.hid (HD.out.setP (a' := a) (b' := b) hcx (by rw [heap_setCell_same w3 bp 1 _ _ (.int .i64 b) HD.out.p]; rfl))
  clear hcx
  generalize w3.setCell ⟨bp, 1, none⟩ (.int .i64 b) = w4 at HD ⊢
  go_wp2_with fail
  refine (HNu.out bt _ w4 HD.out.t).mono ?_
  rintro e w5 ⟨rfl, ht1, hc1⟩
  replace HD := Lib.hid (HD.out.read hc1 ht1)
  clear ht1 hc1
  obtain ⟨n, hn⟩ : ∃ n, numN st2 = n := ⟨_, rfl⟩
  obtain ⟨st3, hst3⟩ : ∃ z, numS st2 = z := ⟨_, rfl⟩
  rw [hn, hst3] at HO1
  rw [hst3] at HD
  rw [hn]
  clear hn hst3
  cases st3 with
  | none =>
    obtain ⟨at9, hat⟩ := HD.out.t
    obtain rfl : O = .error 10 := HO1.out
    obtain ⟨k0, k1, k2⟩ := row3 hat
    obtain ⟨m0, m1, m2⟩ := row3 HD.out.r
    obtain ⟨f0, f1, f2⟩ := frozen3 HD.out.r
    clear hat HO1
    go_wp2_with fail
    clear k0 k1 k2
    have hch : Chg (some b0) w5 (((w5.setCell ⟨b0, 0, none⟩ (.int .i64 0)).setCell ⟨b0, 1, none⟩ (.int .i64 0)).setCell ⟨b0, 2, none⟩ (.slice none 0 0)) := setCells_chg b0 [.int .i64 0, .int .i64 0, .slice none 0 0] 0 w5
    have hrow := row_set3 (a' := .int .i64 0) (b' := .int .i64 0) (c' := .slice none 0 0) HD.out.r
    have hGx := HD.out.gStep hch (Nat.le_refl _)
    clear hch m0 m1 m2 f0 f1 f2
    generalize ((w5.setCell ⟨b0, 0, none⟩ (.int .i64 0)).setCell ⟨b0, 1, none⟩ (.int .i64 0)).setCell ⟨b0, 2, none⟩ (.slice none 0 0) = wz at hrow hGx ⊢
    obtain ⟨m0, m1, m2⟩ := row3 hrow
    refine bodyPost_ret (v := .tuple #[.agg #[.int .i64 0, .int .i64 0, .slice none 0 0], .int .i64 10]) ?_ rfl ⟨_, rfl, Own.nil _ _ _, hGx⟩
    simp [results, Tryz.results37, go_sem, m0, m1, m2]
  | some r =>
    obtain ⟨at9, hat9, -, hat⟩ := HD.out.t
    obtain ⟨k0, k1, k2⟩ := row3 hat
    clear hat hat9
    go_wp2_with fail
    clear k0 k1 k2
    refine (withinR_any n 1 64 w5).mono ?_
    rintro e w6 ⟨rfl, rfl⟩
    by_cases hn : 1 ≤ n ∧ n ≤ 64
    · obtain ⟨m, rfl⟩ : ∃ m : Nat, n = (m : Int) := ⟨n.toNat, by omega⟩
      have hm : 1 ≤ m ∧ m ≤ 64 := by omega
      rw [show withinB (m : Int) 1 64 = true from withinB_iff.2 hn]
      have HO2 : Hid (O = match rdEs m r with
        | none => .error 10
        | some (L, t) => if t ≠ [] then .error 10 else if validD a b L = true then .ok (a, b, L) else .error 140) := Lib.hid (by
        rw [HO1.out, Option.map_some]
        simp only
        rw [if_neg (fun h => h hn), Int.toNat_natCast])
      have H0 : Hid (rdRel m r 0 (some r) [] ∧ ([] : List En).length = 0 ∧ ∀ x ∈ ([] : List En), x.path.size ≤ 65536) := Lib.hid ⟨by unfold rdRel; simp, rfl, by simp⟩
      clear HO1 hn
      go_wp2_with fail
      go_loopw [7, 8] (fun v7 v8 W => ∃ (k : Nat) (st : Option (List UInt8)) (V : Value) (G : List En), k ≤ m ∧ v7 = .int .i64 (k : Int) ∧ Hid (rdRel m r k st G ∧ G.length = k ∧ ∀ x ∈ G, x.path.size ≤ 65536) ∧ Hid (DecAt w b0 bt bp s st a b V k G W)) (fun v7 _ _ => m - (intOf v7).toNat)
      case atStart => exact ⟨0, some r, _, [], Nat.zero_le _, rfl, H0, HD⟩
      clear H0 HD
      case round =>
        obtain ⟨k, st, V, G, hk, rfl, HR, HD⟩ := hrel
        by_cases hlt : k < m
        · have ht : decide (k < m) = true := decide_eq_true hlt
          have ht' : decide ((k : Int) < (m : Int)) = true := decide_eq_true (by omega)
          go_upto_region 14 with fail
          obtain ⟨b8, hb8⟩ : ∃ z, wr.heap.size = z := ⟨_, rfl⟩
          have hrow := heap_alloc_new wr (.cells #[.string ⟨#[]⟩, .int .i64 0, .int .i64 0, .string ⟨#[]⟩] 28)
          rw [hb8] at hrow
          simp only [hb8]
          have H8 : Hid (b0 + 3 ≤ b8 ∧ V.ownBlock ≠ some b8) := Lib.hid ⟨by rw [← hb8]; exact HD.out.lt, fun e => by have := HD.out.ob _ e; omega⟩
          replace HD := Lib.hid (HD.out.gr (Gr.alloc wr (.cells #[.string ⟨#[]⟩, .int .i64 0, .int .i64 0, .string ⟨#[]⟩] 28)))
          have HB := Lib.hid hrow
          clear hrow hb8
          generalize wr.alloc (.cells #[.string ⟨#[]⟩, .int .i64 0, .int .i64 0, .string ⟨#[]⟩] 28) = wA at HD HB ⊢
          have HSt := Lib.hid (rdRel_step HR.out.1 hlt)
          unfold entS entN at HSt
          go_wp2_with fail
          refine (HTx.out bt _ wA HD.out.t).mono ?_
          rintro e wAb ⟨rfl, ht1, hc1⟩
          replace HD := Lib.hid (HD.out.read hc1 ht1)
          replace HB := Lib.hid (hc1.block HB.out (by have := H8.out.1; have := HD.out.e1; simp; omega))
          clear ht1 hc1
          obtain ⟨xp, hxp⟩ : ∃ z, txtN st = z := ⟨_, rfl⟩
          obtain ⟨t0, ht0⟩ : ∃ z, txtS st = z := ⟨_, rfl⟩
          have hxps : xp.size ≤ 65536 := by rw [← hxp]; exact txtN_size _
          rw [hxp] at HSt ⊢
          rw [ht0] at HSt HD
          clear hxp ht0
          obtain ⟨m0, m1, m2, m3⟩ := row4 HB.out
          obtain ⟨f0, f1, f2, f3⟩ := frozen4 HB.out
          go_upto_region 15 with fail
          clear m0 m1 m2 m3 f0 f1 f2 f3
          have hcx : Chg (some b8) wAb (wAb.setCell ⟨b8, 0, none⟩ (.string xp)) := setCells_chg b8 [.string xp] 0 wAb
          replace HD := Lib.hid (HD.out.other hcx H8.out.1 H8.out.2)
          replace HB : Hid ((wAb.setCell ⟨b8, 0, none⟩ (.string xp)).heap[b8]? = some (.cells #[.string xp, .int .i64 0, .int .i64 0, .string ⟨#[]⟩] 28 (0, 0))) := Lib.hid (by rw [heap_setCell_same wAb b8 0 _ _ (.string xp) HB.out]; rfl)
          clear hcx
          generalize wAb.setCell ⟨b8, 0, none⟩ (.string xp) = wB at HD HB ⊢
          go_wp2_with fail
          refine (HNu.out bt _ wB HD.out.t).mono ?_
          rintro e wBb ⟨rfl, ht1, hc1⟩
          replace HD := Lib.hid (HD.out.read hc1 ht1)
          replace HB := Lib.hid (hc1.block HB.out (by have := H8.out.1; have := HD.out.e1; simp; omega))
          clear ht1 hc1
          obtain ⟨xf, hxf⟩ : ∃ z, numN t0 = z := ⟨_, rfl⟩
          obtain ⟨t1, ht1⟩ : ∃ z, numS t0 = z := ⟨_, rfl⟩
          skip
          rw [hxf] at HSt ⊢
          rw [ht1] at HSt HD
          clear hxf ht1
          obtain ⟨m0, m1, m2, m3⟩ := row4 HB.out
          obtain ⟨f0, f1, f2, f3⟩ := frozen4 HB.out
          go_upto_region 16 with fail
          clear m0 m1 m2 m3 f0 f1 f2 f3
          have hcx : Chg (some b8) wBb (wBb.setCell ⟨b8, 1, none⟩ (.int .i64 xf)) := setCells_chg b8 [.int .i64 xf] 1 wBb
          replace HD := Lib.hid (HD.out.other hcx H8.out.1 H8.out.2)
          replace HB : Hid ((wBb.setCell ⟨b8, 1, none⟩ (.int .i64 xf)).heap[b8]? = some (.cells #[.string xp, .int .i64 xf, .int .i64 0, .string ⟨#[]⟩] 28 (0, 0))) := Lib.hid (by rw [heap_setCell_same wBb b8 1 _ _ (.int .i64 xf) HB.out]; rfl)
          clear hcx
          generalize wBb.setCell ⟨b8, 1, none⟩ (.int .i64 xf) = wC at HD HB ⊢
          go_wp2_with fail
          refine (HNu.out bt _ wC HD.out.t).mono ?_
          rintro e wCb ⟨rfl, ht1, hc1⟩
          replace HD := Lib.hid (HD.out.read hc1 ht1)
          replace HB := Lib.hid (hc1.block HB.out (by have := H8.out.1; have := HD.out.e1; simp; omega))
          clear ht1 hc1
          obtain ⟨xn, hxn⟩ : ∃ z, numN t1 = z := ⟨_, rfl⟩
          obtain ⟨t2, ht2⟩ : ∃ z, numS t1 = z := ⟨_, rfl⟩
          skip
          rw [hxn] at HSt ⊢
          rw [ht2] at HSt HD
          clear hxn ht2
          obtain ⟨m0, m1, m2, m3⟩ := row4 HB.out
          obtain ⟨f0, f1, f2, f3⟩ := frozen4 HB.out
          go_upto_region 17 with fail
          clear m0 m1 m2 m3 f0 f1 f2 f3
          have hcx : Chg (some b8) wCb (wCb.setCell ⟨b8, 2, none⟩ (.int .i64 xn)) := setCells_chg b8 [.int .i64 xn] 2 wCb
          replace HD := Lib.hid (HD.out.other hcx H8.out.1 H8.out.2)
          replace HB : Hid ((wCb.setCell ⟨b8, 2, none⟩ (.int .i64 xn)).heap[b8]? = some (.cells #[.string xp, .int .i64 xf, .int .i64 xn, .string ⟨#[]⟩] 28 (0, 0))) := Lib.hid (by rw [heap_setCell_same wCb b8 2 _ _ (.int .i64 xn) HB.out]; rfl)
          clear hcx
          generalize wCb.setCell ⟨b8, 2, none⟩ (.int .i64 xn) = wD at HD HB ⊢
          go_wp2_with fail
          refine (HTx.out bt _ wD HD.out.t).mono ?_
          rintro e wDb ⟨rfl, ht1, hc1⟩
          replace HD := Lib.hid (HD.out.read hc1 ht1)
          replace HB := Lib.hid (hc1.block HB.out (by have := H8.out.1; have := HD.out.e1; simp; omega))
          clear ht1 hc1
          obtain ⟨xd, hxd⟩ : ∃ z, txtN t2 = z := ⟨_, rfl⟩
          obtain ⟨t3, ht3⟩ : ∃ z, txtS t2 = z := ⟨_, rfl⟩
          skip
          rw [hxd] at HSt ⊢
          rw [ht3] at HSt HD
          clear hxd ht3
          obtain ⟨m0, m1, m2, m3⟩ := row4 HB.out
          obtain ⟨f0, f1, f2, f3⟩ := frozen4 HB.out
          go_upto_region 18 with fail
          clear m0 m1 m2 m3 f0 f1 f2 f3
          have hcx : Chg (some b8) wDb (wDb.setCell ⟨b8, 3, none⟩ (.string xd)) := setCells_chg b8 [.string xd] 3 wDb
          replace HD := Lib.hid (HD.out.other hcx H8.out.1 H8.out.2)
          replace HB : Hid ((wDb.setCell ⟨b8, 3, none⟩ (.string xd)).heap[b8]? = some (.cells #[.string xp, .int .i64 xf, .int .i64 xn, .string xd] 28 (0, 0))) := Lib.hid (by rw [heap_setCell_same wDb b8 3 _ _ (.string xd) HB.out]; rfl)
          clear hcx
          generalize wDb.setCell ⟨b8, 3, none⟩ (.string xd) = wE at HD HB ⊢
          obtain ⟨m0, m1, m2, m3⟩ := row4 HB.out
          obtain ⟨p0, p1, p2⟩ := row3 HD.out.p
          have hG66 : G.length ≤ 64 := by rw [HR.out.2.1]; omega
          go_wp2_with ((with_reducible show wpList _ _ _ (⟨some 53, _, _, _, _, _⟩ :: _) _ _); refine wpList_append_Own rfl (.tmp 50) (.tmp 52) 22 rfl 28 iE (.agg #[.string ⟨#[]⟩, .int .i64 0, .int .i64 0, .string ⟨#[]⟩]) 4 48 Tryz.underlying22 HI.out HI0.out HI1.out HI2.out rfl (by decide) rfl (HD.out.o.gr (Gr.alloc _ _)) ⟨wE.heap.size, 0, none⟩ 1 1 [.string xp, .int .i64 xf, .int .i64 xn, .string xd] rfl rfl (row_at (heap_alloc_new wE (.cells #[.string xp, .int .i64 xf, .int .i64 xn, .string xd] 28))) (enC_one ⟨xp, xf, xn, xd⟩) (by decide) ?b1 ?b2 (Nat.le_trans HD.out.lt (Gr.alloc _ _).size) ?_)
          case b1 => unfold maxLen; omega
          case b2 => omega
          intro v9 w9 hown hchg _
          clear m0 m1 m2 m3 p0 p1 p2
          have hD2 := HD.out.gr (Gr.alloc wE (.cells #[.string xp, .int .i64 xf, .int .i64 xn, .string xd] 28))
          have hO9 : Own (b0 + 3) 4 v9 (k + 1) ((G ++ [(⟨xp, xf, xn, xd⟩ : En)]).flatMap enC) w9 := by
            rw [List.flatMap_append, List.flatMap_singleton]; exact hown
          have hne : ∀ j, j < b0 + 3 → some j ≠ V.ownBlock := fun j hj e => by have := hD2.o.ge e.symm; omega
          have hP9 := hchg.block hD2.p (hne bp (by have := hD2.e2; omega))
          have hR9 := hchg.block hD2.r (hne b0 (by omega))
          have hT9 := hD2.t.keep (x := w9) (fun _ ho => hchg.block ho (hne bt (by have := hD2.e1; omega)))
          have hG9 : Gr w w9 := gr_step hD2.g (Gr.refl _) hchg (fun g e => by have := hD2.o.ge e; have := hD2.z; omega)
          have hL9 : b0 + 3 ≤ w9.heap.size := Nat.le_trans hD2.lt hchg.size
          obtain ⟨g9, o9, c9, rfl, hg9, -, -⟩ := hO9.shape (Nat.succ_pos k)
          have hgl : g9 < w9.heap.size := by
            have hR := own_rws (l := G ++ [(⟨xp, xf, xn, xd⟩ : En)]) enC_len (v := .slice (some ⟨g9, o9, none⟩) (k + 1) c9) (by rw [List.length_append, HR.out.2.1]; exact hO9)
            obtain ⟨g', o', he', hc'⟩ := hR.at2 (i := k) (by rw [List.length_append, HR.out.2.1]; rfl) (by rw [List.getElem?_append_right (by rw [HR.out.2.1]; exact Nat.le_refl _), HR.out.2.1, Nat.sub_self]; rfl)
            injection he' with he'; injection he' with h1 h2
            have := World.block_lt_of_cell? w9 _ (hc' 0 _ rfl)
            simp at this; omega
          have HP9 := Lib.hid hP9
          have HZ := Lib.hid (And.intro hO9 (And.intro hR9 (And.intro hT9 (And.intro hG9 (And.intro hL9 (And.intro hgl (And.intro hg9 (And.intro hD2.z (And.intro hD2.e1 hD2.e2)))))))))
          clear hown hchg hD2 hO9 hne hP9 hR9 hT9 hG9 hL9 hgl hg9 HD HB H8
          obtain ⟨m0, m1, m2⟩ := row3 HP9.out
          obtain ⟨f0, f1, f2⟩ := frozen3 HP9.out
          go_upto_region 12 with fail
          clear m0 m1 m2 f0 f1 f2
          have hch : Chg (some bp) w9 (w9.setCell ⟨bp, 2, none⟩ (.slice (some ⟨g9, o9, none⟩) (k + 1) c9)) := setCells_chg bp [.slice (some ⟨g9, o9, none⟩) (k + 1) c9] 2 w9
          have HDn : Hid (DecAt w b0 bt bp s t3 a b (.slice (some ⟨g9, o9, none⟩) (k + 1) c9) (k + 1) (G ++ [(⟨xp, xf, xn, xd⟩ : En)]) (w9.setCell ⟨bp, 2, none⟩ (.slice (some ⟨g9, o9, none⟩) (k + 1) c9))) := Lib.hid (by
            obtain ⟨hO9, hR9, hT9, hG9, hL9, hgl, hg9, hz, he1, he2⟩ := HZ.out
            refine ⟨gr_step hG9 (Gr.refl _) hch (fun g e => by cases e; omega), hz, he1, he2, Nat.le_trans hL9 hch.size, hch.block hR9 (by simp; omega), hT9.keep (fun _ ho => hch.block ho (by simp; omega)), by rw [heap_setCell_same w9 bp 2 _ _ (.slice (some ⟨g9, o9, none⟩) (k + 1) c9) HP9.out]; rfl, hO9.keep hch (.inr (fun e => by have := hO9.ge e; omega)), fun g e => ?_⟩
            simp [Value.ownBlock] at e
            subst e
            exact Nat.lt_of_lt_of_le hgl hch.size)
          have HRn : Hid (rdRel m r (k + 1) t3 (G ++ [(⟨xp, xf, xn, xd⟩ : En)]) ∧ (G ++ [(⟨xp, xf, xn, xd⟩ : En)]).length = k + 1 ∧ ∀ x ∈ G ++ [(⟨xp, xf, xn, xd⟩ : En)], x.path.size ≤ 65536) := Lib.hid ⟨HSt.out, by rw [List.length_append, HR.out.2.1]; rfl, fun x hx => by
            rcases List.mem_append.1 hx with h | h
            · exact HR.out.2.2 x h
            · obtain rfl := List.mem_singleton.1 h; exact hxps⟩
          clear hch HZ HP9 HSt HR
          go_wp2_with fail
          go_roundw
          case rel => exact ⟨k + 1, t3, _, _, by omega, by go_num, HRn, HDn⟩
          case measure => simp [intOf]; omega
        · obtain rfl : k = m := by omega
          have ht : decide (k < k) = false := decide_eq_false hlt
          have ht' : decide ((k : Int) < (k : Int)) = false := decide_eq_false (by omega)
          have hend := rdRel_end HR.out.1
          rw [hend] at HO2
          clear hend
          cases st with
          | none =>
            obtain ⟨at8, hat⟩ := HD.out.t
            obtain rfl : O = .error 10 := HO2.out
            obtain ⟨k0, k1, k2⟩ := row3 hat
            obtain ⟨m0, m1, m2⟩ := row3 HD.out.r
            obtain ⟨f0, f1, f2⟩ := frozen3 HD.out.r
            clear hat HO2
            go_wp2_with fail
            clear k0 k1 k2
            have hch : Chg (some b0) wr (((wr.setCell ⟨b0, 0, none⟩ (.int .i64 0)).setCell ⟨b0, 1, none⟩ (.int .i64 0)).setCell ⟨b0, 2, none⟩ (.slice none 0 0)) := setCells_chg b0 [.int .i64 0, .int .i64 0, .slice none 0 0] 0 wr
            have hrow := row_set3 (a' := .int .i64 0) (b' := .int .i64 0) (c' := .slice none 0 0) HD.out.r
            have hGx := HD.out.gStep hch (Nat.le_refl _)
            clear hch m0 m1 m2 f0 f1 f2
            generalize ((wr.setCell ⟨b0, 0, none⟩ (.int .i64 0)).setCell ⟨b0, 1, none⟩ (.int .i64 0)).setCell ⟨b0, 2, none⟩ (.slice none 0 0) = wz at hrow hGx ⊢
            obtain ⟨m0, m1, m2⟩ := row3 hrow
            refine bodyPost_ret (v := .tuple #[.agg #[.int .i64 0, .int .i64 0, .slice none 0 0], .int .i64 10]) ?_ rfl ⟨_, rfl, Own.nil _ _ _, hGx⟩
            simp [results, Tryz.results37, go_sem, m0, m1, m2]
          | some t =>
            obtain ⟨at8, h8, htl, hat⟩ := HD.out.t
            obtain ⟨k0, k1, k2⟩ := row3 hat
            have hsl : s.data.toList.length = s.size := by simp
            by_cases h9 : at8 < s.size
            · have t9 : decide (at8 < s.size) = true := decide_eq_true h9
              have t9' : decide ((at8 : Int) < (s.size : Int)) = true := decide_eq_true (by omega)
              have hne : t ≠ [] := fun e => by
                rw [e] at htl
                have := congrArg List.length htl
                rw [List.length_drop, hsl] at this
                simp at this; omega
              obtain rfl : O = .error 10 := by rw [HO2.out, Option.map_some]; simp only; rw [if_pos hne]
              obtain ⟨m0, m1, m2⟩ := row3 HD.out.r
              obtain ⟨f0, f1, f2⟩ := frozen3 HD.out.r
              clear hat HO2 hne htl h8
              go_wp2_with fail
              clear k0 k1 k2
              have hch : Chg (some b0) wr (((wr.setCell ⟨b0, 0, none⟩ (.int .i64 0)).setCell ⟨b0, 1, none⟩ (.int .i64 0)).setCell ⟨b0, 2, none⟩ (.slice none 0 0)) := setCells_chg b0 [.int .i64 0, .int .i64 0, .slice none 0 0] 0 wr
              have hrow := row_set3 (a' := .int .i64 0) (b' := .int .i64 0) (c' := .slice none 0 0) HD.out.r
              have hGx := HD.out.gStep hch (Nat.le_refl _)
              clear hch m0 m1 m2 f0 f1 f2
              generalize ((wr.setCell ⟨b0, 0, none⟩ (.int .i64 0)).setCell ⟨b0, 1, none⟩ (.int .i64 0)).setCell ⟨b0, 2, none⟩ (.slice none 0 0) = wz at hrow hGx ⊢
              obtain ⟨m0, m1, m2⟩ := row3 hrow
              refine bodyPost_ret (v := .tuple #[.agg #[.int .i64 0, .int .i64 0, .slice none 0 0], .int .i64 10]) ?_ rfl ⟨_, rfl, Own.nil _ _ _, hGx⟩
              simp [results, Tryz.results37, go_sem, m0, m1, m2]
            · have t9 : decide (at8 < s.size) = false := decide_eq_false h9
              have t9' : decide ((at8 : Int) < (s.size : Int)) = false := decide_eq_false (by omega)
              have he : t = [] := by rw [htl]; exact List.drop_eq_nil_of_le (by omega)
              have hO3 : O = if validD a b G = true then .ok (a, b, G) else .error 140 := by rw [HO2.out, Option.map_some]; simp only; rw [if_neg (fun h => h he)]
              have hRG := own_rws (l := G) enC_len (v := V) (B := b0 + 3) (w := wr) (by rw [HR.out.2.1]; exact HD.out.o)
              have HVr := Lib.hid (validR_any a b V G wr hRG (by rw [HR.out.2.1]; omega) (fun x hx => Nat.le_trans (HR.out.2.2 x hx) (by decide)))
              obtain ⟨B, hB⟩ : ∃ B, validD a b G = B := ⟨_, rfl⟩
              rw [hB] at hO3 HVr
              obtain ⟨p0, p1, p2⟩ := row3 HD.out.p
              have HO3 := Lib.hid hO3
              clear hat HO2 he htl h8 hRG hB hO3
              go_wp2_with fail
              clear k0 k1 k2 p0 p1 p2
              refine HVr.out.mono ?_
              rintro e wv ⟨rfl, hgv⟩
              replace HD := Lib.hid (HD.out.gr hgv)
              clear hgv HVr
              obtain ⟨m0, m1, m2⟩ := row3 HD.out.r
              obtain ⟨f0, f1, f2⟩ := frozen3 HD.out.r
              cases B with
              | false =>
                obtain rfl : O = .error 140 := HO3.out
                go_wp2_with fail
                have hch : Chg (some b0) wv (((wv.setCell ⟨b0, 0, none⟩ (.int .i64 0)).setCell ⟨b0, 1, none⟩ (.int .i64 0)).setCell ⟨b0, 2, none⟩ (.slice none 0 0)) := setCells_chg b0 [.int .i64 0, .int .i64 0, .slice none 0 0] 0 wv
                have hrow := row_set3 (a' := .int .i64 0) (b' := .int .i64 0) (c' := .slice none 0 0) HD.out.r
                have hGx := HD.out.gStep hch (Nat.le_refl _)
                clear hch m0 m1 m2 f0 f1 f2
                generalize ((wv.setCell ⟨b0, 0, none⟩ (.int .i64 0)).setCell ⟨b0, 1, none⟩ (.int .i64 0)).setCell ⟨b0, 2, none⟩ (.slice none 0 0) = wz at hrow hGx ⊢
                obtain ⟨m0, m1, m2⟩ := row3 hrow
                refine bodyPost_ret (v := .tuple #[.agg #[.int .i64 0, .int .i64 0, .slice none 0 0], .int .i64 140]) ?_ rfl ⟨_, rfl, Own.nil _ _ _, hGx⟩
                simp [results, Tryz.results37, go_sem, m0, m1, m2]
              | true =>
                obtain rfl : O = .ok (a, b, G) := HO3.out
                obtain ⟨pV, cV, rfl⟩ := HD.out.o.slice
                obtain ⟨p0, p1, p2⟩ := row3 HD.out.p
                go_wp2_with fail
                clear p0 p1 p2
                have hch : Chg (some b0) wv (((wv.setCell ⟨b0, 0, none⟩ (.int .i64 a)).setCell ⟨b0, 1, none⟩ (.int .i64 b)).setCell ⟨b0, 2, none⟩ (.slice pV k cV)) := setCells_chg b0 [.int .i64 a, .int .i64 b, .slice pV k cV] 0 wv
                have hrow := row_set3 (a' := .int .i64 a) (b' := .int .i64 b) (c' := .slice pV k cV) HD.out.r
                have hGx := HD.out.gStep hch (Nat.le_refl _)
                have hOx := (HD.out.o.keep hch (.inr (fun e => by have := HD.out.o.ge e; omega))).mono (show w.heap.size ≤ b0 + 3 by have := HD.out.z; omega)
                clear hch m0 m1 m2 f0 f1 f2
                generalize ((wv.setCell ⟨b0, 0, none⟩ (.int .i64 a)).setCell ⟨b0, 1, none⟩ (.int .i64 b)).setCell ⟨b0, 2, none⟩ (.slice pV k cV) = wz at hrow hGx hOx ⊢
                obtain ⟨m0, m1, m2⟩ := row3 hrow
                refine bodyPost_ret (v := .tuple #[.agg #[.int .i64 a, .int .i64 b, .slice pV k cV], .int .i64 0]) ?_ rfl ⟨.slice pV k cV, rfl, (by show Own _ 4 _ G.length _ _; rw [HR.out.2.1]; exact hOx), hGx⟩
                simp [results, Tryz.results37, go_sem, m0, m1, m2]
    · have hf : withinB n 1 64 = false := by
        cases h : withinB n 1 64 with
        | false => rfl
        | true => exact absurd (withinB_iff.1 h) hn
      rw [hf]
      obtain rfl : O = .error 140 := by rw [HO1.out, Option.map_some]; simp only; rw [if_pos hn]
      obtain ⟨m0, m1, m2⟩ := row3 HD.out.r
      obtain ⟨f0, f1, f2⟩ := frozen3 HD.out.r
      clear HO1 hf hn
      go_wp2_with fail
      have hch : Chg (some b0) w5 (((w5.setCell ⟨b0, 0, none⟩ (.int .i64 0)).setCell ⟨b0, 1, none⟩ (.int .i64 0)).setCell ⟨b0, 2, none⟩ (.slice none 0 0)) := setCells_chg b0 [.int .i64 0, .int .i64 0, .slice none 0 0] 0 w5
      have hrow := row_set3 (a' := .int .i64 0) (b' := .int .i64 0) (c' := .slice none 0 0) HD.out.r
      have hGx := HD.out.gStep hch (Nat.le_refl _)
      clear hch m0 m1 m2 f0 f1 f2
      generalize ((w5.setCell ⟨b0, 0, none⟩ (.int .i64 0)).setCell ⟨b0, 1, none⟩ (.int .i64 0)).setCell ⟨b0, 2, none⟩ (.slice none 0 0) = wz at hrow hGx ⊢
      obtain ⟨m0, m1, m2⟩ := row3 hrow
      refine bodyPost_ret (v := .tuple #[.agg #[.int .i64 0, .int .i64 0, .slice none 0 0], .int .i64 140]) ?_ rfl ⟨_, rfl, Own.nil _ _ _, hGx⟩
      simp [results, Tryz.results37, go_sem, m0, m1, m2]
end
section
open Go Go.RowKit Go.Shelf

theorem decL_err {l : List UInt8} {c : Int} (h : decL l = .error c) : c = 10 ∨ c = 140 := by
  unfold decL at h
  repeat' split at h
  all_goals first | (injection h with h; subst h; first | exact .inl rfl | exact .inr rfl) | cases h
theorem dcE_no {l : List UInt8} (h : ∀ p, decL l ≠ .ok p) : dcE (decL l) = 10 ∨ dcE (decL l) = 140 := by
  cases hd : decL l with
  | error c => exact decL_err hd
  | ok p => exact absurd hd (h p)
theorem enc_on {id ver : Int} {l : List En} (h : validD id ver l = true) : (encB id ver l).data.toList = enL id ver l ∧ encE id ver l = 0 := by
  unfold encB encE enL
  rw [if_pos h, if_pos h]
  exact ⟨rfl, rfl⟩
theorem enc_off {id ver : Int} {l : List En} (h : validD id ver l = false) : encB id ver l = ⟨#[]⟩ ∧ encE id ver l = 140 ∧ rootP id ver l = ⟨#[]⟩ := by
  unfold encB encE rootP
  simp [h]
theorem enc_pos {id ver : Int} {l : List En} (h : validD id ver l = true) : 1 ≤ (encB id ver l).size := by
  have h1 := (enc_on h).1
  apply Nat.one_le_iff_ne_zero.2
  intro e
  have h2 : (encB id ver l).data.toList = [] := List.eq_nil_of_length_eq_zero (by rw [Array.length_toList]; exact e)
  have h3 := decL_enc h
  rw [← h1, h2] at h3
  cases h3
theorem catL_len : ∀ (L : List ByteArray) (m : Nat), (∀ x ∈ L, x.size ≤ m) → (catL L).size ≤ L.length * m := by
  intro L m h
  have h1 : (catL L).size = ((L.map (·.data.toList)).flatten).length := by
    have := catL_data L
    rw [← this, Array.length_toList]; rfl
  rw [h1]
  clear h1
  induction L with
  | nil => simp
  | cons x L ih =>
    have h2 := ih (fun y hy => h y (List.mem_cons_of_mem _ hy))
    have h3 := h x (List.mem_cons_self ..)
    rw [List.map_cons, List.flatten_cons, List.length_append, List.length_cons, Nat.add_mul]
    have h4 : x.data.toList.length = x.size := by rw [Array.length_toList]; rfl
    omega
theorem enc_size (id ver : Int) (l : List En) : (encB id ver l).size ≤ 9000000 := by
  cases h : validD id ver l with
  | false => rw [(enc_off h).1]; decide
  | true =>
    obtain ⟨-, h64, -, hL, -⟩ := valid_head h
    unfold encB
    rw [if_pos h, ByteArray.size_append]
    have h1 := hdB_size id ver l.length
    have h2 := catL_len (l.map lineD) 131200 (fun x hx => by
      obtain ⟨y, hy, rfl⟩ := List.mem_map.1 hx
      exact lineD_size (hL y hy))
    rw [List.length_map] at h2
    omega
/-- a valid package's encoding: its front, itself, and more -/
theorem trip_law {id ver : Int} {l : List En} (h : validD id ver l = true) (more : ByteArray) :
    decL (encB id ver l).data.toList = .ok (id, ver, l) ∧ (dcE (decL ((encB id ver l).extract 0 ((encB id ver l).size - 1)).data.toList) = 10 ∨ dcE (decL ((encB id ver l).extract 0 ((encB id ver l).size - 1)).data.toList) = 140) ∧
      dcE (decL (encB id ver l ++ more).data.toList) = if more.toList == [] then 0 else 10 := by
  have h1 := (enc_on h).1
  refine ⟨by rw [h1]; exact decL_enc h, dcE_no (fun p => ?_), ?_⟩
  · have h2 := enc_pos h
    have hne : (encB id ver l).data.toList ≠ [] := fun e => by
      have h4 := congrArg List.length e
      rw [Array.length_toList] at h4
      have h5 : 1 ≤ (encB id ver l).data.size := h2
      rw [h4] at h5
      cases h5
    refine decL_front h (t := [(encB id ver l).data.toList.getLast hne]) ?_ (by simp) p
    rw [← h1]
    have h3 : ((encB id ver l).extract 0 ((encB id ver l).size - 1)).data.toList = (encB id ver l).data.toList.dropLast := by
      rw [show (encB id ver l).size - 1 = 0 + ((encB id ver l).size - 1) by omega, cut_bytes, List.drop_zero, List.dropLast_eq_take, Array.length_toList]
      rfl
    rw [h3, List.dropLast_concat_getLast]
  · rw [app_data, h1, decL_end h]
    by_cases hm : more.data.toList = []
    · rw [hm, if_neg (by simp)]
      have : (more.toList == []) = true := by rw [ByteArray.toList_eq, hm]; rfl
      rw [this]; rfl
    · rw [if_pos hm]
      have : (more.toList == []) = false := by rw [ByteArray.toList_eq, beq_eq_false_iff_ne]; exact hm
      rw [this]; rfl
end
end Go.Proofs.YtjnnhhengpinmaaGreatDoor
