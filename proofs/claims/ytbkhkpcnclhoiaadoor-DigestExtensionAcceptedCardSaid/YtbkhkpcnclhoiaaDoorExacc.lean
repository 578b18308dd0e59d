/- The walk of the statement DigestExtensionAccepted: it answers true. -/
import Derived.Test.YtbkhkpcnclhoiaaDoorAppend
namespace Go.Proofs.YtbkhkpcnclhoiaaDoor
open Go.RowKit Go.Shelf
attribute [local go_sem] gAt gUpon
attribute [local simp] Gr.refl Gr.alloc

theorem bin_any (n : Nat) (hn : n ≤ 1000) (w : World) :
    Calls Tryd.prog 20 #[.int .i64 (n : Int)] w fun e w' => (∃ k : Nat, e = .returned (.int .i64 (k : Int)) ∧ n < 2 ^ k ∧ k ≤ n) ∧ w = w' := by
  go_enter Tryd.func20, Tryd.ntmps20
  go_wp2
  go_loop [0, 3] (fun t j => ∃ m k : Nat, t = .int .i64 (m : Int) ∧ j = .int .i64 (k : Int) ∧ k + m ≤ n ∧ Hid (n < 2 ^ k * (m + 1))) (fun t _ => (intOf t).toNat)
  case atStart => exact ⟨n, 0, rfl, rfl, by omega, Lib.hid (by simp)⟩
  case round =>
    obtain ⟨m, k, rfl, rfl, hkm, HK⟩ := hrel
    by_cases h0 : 0 < m
    · have H2 : Hid (n < 2 ^ (k + 1) * (m / 2 + 1)) := Lib.hid (by
        have h := HK.out
        rw [Nat.pow_succ, Nat.mul_assoc]
        refine Nat.lt_of_lt_of_le h (Nat.mul_le_mul_left _ ?_)
        omega)
      go_wp2
      go_round
      case rel => exact ⟨m / 2, k + 1, by go_num, by go_num, by omega, H2⟩
      case measure => simp [intOf]; omega
    · have hm : m = 0 := by omega
      subst hm
      have H2 : Hid (n < 2 ^ k) := Lib.hid (by have h := HK.out; simpa using h)
      go_wp2
      go_ret
      exact ⟨⟨k, rfl, H2.out, by omega⟩, rfl⟩

theorem ext_len (M : List ByteArray) (k b : Nat) (h : M.length < 2 ^ b) (hb : b ≤ M.length) (hk : k ≤ M.length) : (if (k : Int) ≤ 0 ∨ (M.length : Int) < (k : Int) then [] else extD M (k : Int).toNat true).length ≤ 2 * b := by
  split
  · simp
  · have h1 := ext_short b M (k : Int).toNat true (by omega) (by omega)
    have : 0 < b := by
      rcases Nat.eq_zero_or_pos b with h0 | h0
      · subst h0; rw [Nat.pow_zero] at h; omega
      · exact h0
    omega

set_option maxRecDepth 100000 in
set_option maxHeartbeats 4000000 in
theorem exacc_any (v : Value) (l : List ByteArray) (i : Int) (w : World) (hv : StrsIn v l w) (hi : -9223372036854775808 ≤ i ∧ i ≤ 9223372036854775807) (hT : Tab w) :
    Calls Tryd.prog 5 #[v, .int .i64 i] w fun e w' => e = .returned (.bool true) ∧ Gr w w' := by
  obtain ⟨hi1, hi2⟩ := hi
  have HV := Lib.hid hv
  have HT := Lib.hid hT
  clear hv hT
  go_enter Tryd.func5, Tryd.ntmps5
  go_wp2_with fail
  refine (sane_any w HT.out).mono ?_
  rintro e w1 ⟨rfl, hg1⟩
  go_wp2_with fail
  refine (few_in v l 25 w1 (HV.out.gr hg1) (by decide)).mono ?_
  rintro e w2 ⟨u, rfl, ho, hg2, hz⟩
  have hMl := fewD_len l 25
  have hMs := fewD_all l 25
  generalize fewD l 25 = M at ho hz hMl hMs
  have hM : M.length ≤ 25 := by omega
  have HMs : Hid (∀ x ∈ M, x.size ≤ 140737488354000) := Lib.hid (fun x hx => by have := hMs x hx; omega)
  have HG2 := Lib.hid (hg1.trans hg2)
  have HU := Lib.hid ho.strs.2
  obtain ⟨pu, cu, hu⟩ := ho.slice
  have hpu : (M.length = 0 ∧ pu = none ∧ cu = 0) ∨ (0 < M.length ∧ M.length ≤ cu ∧ ∃ g off, pu = some ⟨g, off, none⟩) := by
    rcases HU.out with ⟨h1, h2⟩ | ⟨g, off, cap, h1, _⟩
    · rw [hu] at h1
      injection h1 with e1 e2 e3
      exact .inl ⟨by rw [h2]; rfl, e1, e3⟩
    · by_cases h0 : M.length = 0
      · have h3 := hz h0
        rw [hu] at h3
        injection h3 with e1 e2 e3
        exact .inl ⟨h0, e1, e3⟩
      · rw [hu] at h1
        injection h1 with e1 e2 e3
        exact .inr ⟨by omega, by omega, g, off, e1⟩
  subst hu
  obtain ⟨m, hm⟩ : ∃ m, M.length = m := ⟨_, rfl⟩
  have Hm := Lib.hid hm
  rw [hm] at hM HU hpu ⊢
  have HPu := Lib.hid hpu
  clear hm hg1 hg2 ho hMl hMs HV hz hpu
  have HRk : Hid (∀ k, k ≤ m → ∀ w', Gr w2 w' → Calls Tryd.prog 18 #[.slice pu k cu] w' fun e w'' => e = .returned (.string (rootD (M.take k))) ∧ Gr w' w'') := Lib.hid (fun k hk w' hg => by
    refine root_any (.slice pu k cu) (M.take k) w' ?_ (by rw [List.length_take, Hm.out]; omega) (fun x hx => HMs.out x (List.mem_of_mem_take hx)) (HT.out.gr (HG2.out.trans hg))
    rcases HPu.out with ⟨h0, rfl, rfl⟩ | ⟨h0, -, g, off, rfl⟩
    · have : k = 0 := by omega
      subst this
      exact .inl ⟨rfl, by simp⟩
    · obtain ⟨g', off', e, -, -, -, hc⟩ := (HU.out.gr hg).cut h0
      injection e with e
      injection e with e1 e2
      subst e1 e2
      exact (hc k hk).1)
  have HR : Hid (∀ w', Gr w2 w' → Calls Tryd.prog 18 #[.slice pu m cu] w' fun e w'' => e = .returned (.string (rootD M)) ∧ Gr w' w'') := Lib.hid (fun w' hg => by
    have h := HRk.out m (Nat.le_refl _) w' hg
    rw [← Hm.out, List.take_length] at h
    rw [← Hm.out]; exact h)
  have HX : Hid (∀ k : Nat, k ≤ m → ∀ w', Gr w2 w' → Calls Tryd.prog 15 #[.slice pu m cu, .int .i64 (k : Int)] w' fun e w'' => ∃ p c X, e = .returned (.tuple #[.slice p X.length c, .int .i64 0]) ∧ StrsAt (.slice p X.length c) X w'' ∧
      (∀ b, m < 2 ^ b → b ≤ m → X.length ≤ 2 * b) ∧ verED (rootD (M.take k)) k (rootD M) m X = true ∧ Gr w' w'') := Lib.hid (fun k hk w' hg => by
    refine (ext_any (.slice pu m cu) M (k : Int) w' (HU.out.gr hg) (by rw [Hm.out]; omega) HMs.out (HT.out.gr (HG2.out.trans hg))).mono ?_
    rintro e w'' ⟨u, x, rfl, hx, hO, hG⟩
    rw [if_neg (by rw [Hm.out]; omega)] at hx
    subst hx
    obtain ⟨p, c, rfl⟩ := hO.slice
    refine ⟨p, c, _, rfl, hO.strs.2, fun b h1 h2 => ?_, ?_, hG⟩
    · exact ext_len M k b (by rw [Hm.out]; exact h1) (by rw [Hm.out]; exact h2) (by rw [Hm.out]; exact hk)
    · have := verED_ok M k (by rw [Hm.out]; exact hk)
      rw [Hm.out] at this ⊢
      exact this)
  have HXi : Hid (∀ w', Gr w2 w' → Calls Tryd.prog 15 #[.slice pu m cu, .int .i64 i] w' fun e w'' => ∃ p c n, e = .returned (.tuple #[.slice p n c, .int .i64 (if i < 0 ∨ (m : Int) < i then 2 else 0)]) ∧ (i < 0 ∨ (m : Int) < i → n = 0 ∧ StrsAt (.slice p n c) [] w'') ∧ Gr w' w'') := Lib.hid (fun w' hg => by
    refine (ext_any (.slice pu m cu) M i w' (HU.out.gr hg) (by rw [Hm.out]; omega) HMs.out (HT.out.gr (HG2.out.trans hg))).mono ?_
    rintro e w'' ⟨u, x, rfl, hx, hO, hG⟩
    rw [Hm.out] at hx hO
    subst hx
    obtain ⟨p, c, rfl⟩ := hO.slice
    refine ⟨p, c, _, rfl, fun h => ?_, hG⟩
    rw [if_pos (by omega)] at hO ⊢
    exact ⟨rfl, hO.strs.2⟩)
  clear HU HMs
  go_wp2_with fail
  refine (HR.out _ (Gr.refl _)).mono ?_
  rintro e w3 ⟨rfl, hg3⟩
  generalize hRM : rootD M = R at *
  go_wp2_with fail
  go_loopw [7] (fun v7 W => ∃ k : Nat, k ≤ m + 1 ∧ v7 = .int .i64 (k : Int) ∧ Hid (Gr w2 W)) (fun v7 _ => m + 1 - (intOf v7).toNat)
  case atStart => exact ⟨0, Nat.zero_le _, rfl, Lib.hid hg3⟩
  clear hg3
  case round =>
    obtain ⟨k, hk, rfl, HG⟩ := hrel
    by_cases hkm : k ≤ m
    · have ht1 : decide (k ≤ m) = true := decide_eq_true hkm
      go_wp2_with fail
      refine (HX.out k hkm _ HG.out).mono ?_
      rintro e w4 ⟨p4, c4, X, rfl, hX, hXl, hXv, hg4⟩
      have HG4 := Lib.hid (HG.out.trans hg4)
      have HX4 := Lib.hid hX
      have HXl := Lib.hid hXl
      have HXv := Lib.hid hXv
      clear hX hXl hXv hg4 HG
      go_wp2_with fail
      refine (bin_any m (by omega) w4).mono ?_
      rintro e w5 ⟨⟨b, rfl, hb1, hb2⟩, rfl⟩
      have hb3 := HXl.out b hb1 hb2
      have HB1 := Lib.hid hb1
      clear hb1
      obtain ⟨nx, hnx⟩ : ∃ nx, X.length = nx := ⟨_, rfl⟩
      have Hnx := Lib.hid hnx
      obtain ⟨Rk, hRk⟩ : ∃ Rk, rootD (M.take k) = Rk := ⟨_, rfl⟩
      have hRk' := HRk.out k hkm
      have hxv := HXv.out
      rw [hRk] at hRk' hxv
      have HRk' := Lib.hid hRk'
      have HVx0 : Hid (∀ w', Gr w2 w' → StrsAt (.slice p4 X.length c4) X w' → Calls Tryd.prog 22 #[.string Rk, .int .i64 (k : Int), .string R, .int .i64 (m : Int), .slice p4 X.length c4] w' fun e w'' => e = .returned (.bool true) ∧ Gr w' w'') := Lib.hid (fun w' hg hs => by
        have h := vext_any Rk R (k : Int) (m : Int) (.slice p4 X.length c4) X w' hs (by omega) (by omega) (HT.out.gr (HG2.out.trans hg))
        rw [hxv] at h; exact h)
      rw [hnx] at hb3 HX4 HVx0 ⊢
      have hb4 : decide (2 * (b : Int) < (nx : Int)) = false := decide_eq_false (by omega)
      clear hnx hRk hRk' hxv HXv HXl HRk HX HXi HR
      rcases HPu.out with ⟨hm0, rfl, rfl⟩ | ⟨hm0, hmc, g, off, rfl⟩
      · subst hm0
        have hk0 : k = 0 := by omega
        subst hk0
        go_wp2_with fail
        refine (HRk'.out _ HG4.out).mono ?_
        rintro e w6 ⟨rfl, hg6⟩
        have HVx := Lib.hid (HVx0.out _ (HG4.out.trans hg6) (HX4.out.gr hg6))
        have HG6 := Lib.hid (HG4.out.trans hg6)
        clear hg6
        go_wp2_with fail
        refine HVx.out.mono ?_
        rintro e w7 ⟨rfl, hg7⟩
        have HG7 := Lib.hid (HG6.out.trans hg7)
        clear hg7 HVx
        go_wp2_with fail
        go_roundw
        case rel => exact ⟨1, by omega, by go_num, HG7⟩
        case measure => simp [intOf]
      · have hk3 : k ≤ cu := by omega
        go_wp2_with fail
        refine (HRk'.out _ HG4.out).mono ?_
        rintro e w6 ⟨rfl, hg6⟩
        have HVx := Lib.hid (HVx0.out _ (HG4.out.trans hg6) (HX4.out.gr hg6))
        have HG6 := Lib.hid (HG4.out.trans hg6)
        clear hg6
        go_wp2_with fail
        refine HVx.out.mono ?_
        rintro e w7 ⟨rfl, hg7⟩
        have HG7 := Lib.hid (HG6.out.trans hg7)
        clear hg7 HVx
        go_wp2_with fail
        go_roundw
        case rel => exact ⟨k + 1, by omega, by go_num, HG7⟩
        case measure => simp [intOf]; omega
    · have ht1 : decide (k ≤ m) = false := decide_eq_false hkm
      clear HX HRk HR HPu
      by_cases h0 : i < 0
      · have hio : i < 0 ∨ (m : Int) < i := .inl h0
        have ht2 : decide (0 ≤ i) = false := decide_eq_false (by omega)
        have HXo : Hid (∀ w', Gr w2 w' → Calls Tryd.prog 15 #[.slice pu m cu, .int .i64 i] w' fun e w'' => ∃ p c, e = .returned (.tuple #[.slice p 0 c, .int .i64 2]) ∧ StrsAt (.slice p 0 c) [] w'' ∧ Gr w' w'') := Lib.hid (fun w' hg => by
          refine (HXi.out w' hg).mono ?_
          rintro e w'' ⟨p, c, n, rfl, hn, hG⟩
          obtain ⟨rfl, hs⟩ := hn hio
          exact ⟨p, c, by rw [if_pos hio], hs, hG⟩)
        have hve : verED R i R m [] = false := by
          unfold verED
          rcases hio with h | h
          · rw [decide_eq_false (show ¬ 0 ≤ i by omega)]; rfl
          · rw [decide_eq_false (show ¬ i ≤ (m : Int) by omega)]; simp
        have HVo : Hid (∀ w' p c, Gr w2 w' → StrsAt (.slice p 0 c) [] w' → Calls Tryd.prog 22 #[.string R, .int .i64 i, .string R, .int .i64 (m : Int), .slice p 0 c] w' fun e w'' => e = .returned (.bool false) ∧ Gr w' w'') := Lib.hid (fun w' p c hg hs => by
          have h := vext_any R R i (m : Int) (.slice p 0 c) [] w' hs (by simp) (by omega) (HT.out.gr (HG2.out.trans hg))
          rw [hve] at h; exact h)
        clear HXi hve hio
        go_wp2_with fail
        refine (HXo.out _ HG.out).mono ?_
        rintro e w4 ⟨p4, c4, rfl, hs4, hg4⟩
        have HVx := Lib.hid (HVo.out _ _ _ (HG.out.trans hg4) hs4)
        have HG4 := Lib.hid (HG2.out.trans (HG.out.trans hg4))
        clear hs4 hg4 HXo HVo
        go_wp2_with fail
        refine HVx.out.mono ?_
        rintro e w5 ⟨rfl, hg5⟩
        have HG5 := Lib.hid (HG4.out.trans hg5)
        clear hg5 HVx
        go_wp2_with fail
        go_ret
        exact ⟨rfl, HG5.out⟩
      · have ht2 : decide (0 ≤ i) = true := decide_eq_true (by omega)
        by_cases h1 : (m : Int) < i
        · have hio : i < 0 ∨ (m : Int) < i := .inr h1
          have ht3 : decide (i ≤ (m : Int)) = false := decide_eq_false (by omega)
          have HXo : Hid (∀ w', Gr w2 w' → Calls Tryd.prog 15 #[.slice pu m cu, .int .i64 i] w' fun e w'' => ∃ p c, e = .returned (.tuple #[.slice p 0 c, .int .i64 2]) ∧ StrsAt (.slice p 0 c) [] w'' ∧ Gr w' w'') := Lib.hid (fun w' hg => by
            refine (HXi.out w' hg).mono ?_
            rintro e w'' ⟨p, c, n, rfl, hn, hG⟩
            obtain ⟨rfl, hs⟩ := hn hio
            exact ⟨p, c, by rw [if_pos hio], hs, hG⟩)
          have hve : verED R i R m [] = false := by
            unfold verED
            rcases hio with h | h
            · rw [decide_eq_false (show ¬ 0 ≤ i by omega)]; rfl
            · rw [decide_eq_false (show ¬ i ≤ (m : Int) by omega)]; simp
          have HVo : Hid (∀ w' p c, Gr w2 w' → StrsAt (.slice p 0 c) [] w' → Calls Tryd.prog 22 #[.string R, .int .i64 i, .string R, .int .i64 (m : Int), .slice p 0 c] w' fun e w'' => e = .returned (.bool false) ∧ Gr w' w'') := Lib.hid (fun w' p c hg hs => by
            have h := vext_any R R i (m : Int) (.slice p 0 c) [] w' hs (by simp) (by omega) (HT.out.gr (HG2.out.trans hg))
            rw [hve] at h; exact h)
          clear HXi hve hio
          go_wp2_with fail
          refine (HXo.out _ HG.out).mono ?_
          rintro e w4 ⟨p4, c4, rfl, hs4, hg4⟩
          have HVx := Lib.hid (HVo.out _ _ _ (HG.out.trans hg4) hs4)
          have HG4 := Lib.hid (HG2.out.trans (HG.out.trans hg4))
          clear hs4 hg4 HXo HVo
          go_wp2_with fail
          refine HVx.out.mono ?_
          rintro e w5 ⟨rfl, hg5⟩
          have HG5 := Lib.hid (HG4.out.trans hg5)
          clear hg5 HVx
          go_wp2_with fail
          go_ret
          exact ⟨rfl, HG5.out⟩
        · have ht3 : decide (i ≤ (m : Int)) = true := decide_eq_true (by omega)
          have HXo : Hid (∀ w', Gr w2 w' → Calls Tryd.prog 15 #[.slice pu m cu, .int .i64 i] w' fun e w'' => ∃ p c n, e = .returned (.tuple #[.slice p n c, .int .i64 0]) ∧ Gr w' w'') := Lib.hid (fun w' hg => by
            refine (HXi.out w' hg).mono ?_
            rintro e w'' ⟨p, c, n, rfl, hn, hG⟩
            exact ⟨p, c, n, by rw [if_neg (by omega)], hG⟩)
          clear HXi
          go_wp2_with fail
          refine (HXo.out _ HG.out).mono ?_
          rintro e w4 ⟨p4, c4, n4, rfl, hg4⟩
          have HG4 := Lib.hid (HG2.out.trans (HG.out.trans hg4))
          clear hg4 HXo
          go_wp2_with fail
          go_ret
          exact ⟨rfl, HG4.out⟩
end Go.Proofs.YtbkhkpcnclhoiaaDoor
