/- The reference's PutInt, at every number. -/
import Derived.Test.YtjnnhhengpinmaaGreatDoorGenA
namespace Go.Proofs.YtjnnhhengpinmaaGreatDoor
open Go Go.RowKit Go.Shelf
attribute [local go_sem] gAt gUpon
attribute [local simp] Gr.refl Gr.alloc

def zig (n : Int) : Nat := if n < 0 then (2 * (-n) - 1).toNat else (2 * n).toNat
def encZ (z : Nat) : ByteArray := ⟨((grpL 10 z).map fun x => UInt8.ofNat (grpN x)).toArray⟩
theorem numB_enc (n : Nat) : numB n = encZ (2 * n) := rfl
theorem zig_nat (n : Nat) : zig (n : Int) = 2 * n := by unfold zig; rw [if_neg (by omega)]; omega
theorem encZ_size (z : Nat) : (encZ z).size = (grpL 10 z).length := by
  show (((grpL 10 z).map fun x => UInt8.ofNat (grpN x)).toArray).size = _
  rw [List.size_toArray, List.length_map]
theorem bys_enc (z : Nat) : bysC (encZ z) = grpC (grpL 10 z) := by
  unfold bysC encZ grpC
  rw [List.map_map]
  refine List.map_congr_left fun x hx => ?_
  show Value.int .u8 ((UInt8.ofNat (grpN x)).toNat : Int) = _
  rw [UInt8.toNat_ofNat_of_lt' (grpL_lt _ _ _ hx)]
def zigOk (n : Int) : Bool := decide (-4611686018427387903 ≤ n) && decide (n ≤ 4611686018427387903)
theorem zig_lt {n : Int} (h : zigOk n = true) : zig n < 9223372036854775807 := by
  unfold zigOk at h; simp only [Bool.and_eq_true, decide_eq_true_eq] at h
  unfold zig; split <;> omega
theorem or128 : ∀ g, g < 128 → g % 256 ||| 128 = g + 128 := by decide +kernel
theorem zigzagR_any (n : Int) (h : zigOk n = true) (w : World) :
    Calls Tryz.prog 139 #[.int .i64 n] w fun e w' => e = .returned (.int .u64 (zig n : Int)) ∧ w = w' := by
  unfold zigOk at h; simp only [Bool.and_eq_true, decide_eq_true_eq] at h
  obtain ⟨z, hz⟩ : ∃ z, zig n = z := ⟨_, rfl⟩
  unfold zig at hz
  by_cases h0 : n < 0
  · have t1 : decide (n < 0) = true := decide_eq_true h0
    rw [if_pos h0] at hz
    have e1 : IntKind.i64.wrap (-n) = -n := IntWalk.i64_in _ (by omega)
    have e2 : IntKind.u64.wrap (-n) = -n := by rw [wrap_u64]; omega
    have e3 : IntKind.u64.wrap (-n * 2) = -n * 2 := by rw [wrap_u64]; omega
    have e4 : IntKind.u64.wrap (-n * 2 - 1) = (z : Int) := by rw [wrap_u64]; omega
    have e5 : IntKind.u64.wrap (2 * -n - 1) = (z : Int) := by rw [wrap_u64]; omega
    have HR : zig n = z := by unfold zig; rw [if_pos h0]; exact hz
    rw [HR]
    have hz' : -n * 2 - 1 = (z : Int) := by omega
    clear hz
    go_enter Tryz.func139, Tryz.ntmps139
    go_wp2_with fail
    go_ret
    exact ⟨by simp, rfl⟩
  · have t1 : decide (n < 0) = false := decide_eq_false h0
    rw [if_neg h0] at hz
    have e2 : IntKind.u64.wrap n = n := by rw [wrap_u64]; omega
    have e3 : IntKind.u64.wrap (n * 2) = n * 2 := by rw [wrap_u64]; omega
    have HR : zig n = z := by unfold zig; rw [if_neg h0]; exact hz
    rw [HR]
    have hz' : n * 2 = (z : Int) := by omega
    clear hz
    go_enter Tryz.func139, Tryz.ntmps139
    go_wp2_with fail
    go_ret
    exact ⟨by simp, rfl⟩
theorem putIntR_big (n : Int) (h : zigOk n = false) (w : World) :
    Calls Tryz.prog 119 #[.int .i64 n] w fun e w' => e = .returned (.tuple #[.string ⟨#[]⟩, .int .i64 10]) ∧ Gr w w' := by
  obtain ⟨T1, t1⟩ : ∃ T, decide (n < -4611686018427387903) = T := ⟨_, rfl⟩
  obtain ⟨T2, t2⟩ : ∃ T, decide (4611686018427387903 < n) = T := ⟨_, rfl⟩
  have hT : T1 = true ∨ (T1 = false ∧ T2 = true) := by
    unfold zigOk at h
    by_cases c1 : n < -4611686018427387903
    · exact .inl (by rw [← t1]; exact decide_eq_true c1)
    · refine .inr ⟨by rw [← t1]; exact decide_eq_false c1, ?_⟩
      rw [← t2]; refine decide_eq_true ?_
      rw [decide_eq_true (by omega), Bool.true_and] at h
      have := of_decide_eq_false h
      omega
  clear h
  go_enter Tryz.func119, Tryz.ntmps119
  rcases hT with rfl | ⟨rfl, rfl⟩
  · go_wp2_with fail
    go_ret2
    exact ⟨rfl, Gr.refl _⟩
  · go_wp2_with fail
    go_ret2
    exact ⟨rfl, Gr.refl _⟩
set_option maxRecDepth 100000 in
set_option maxHeartbeats 1000000 in
theorem putIntR_ok (n : Int) (h : zigOk n = true) (w : World) :
    Calls Tryz.prog 119 #[.int .i64 n] w fun e w' => e = .returned (.tuple #[.string (encZ (zig n)), .int .i64 0]) ∧ Gr w w' := by
  obtain ⟨i0, hi, hz0, hz1, hz2⟩ := info_parts infoU8
  have HI := Lib.hid hi
  have HI0 := Lib.hid hz0
  have HI1 := Lib.hid hz1
  have HI2 := Lib.hid hz2
  clear hi hz0 hz1 hz2
  have HZ := Lib.hid (zigzagR_any n h)
  have hlt := zig_lt h
  unfold zigOk at h; simp only [Bool.and_eq_true, decide_eq_true_eq] at h
  have t1 : decide (n < -4611686018427387903) = false := decide_eq_false (by omega)
  have t2 : decide (4611686018427387903 < n) = false := decide_eq_false (by omega)
  clear h
  obtain ⟨z0, hz0⟩ : ∃ z, zig n = z := ⟨_, rfl⟩
  rw [hz0] at HZ hlt ⊢
  clear hz0
  go_enter Tryz.func119, Tryz.ntmps119
  go_wp2_with fail
  refine (HZ.out w).mono ?_
  rintro e w1 ⟨rfl, rfl⟩
  clear HZ
  go_wp2_with fail
  go_loopw [4, 5] (fun v4 v5 W => ∃ (z k : Nat) (pre : List (Nat × Bool)) (V : Value), v4 = .int .u64 (z : Int) ∧ V = v5 ∧ k < 10 ∧ z < 9223372036854775807 ∧ Hid (pre.length = k) ∧ Hid (Own w.heap.size 1 V k (grpC pre) W) ∧ Hid (Gr w W) ∧ Hid (pre ++ grpL (10 - k) z = grpL 10 z0 ∧ z < 128 ^ (10 - k))) (fun v4 _ _ => (intOf v4).toNat)
  case atStart => exact ⟨z0, 0, [], _, rfl, rfl, by decide, hlt, Lib.hid rfl, Lib.hid (Own.nil _ _ _), Lib.hid (Gr.refl _), Lib.hid ⟨rfl, by omega⟩⟩
  case round =>
    obtain ⟨z, k, pre, v5, rfl, rfl, hk, hzz, HPk, HO, HG, HK⟩ := hrel
    clear hlt
    by_cases hlt : z < 128
    · have t3 : decide (128 ≤ z) = false := decide_eq_false (by omega)
      have t3' : decide ((128 : Int) ≤ (z : Int)) = false := decide_eq_false (by omega)
      have hw : IntKind.u8.wrap (z : Int) = (z : Int) := by simp [IntKind.wrap, IntKind.bits, IntKind.signed]; omega
      have HNB : Hid (grpC pre ++ [.int .u8 (z : Int)] = bysC (encZ z0) ∧ (encZ z0).size = k + 1) := Lib.hid (by
        obtain ⟨j, hj⟩ : ∃ j, 10 - k = j + 1 := ⟨9 - k, by omega⟩
        have e := HK.out.1
        rw [hj, grpL, if_pos hlt] at e
        rw [bys_enc, encZ_size, ← e, grpC_push]
        exact ⟨rfl, by rw [List.length_append, HPk.out]; rfl⟩)
      go_wp2_with ((with_reducible show wpList _ _ _ (⟨some 29, _, _, _, _, _⟩ :: _) _ _); refine wpList_append_Own rfl (.tmp 25) (.tmp 28) 70 rfl 5 i0 (.int .u8 0) 1 1 Tryz.underlying70 HI.out HI0.out HI1.out HI2.out rfl (by decide) rfl (HO.out.gr (Gr.alloc wr _)) ⟨wr.heap.size, 0, none⟩ 1 1 [.int .u8 (z : Int)] rfl rfl (cells_new_at wr [.int .u8 (z : Int)] 5) ?h1 (by decide) ?b1 ?b2 ?hB ?_)
      case h1 => intro u hu; obtain rfl := List.mem_singleton.1 hu; rfl
      case b1 => unfold maxLen; omega
      case b2 => omega
      case hB => have := HG.out.size; simp; omega
      intro v29 w29 hown hchg _
      have HG9 : Hid (Gr w w29) := Lib.hid (gr_step HG.out (Gr.alloc _ _) hchg (fun g hg => HO.out.ge hg))
      obtain ⟨g6, o6, c6, rfl, _, _, _⟩ := hown.shape (by omega)
      rw [HNB.out.1] at hown
      have hconv := Go.Lib.run_convert_whole (P := Tryz.prog) w29 70 5 9 Tryz.underlying70 Tryz.underlying5 Tryz.underlying9 g6 o6 (encZ z0) (bys_own hown) c6
      rw [HNB.out.2] at hconv
      clear hown hchg HO HG HNB hw t3 t3' HK HPk
      go_wp2_with fail
      go_ret2
      exact ⟨rfl, HG9.out⟩
    · have t3 : decide (128 ≤ z) = true := decide_eq_true (by omega)
      have t3' : decide ((128 : Int) ≤ (z : Int)) = true := decide_eq_true (by omega)
      have hk9 : k + 1 < 10 := by
        rcases Nat.lt_or_ge (k + 1) 10 with h | h
        · exact h
        · have h2 := HK.out.2
          rw [show 10 - k = 1 by omega] at h2
          omega
      have HS : Hid ((pre ++ [(z % 128, false)]) ++ grpL (10 - (k + 1)) (z / 128) = grpL 10 z0 ∧ z / 128 < 128 ^ (10 - (k + 1))) := Lib.hid (by
        have h2 := HK.out.2
        obtain ⟨j, hj⟩ : ∃ j, 10 - k = j + 1 := ⟨9 - k, by omega⟩
        rw [show 10 - (k + 1) = j by omega]
        rw [hj, Nat.pow_succ] at h2
        refine ⟨?_, Nat.div_lt_of_lt_mul (by rw [Nat.mul_comm]; exact h2)⟩
        rw [← HK.out.1, hj, grpL, if_neg hlt, List.append_assoc]; rfl)
      have HVal : Hid (Value.int .u8 ((z : Int) % 128 + 128) = .int .u8 (grpN (z % 128, false) : Int)) := Lib.hid (by
        unfold grpN
        rw [if_neg (by simp), or128 _ (by omega)]
        congr 1)
      have em : (z : Int) % 128 + 128 ≤ 255 := by omega
      have em0 : 0 ≤ (z : Int) % 128 + 128 := by omega
      have hw8 : IntKind.u8.wrap ((z : Int) % 128 + 128) = (z : Int) % 128 + 128 := by simp [IntKind.wrap, IntKind.bits, IntKind.signed]; omega
      go_wp2_with ((with_reducible show wpList _ _ _ (⟨some 22, _, _, _, _, _⟩ :: _) _ _); refine wpList_append_Own rfl (.tmp 16) (.tmp 21) 70 rfl 5 i0 (.int .u8 0) 1 1 Tryz.underlying70 HI.out HI0.out HI1.out HI2.out rfl (by decide) rfl (HO.out.gr (Gr.alloc wr _)) ⟨wr.heap.size, 0, none⟩ 1 1 [.int .u8 ((z : Int) % 128 + 128)] rfl rfl (cells_new_at wr [.int .u8 ((z : Int) % 128 + 128)] 5) ?h1 (by decide) ?b1 ?b2 ?hB ?_)
      case h1 => intro u hu; obtain rfl := List.mem_singleton.1 hu; rfl
      case b1 => unfold maxLen; omega
      case b2 => omega
      case hB => have := HG.out.size; simp; omega
      intro v22 w22 hown hchg _
      have HG2 : Hid (Gr w w22) := Lib.hid (gr_step HG.out (Gr.alloc _ _) hchg (fun g hg => HO.out.ge hg))
      have HO2 : Hid (Own w.heap.size 1 v22 (k + 1) (grpC (pre ++ [(z % 128, false)])) w22) := Lib.hid (by
        have h := hown
        rw [HVal.out] at h
        rw [grpC_push]
        exact h)
      obtain ⟨q, hq⟩ : ∃ q, z / 128 = q := ⟨_, rfl⟩
      have h3 : (z : Int) / 128 = (q : Int) := by omega
      have h4 : (z : Int).tdiv 128 = (q : Int) := by rw [Int.tdiv_eq_ediv_of_nonneg (by omega)]; exact h3
      have h5 : IntKind.u64.wrap (q : Int) = (q : Int) := by rw [wrap_u64]; omega
      have h6 : q < z := by omega
      rw [hq] at HS
      clear hq
      have HP2 : Hid ((pre ++ [(z % 128, false)]).length = k + 1) := Lib.hid (by rw [List.length_append, HPk.out]; rfl)
      clear hown hchg HO HG HVal HK HPk em em0 hw8
      go_wp2_with fail
      go_roundw
      case rel => exact ⟨q, k + 1, _, _, rfl, rfl, hk9, by omega, HP2, HO2, HG2, HS⟩
      case measure => simp [intOf]; omega
end Go.Proofs.YtjnnhhengpinmaaGreatDoor
