/- The reference's numbers (small ones are enough for leaves). -/
import Derived.Test.YtakhomofckcckaaGreatDoorMQ
import Derived.Test.YtakhomofckcckaaGreatDoorMP
namespace Go.Proofs.YtakhomofckcckaaGreatDoor
open Go Go.RowKit Go.Shelf
attribute [local go_sem] gAt gUpon
attribute [local simp] Gr.refl Gr.alloc

theorem numB_lo : ∀ n, n < 64 → numB n = ⟨#[UInt8.ofNat (2 * n)]⟩ := by decide +kernel
theorem numB_hi : ∀ n, n < 128 → 64 ≤ n → numB n = ⟨#[UInt8.ofNat (2 * n % 128 + 128), 1]⟩ := by decide +kernel
theorem zigzag_any (n : Nat) (hn : n ≤ 127) (w : World) :
    Calls Tryz.prog 69 #[.int .i64 (n : Int)] w fun e w' => e = .returned (.int .u64 ((2 * n : Nat) : Int)) ∧ w = w' := by
  have t1 : decide ((n : Int) < 0) = false := decide_eq_false (by omega)
  have h1 : IntKind.u64.wrap (n : Int) = (n : Int) := by rw [wrap_u64]; omega
  have h2 : IntKind.u64.wrap ((n : Int) * 2) = ((2 * n : Nat) : Int) := by rw [wrap_u64]; omega
  go_enter Tryz.func69, Tryz.ntmps69
  go_wp2_with fail
  go_ret
  exact ⟨congrArg (fun z => Ending.returned (.int .u64 z)) (show 2 * (n : Int) = ((2 * n : Nat) : Int) by omega), rfl⟩
/-- the bytes that stand ahead of the last one -/
def hdB (n k : Nat) : List Value := if k = 0 then [] else [.int .u8 ((2 * n % 128 + 128 : Nat) : Int)]
def bysC (b : ByteArray) : List Value := b.data.toList.map fun x => .int .u8 (x.toNat : Int)
theorem numB_parts {n z k : Nat} (hn : n ≤ 127) (hz : z < 128) (h : (z = 2 * n ∧ k = 0) ∨ (64 ≤ n ∧ z = 1 ∧ k = 1)) : hdB n k ++ [.int .u8 (z : Int)] = bysC (numB n) ∧ (numB n).size = k + 1 := by
  rcases h with ⟨rfl, rfl⟩ | ⟨h64, rfl, rfl⟩
  · rw [numB_lo n (by omega)]
    refine ⟨?_, rfl⟩
    show [Value.int .u8 ((2 * n : Nat) : Int)] = [Value.int .u8 ((UInt8.ofNat (2 * n)).toNat : Int)]
    rw [UInt8.toNat_ofNat_of_lt' (by unfold UInt8.size; omega)]
  · rw [numB_hi n (by omega) h64]
    refine ⟨?_, rfl⟩
    show [Value.int .u8 ((2 * n % 128 + 128 : Nat) : Int), .int .u8 1] = [Value.int .u8 ((UInt8.ofNat (2 * n % 128 + 128)).toNat : Int), .int .u8 ((1 : UInt8).toNat : Int)]
    rw [UInt8.toNat_ofNat_of_lt' (by unfold UInt8.size; omega)]
    rfl
theorem bys_own {B g o c m : Nat} {w : World} {b : ByteArray} (h : Own B 1 (.slice (some ⟨g, o, none⟩) m c) m (bysC b) w) : Go.Lib.Bytes w g o b := by
  intro i hi
  have hi' : i < b.data.toList.length := by rw [Array.length_toList]; exact hi
  rw [h.cell i (.int .u8 (((b.data.toList)[i]'hi').toNat : Int)) (by unfold bysC; rw [List.getElem?_map, List.getElem?_eq_getElem hi']; rfl)]
  rfl
set_option maxRecDepth 100000 in
set_option maxHeartbeats 1000000 in
theorem putIntR_any (n : Nat) (hn : n ≤ 127) (w : World) :
    Calls Tryz.prog 34 #[.int .i64 (n : Int)] w fun e w' => e = .returned (.tuple #[.string (numB n), .int .i64 0]) ∧ Gr w w' := by
  obtain ⟨i0, hi, hz0, hz1, hz2⟩ := info_parts infoU8
  have HI := Lib.hid hi
  have HI0 := Lib.hid hz0
  have HI1 := Lib.hid hz1
  have HI2 := Lib.hid hz2
  clear hi hz0 hz1 hz2
  have HZ := Lib.hid (zigzag_any n (by omega))
  have t1 : decide ((n : Int) < -4611686018427387903) = false := decide_eq_false (by omega)
  have t2 : decide (4611686018427387903 < (n : Int)) = false := decide_eq_false (by omega)
  have t2' : decide (4611686018427387903 < n) = false := decide_eq_false (by omega)
  have Hn := Lib.hid hn
  obtain ⟨z0, hz0⟩ : ∃ z, z = 2 * n := ⟨_, rfl⟩
  rw [← hz0] at HZ
  have HZ0 := Lib.hid hz0
  clear hz0 hn
  go_enter Tryz.func34, Tryz.ntmps34
  go_wp2_with fail
  refine (HZ.out w).mono ?_
  rintro e w1 ⟨rfl, rfl⟩
  go_wp2_with fail
  go_loopw [4, 5] (fun v4 v5 W => ∃ (z k : Nat) (V : Value), v4 = .int .u64 (z : Int) ∧ V = v5 ∧ Hid (Own w.heap.size 1 V k (hdB n k) W) ∧ Hid (Gr w W) ∧ Hid ((z = 2 * n ∧ k = 0) ∨ (64 ≤ n ∧ z = 1 ∧ k = 1))) (fun v4 _ _ => (intOf v4).toNat)
  case atStart => exact ⟨z0, 0, _, rfl, rfl, Lib.hid (Own.nil _ _ _), Lib.hid (Gr.refl _), Lib.hid (.inl ⟨HZ0.out, rfl⟩)⟩
  case round =>
    obtain ⟨z, k, v5, rfl, rfl, HO, HG, HK⟩ := hrel
    clear HZ0 HZ
    by_cases hlt : z < 128
    · have t3 : decide (128 ≤ z) = false := decide_eq_false (by omega)
      have t3' : decide ((128 : Int) ≤ (z : Int)) = false := decide_eq_false (by omega)
      have hw : IntKind.u8.wrap (z : Int) = (z : Int) := by simp [IntKind.wrap, IntKind.bits, IntKind.signed]; omega
      have HNB := Lib.hid (numB_parts Hn.out hlt HK.out)
      have hk1 : k ≤ 1 := by have := HK.out; omega
      go_wp2_with ((with_reducible show wpList _ _ _ (⟨some 29, _, _, _, _, _⟩ :: _) _ _); refine wpList_append_Own rfl (.tmp 25) (.tmp 28) 62 rfl 5 i0 (.int .u8 0) 1 1 Tryz.underlying62 HI.out HI0.out HI1.out HI2.out rfl (by decide) rfl (HO.out.gr (Gr.alloc wr _)) ⟨wr.heap.size, 0, none⟩ 1 1 [.int .u8 (z : Int)] rfl rfl (cells_new_at wr [.int .u8 (z : Int)] 5) ?h1 (by decide) ?b1 ?b2 ?hB ?_)
      case h1 => intro u hu; obtain rfl := List.mem_singleton.1 hu; rfl
      case b1 => unfold maxLen; omega
      case b2 => omega
      case hB => have := HG.out.size; simp; omega
      intro v29 w29 hown hchg _
      have HG9 : Hid (Gr w w29) := Lib.hid (gr_step HG.out (Gr.alloc _ _) hchg (fun g hg => HO.out.ge hg))
      obtain ⟨g6, o6, c6, rfl, _, _, _⟩ := hown.shape (by omega)
      rw [HNB.out.1] at hown
      have hconv := Go.Lib.run_convert_whole (P := Tryz.prog) w29 62 5 9 Tryz.underlying62 Tryz.underlying5 Tryz.underlying9 g6 o6 (numB n) (bys_own hown) c6
      rw [HNB.out.2] at hconv
      clear hown hchg HO HG HNB hw t3 t3'
      go_wp2_with fail
      go_ret2
      exact ⟨rfl, HG9.out⟩
    · have t3 : decide (128 ≤ z) = true := decide_eq_true (by omega)
      have t3' : decide ((128 : Int) ≤ (z : Int)) = true := decide_eq_true (by omega)
      have HKK : Hid (z = 2 * n ∧ k = 0 ∧ 64 ≤ n) := Lib.hid (by have := HK.out; omega)
      have hz255 : z ≤ 254 := by have := HKK.out; have := Hn.out; omega
      go_wp2_with ((with_reducible show wpList _ _ _ (⟨some 22, _, _, _, _, _⟩ :: _) _ _); refine wpList_append_Own rfl (.tmp 16) (.tmp 21) 62 rfl 5 i0 (.int .u8 0) 1 1 Tryz.underlying62 HI.out HI0.out HI1.out HI2.out rfl (by decide) rfl (HO.out.gr (Gr.alloc wr _)) ⟨wr.heap.size, 0, none⟩ 1 1 [.int .u8 ((z : Int) % 128 + 128)] rfl rfl (cells_new_at wr [.int .u8 ((z : Int) % 128 + 128)] 5) ?h1 (by decide) ?b1 ?b2 ?hB ?_)
      case h1 => intro u hu; obtain rfl := List.mem_singleton.1 hu; rfl
      case b1 => have := HKK.out; unfold maxLen; omega
      case b2 => have := HKK.out; omega
      case hB => have := HG.out.size; simp; omega
      intro v22 w22 hown hchg _
      have HG2 : Hid (Gr w w22) := Lib.hid (gr_step HG.out (Gr.alloc _ _) hchg (fun g hg => HO.out.ge hg))
      have HO2 : Hid (Own w.heap.size 1 v22 1 (hdB n 1) w22) := Lib.hid (by
        have h := hown
        obtain ⟨e1, e2, e3⟩ := HKK.out
        subst e1 e2
        have e4 : ((2 * n : Nat) : Int) % 128 + 128 = ((2 * n % 128 + 128 : Nat) : Int) := by omega
        rw [e4] at h
        exact h)
      have h3 : (z : Int) / 128 = ((1 : Nat) : Int) := by have := HKK.out; have := Hn.out; omega
      have h4 : (z : Int).tdiv 128 = ((1 : Nat) : Int) := by rw [Int.tdiv_eq_ediv_of_nonneg (by omega)]; exact h3
      clear hown hchg HO HG
      go_wp2_with fail
      go_roundw
      case rel => exact ⟨1, 1, _, rfl, rfl, HO2, HG2, Lib.hid (.inr ⟨HKK.out.2.2, rfl, rfl⟩)⟩
      case measure => simp [intOf]; omega
end Go.Proofs.YtakhomofckcckaaGreatDoor
