/- The contract of the statements' helper hex. -/
import Derived.Test.YtbkhkpcnclhoiaaDoorFew
namespace Go.Proofs.YtbkhkpcnclhoiaaDoor
open Go.RowKit Go.Shelf
attribute [local go_sem] gAt gUpon
attribute [local simp] Gr.refl Gr.alloc

/-- the sixteen digits -/
def hexAll : ByteArray := ⟨#[48, 49, 50, 51, 52, 53, 54, 55, 56, 57, 97, 98, 99, 100, 101, 102]⟩
def hexDig (n : Nat) : UInt8 := hexAll.data.getD n 0
def hexL (l : List UInt8) : List UInt8 := l.flatMap fun b => [hexDig (b.toNat / 16), hexDig (b.toNat % 16)]
def hexD (s : ByteArray) : ByteArray := ⟨(hexL s.data.toList).toArray⟩

theorem hexL_length (l : List UInt8) : (hexL l).length = 2 * l.length := by
  induction l with
  | nil => rfl
  | cons b l ih => rw [hexL, List.flatMap_cons, List.length_append, ← hexL, ih, List.length_cons]; simp; omega
theorem hexL_append (a b : List UInt8) : hexL (a ++ b) = hexL a ++ hexL b := by simp [hexL]
theorem hex_ext : ∀ d : Nat, d < 16 → hexAll.extract d (d + 1) = ⟨#[hexDig d]⟩ := by decide +kernel
theorem hex_add (l : List UInt8) (b : UInt8) (w1 : World) (h : l.length ≤ 100000) : (Op.stringOp .add (⟨l.toArray⟩ : ByteArray) ⟨#[b]⟩).run Tryd.prog w1 = .ok (.string ⟨(l ++ [b]).toArray⟩) w1 := by
  rw [run_string_add_sum]
  · congr 3
  · have h1 : (⟨l.toArray⟩ : ByteArray).size = l.length := List.size_toArray
    have h2 : (⟨#[b]⟩ : ByteArray).size = 1 := rfl
    rw [h1, h2]; omega

set_option maxRecDepth 100000 in
set_option maxHeartbeats 1000000 in
theorem hex_any (s : ByteArray) (w : World) (hs : s.size ≤ 1000) :
    Calls Tryd.prog 36 #[.string s] w fun e w' => e = .returned (.string (hexD s)) ∧ Gr w w' := by
  go_enter Tryd.func36, Tryd.ntmps36
  go_wp2_with fail
  go_loopw [3, 4] (fun v3 v4 W => ∃ (k : Nat), k ≤ s.size ∧ v4 = .int .i64 (k : Int) ∧ v3 = .string ⟨(hexL (s.data.toList.take k)).toArray⟩ ∧ Hid (Gr w W)) (fun _ v4 _ => s.size - (intOf v4).toNat)
  case atStart => exact ⟨0, Nat.zero_le _, rfl, rfl, Lib.hid (Gr.refl _)⟩
  case round =>
    obtain ⟨k, hk, rfl, rfl, HG⟩ := hrel
    by_cases hlt : k < s.size
    · have ht : decide (k < s.size) = true := decide_eq_true hlt
      obtain ⟨N, hN⟩ : ∃ N : Nat, (s[k]'hlt).toNat = N := ⟨_, rfl⟩
      have hN2 : N < 256 := by rw [← hN]; exact UInt8.toNat_lt _
      have hadd1 : ∀ w1, (Op.stringOp .add (⟨(hexL (s.data.toList.take k)).toArray⟩ : ByteArray) ((⟨#[48, 49, 50, 51, 52, 53, 54, 55, 56, 57, 97, 98, 99, 100, 101, 102]⟩ : ByteArray).extract (N / 16) (N / 16 + 1))).run Tryd.prog w1 = .ok (.string ⟨(hexL (s.data.toList.take k) ++ [hexDig (N / 16)]).toArray⟩) w1 := by
        intro w1
        have e := hex_ext (N / 16) (by omega)
        rw [show (⟨#[48, 49, 50, 51, 52, 53, 54, 55, 56, 57, 97, 98, 99, 100, 101, 102]⟩ : ByteArray) = hexAll from rfl, e]
        exact hex_add _ _ w1 (by rw [hexL_length, List.length_take]; omega)
      have hadd2 : ∀ w1, (Op.stringOp .add (⟨(hexL (s.data.toList.take k) ++ [hexDig (N / 16)]).toArray⟩ : ByteArray) ((⟨#[48, 49, 50, 51, 52, 53, 54, 55, 56, 57, 97, 98, 99, 100, 101, 102]⟩ : ByteArray).extract (N % 16) (N % 16 + 1))).run Tryd.prog w1 = .ok (.string ⟨(hexL (s.data.toList.take (k + 1))).toArray⟩) w1 := by
        intro w1
        have e := hex_ext (N % 16) (by omega)
        rw [show (⟨#[48, 49, 50, 51, 52, 53, 54, 55, 56, 57, 97, 98, 99, 100, 101, 102]⟩ : ByteArray) = hexAll from rfl, e, hex_add _ _ w1 (by rw [List.length_append, hexL_length, List.length_take]; simp; omega)]
        have hlt' : k < s.data.toList.length := by simpa using hlt
        have hk : s.data.toList[k] = s[k]'hlt := by simp; rfl
        have e2 : hexL (s.data.toList.take (k + 1)) = hexL (s.data.toList.take k) ++ [hexDig (N / 16), hexDig (N % 16)] := by
          rw [List.take_succ_eq_append_getElem hlt', hexL_append, hk]
          simp [hexL, hN]
        rw [e2]
        simp
      go_upto_region 5 with fail
      go_quiet (fail)
      rename_i nq
      have hg5 : Gr wr (wr.drewN nq) := below_drewN (Below.refl _ _) nq
      generalize wr.drewN nq = w5 at hg5 ⊢
      have HG5 := Lib.hid (HG.out.trans hg5)
      clear hadd1 hadd2 hg5 HG hN
      go_wp2_with fail
      go_roundw
      case rel => exact ⟨k + 1, by omega, by go_num, rfl, HG5⟩
      case measure => simp [intOf]; omega
    · have ht : decide (k < s.size) = false := decide_eq_false hlt
      have HE : Hid ((⟨(hexL (s.data.toList.take k)).toArray⟩ : ByteArray) = hexD s) := Lib.hid (by
        rw [List.take_of_length_le (by simp; omega)]; rfl)
      go_wp2_with fail
      go_ret
      exact ⟨by rw [← HE.out]; rfl, HG.out⟩
end Go.Proofs.YtbkhkpcnclhoiaaDoor
