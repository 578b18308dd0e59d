/- The laws' helper put: a write applied to a content. -/
import Derived.Test.YtmkdnfiiehgcaaaDsF
namespace Go.Proofs.Ytmkdnfiiehgcaaa
open Go.RowKit

/-- one byte more of a write -/
theorem putB_step {b s : List UInt8} {o k : Nat} {x : UInt8} (h : o + s.length ≤ b.length) (hx : s[k]? = some x) : (putB b o (s.take k)).set (o + k) x = putB b o (s.take (k + 1)) := by
  have hk : k < s.length := (List.getElem?_eq_some_iff.1 hx).1
  have e1 : (s.take k).length = k := by rw [List.length_take]; omega
  have e2 : (s.take (k + 1)).length = k + 1 := by rw [List.length_take]; omega
  have l1 : (putB b o (s.take k)).length = b.length := putB_len (by omega)
  have l2 : (putB b o (s.take (k + 1))).length = b.length := putB_len (by omega)
  apply List.ext_getElem?
  intro j
  rw [List.getElem?_set, putB_get _ _ _ _ (by omega), putB_get _ _ _ _ (by omega), e1, e2, l1]
  by_cases hj : o + k = j
  · subst hj
    rw [if_pos rfl, if_pos (by omega), if_pos (by omega), show o + k - o = k by omega, List.getElem?_take, if_pos (by omega), hx]
  · rw [if_neg hj]
    by_cases h1 : o ≤ j ∧ j < o + k
    · rw [if_pos h1, if_pos (by omega), List.getElem?_take, if_pos (by omega), List.getElem?_take, if_pos (by omega)]
    · rw [if_neg h1, if_neg (by omega)]
theorem putB_none (b : List UInt8) (o : Nat) : putB b o [] = b := by
  unfold putB; simp
theorem byC_set (b : List UInt8) (i : Nat) (x : UInt8) : (byC b).set i (.int .u8 (x.toNat : Int)) = byC (b.set i x) := by
  unfold byC; rw [List.map_set]
theorem byRow_set {U : TypeId} {g i : Nat} {b : List UInt8} {x : UInt8} {w : World} (h : ByRow U g b w) : ByRow U g (b.set i x) (w.setCell ⟨g, i, none⟩ (.int .u8 (x.toNat : Int))) := by
  unfold ByRow
  rw [heap_setCell_same w g i _ _ _ h]
  congr 2
  rw [← byC_set]
  simp
def PutI (g o : Nat) (b : List UInt8) (s : ByteArray) (k : Nat) (w W : World) : Prop := Chs (fun j => j = g) w W ∧ ByRow 5 g (putB b o (s.data.toList.take k)) W
theorem put_any {g n o : Nat} {b : List UInt8} {s : ByteArray} {w : World} (h : ByRow 5 g b w) (hb : b.length = n) (hos : o + s.size ≤ n) (hn : n ≤ 4194304) :
    Calls Try.prog 27 #[.slice (some ⟨g, 0, none⟩) n n, .int .i64 (o : Int), .string s] w fun e w' => e = .returned (.tuple #[]) ∧ ByRow 5 g (putW b (o, s)) w' ∧ Chs (fun j => j = g) w w' := by
  have hsl : s.data.toList.length = s.size := by simp
  have H0 : Hid (PutI g o b s 0 w w) := Lib.hid ⟨Chs.refl _ _, by rw [List.take_zero, putB_none]; exact h⟩
  have HSL := Lib.hid hsl
  have HBL := Lib.hid hb
  clear h hsl
  go_enter Try.func27, Try.ntmps27
  go_wp2_with fail
  go_loopw [6] (fun v6 W => ∃ k : Nat, k ≤ s.size ∧ v6 = .int .i64 (k : Int) ∧ Hid (PutI g o b s k w W)) (fun v6 _ => s.size - (intOf v6).toNat)
  case atStart => exact ⟨0, Nat.zero_le _, rfl, H0⟩
  case round =>
    obtain ⟨k, hks, rfl, HC⟩ := hrel
    by_cases hlt : k < s.size
    · have tk : decide (k < s.size) = true := decide_eq_true hlt
      have hxl : k < s.data.toList.length := by rw [HSL.out]; exact hlt
      have hx : s.data.toList[k]? = some (s[k]'hlt) := by rw [List.getElem?_eq_getElem hxl]; simp; rfl
      have HN : Hid (PutI g o b s (k + 1) w (wr.setCell ⟨g, o + k, none⟩ (.int .u8 ((s[k]'hlt).toNat : Int)))) := Lib.hid (by
        refine ⟨HC.out.1.trans (chs_setCell (S := fun j => j = g) wr rfl _ _) (fun _ _ h => h), ?_⟩
        rw [← putB_step (by rw [HSL.out, HBL.out]; exact hos) hx]
        exact byRow_set HC.out.2)
      have hcell : ∃ u, wr.cell? ⟨g, o + k, none⟩ = some u := by
        have hl : (putB b o (s.data.toList.take k)).length = n := by rw [putB_len (by rw [List.length_take, HSL.out, HBL.out]; omega), HBL.out]
        exact ⟨_, HC.out.2.get (o + k) _ (List.getElem?_eq_getElem (by rw [hl]; omega))⟩
      obtain ⟨u, hcell⟩ := hcell
      have hfr : wr.frozen? ⟨g, o + k, none⟩ = false := frozen_of_row _ _ _ _ _ HC.out.2
      have ew : IntKind.i64.wrap ((o : Int) + (k : Int)) = ((o + k : Nat) : Int) := by rw [IntWalk.i64_in _ (by omega)]; rfl
      have hidx : o + k < n := by omega
      go_wp2_with fail
      go_roundw
      case rel => exact ⟨k + 1, by omega, by go_num, HN⟩
      case measure => simp [intOf]; omega
    · have tk : decide (k < s.size) = false := decide_eq_false hlt
      have hk : k = s.size := by omega
      subst hk
      have HE : Hid (ByRow 5 g (putW b (o, s)) wr ∧ Chs (fun j => j = g) w wr) := Lib.hid ⟨by have h := HC.out.2; rw [List.take_of_length_le (by rw [HSL.out]; exact Nat.le_refl _)] at h; exact h, HC.out.1⟩
      clear HC
      go_wp2_with fail
      go_end0
      exact ⟨rfl, HE.out⟩
end Go.Proofs.Ytmkdnfiiehgcaaa
