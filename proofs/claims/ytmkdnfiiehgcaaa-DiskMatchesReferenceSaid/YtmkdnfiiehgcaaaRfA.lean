/- The reference's disk: how it lies in memory; apply and Visible. -/
import Derived.Test.YtmkdnfiiehgcaaaDsR
import Derived.Test.YtmkdnfiiehgcaaaCutA
namespace Go.Proofs.Ytmkdnfiiehgcaaa
open Go Go.RowKit
attribute [local go_sem] gAt gUpon
attribute [local simp] Gr.refl Gr.alloc

/-- the reference's disk in state d, in block gx, its blocks all in S -/
def RefAt (S : Nat → Prop) (gx n : Nat) (d : Dk) (W : World) : Prop :=
  ∃ v0 v1 : Value, S gx ∧ (∀ g, v0.ownBlock = some g → S g ∧ g ≠ gx) ∧ (∀ g, v1.ownBlock = some g → S g ∧ g ≠ gx ∧ v0.ownBlock ≠ some g) ∧
    W.heap[gx]? = some (.cells #[v0, v1, .bool d.off, .int .i64 (d.left : Int)] 43 (0, 0)) ∧ Own 0 1 v0 n (byC d.dur) W ∧ Own 0 2 v1 d.pend.length (pC d.pend) W
theorem RefAt.keep {S R : Nat → Prop} {gx n : Nat} {d : Dk} {W V : World} (h : RefAt S gx n d W) (hc : Chs R W V) (hd : ∀ k, S k → ¬ R k) : RefAt S gx n d V := by
  obtain ⟨v0, v1, s, h0, h1, hr, o0, o1⟩ := h
  exact ⟨v0, v1, s, h0, h1, hc.block hr (hd _ s), o0.keepS hc (fun g hg => hd g (h0 g hg).1), o1.keepS hc (fun g hg => hd g (h1 g hg).1)⟩
theorem RefAt.mono {S S' : Nat → Prop} {gx n : Nat} {d : Dk} {W : World} (h : RefAt S gx n d W) (hS : ∀ k, S k → S' k) : RefAt S' gx n d W := by
  obtain ⟨v0, v1, s, h0, h1, hr, o0, o1⟩ := h
  exact ⟨v0, v1, hS _ s, fun g hg => ⟨hS _ (h0 g hg).1, (h0 g hg).2⟩, fun g hg => ⟨hS _ (h1 g hg).1, (h1 g hg).2⟩, hr, o0, o1⟩
theorem RefAt.gr {S : Nat → Prop} {gx n : Nat} {d : Dk} {W V : World} (h : RefAt S gx n d W) (hg : Gr W V) : RefAt S gx n d V := h.keep (R := fun _ => False) (Chs.of_gr hg) (fun _ _ h => h)
theorem cells4 {W : World} {g : Nat} {a b c d : Value} {t : TypeId} (h : W.heap[g]? = some (.cells #[a, b, c, d] t (0, 0))) :
    W.cell? ⟨g, 0, none⟩ = some a ∧ W.cell? ⟨g, 1, none⟩ = some b ∧ W.cell? ⟨g, 2, none⟩ = some c ∧ W.cell? ⟨g, 3, none⟩ = some d ∧ ∀ i, W.frozen? ⟨g, i, none⟩ = false :=
  ⟨by rw [cell_of_row _ _ _ _ _ _ h]; rfl, by rw [cell_of_row _ _ _ _ _ _ h]; rfl, by rw [cell_of_row _ _ _ _ _ _ h]; rfl, by rw [cell_of_row _ _ _ _ _ _ h]; rfl, fun i => frozen_of_row _ _ _ _ _ h⟩
theorem own_set {B g off n c i : Nat} {b : List UInt8} {x : UInt8} {w : World} (h : Own B 1 (.slice (some ⟨g, off, none⟩) n c) n (byC b) w) (hi : i < n) :
    Own B 1 (.slice (some ⟨g, off, none⟩) n c) n (byC (b.set i x)) (w.setCell ⟨g, off + i, none⟩ (.int .u8 (x.toNat : Int))) := by
  obtain ⟨hl, h⟩ := h
  rcases h with ⟨h, _⟩ | ⟨g', off', cap', he, hB, hn, hcm, hx, hw⟩
  · cases h
  · injection he with e1 e2 e3
    injection e1 with e1
    injection e1 with e4 e5
    subst e4 e5 e3
    have hsome := (hw i (by omega)).1
    obtain ⟨u0, hu0⟩ := Option.isSome_iff_exists.1 hsome
    refine ⟨by rw [byC_length, List.length_set]; rw [byC_length] at hl; exact hl, .inr ⟨g, off, c, rfl, hB, hn, hcm, fun j u hj => ?_, fun j hj => ?_⟩⟩
    · rw [← byC_set, List.getElem?_set] at hj
      by_cases hij : i = j
      · subst hij
        rw [if_pos rfl] at hj
        split at hj
        · rw [World.cell?_setCell_same _ _ _ hu0]; exact hj
        · cases hj
      · rw [if_neg hij] at hj
        rw [World.cell?_setCell_other _ _ _ _ (fun e => by have : off + i = off + j := congrArg Addr.off e; omega)]
        exact hx j u hj
    · obtain ⟨h1, h2⟩ := hw j hj
      have e : w.setCell ⟨g, off + i, none⟩ (.int .u8 (x.toNat : Int)) = w.setCells g (off + i) [.int .u8 (x.toNat : Int)] := rfl
      rw [e]
      exact ⟨World.isSome_setCells g _ _ _ _ h1, by rw [World.frozen?_setCells]; exact h2⟩
def ApI (B g off n c o : Nat) (b : List UInt8) (s : ByteArray) (k : Nat) (w W : World) : Prop := Chs (fun j => some g = some j) w W ∧ Own B 1 (.slice (some ⟨g, off, none⟩) n c) n (byC (putB b o (s.data.toList.take k))) W
theorem apply_any {B : Nat} {p : Option Addr} {n c o : Nat} {b : List UInt8} {s : ByteArray} {w : World} (h : Own B 1 (.slice p n c) n (byC b) w) (hos : o + s.size ≤ n) (hn1 : 1 ≤ n) (hn : n ≤ 4194304) :
    Calls Try.prog 44 #[.slice p n c, .int .i64 (o : Int), .string s] w fun e w' => e = .returned (.tuple #[]) ∧ Own B 1 (.slice p n c) n (byC (putW b (o, s))) w' ∧ Chs (fun j => (Value.slice p n c).ownBlock = some j) w w' := by
  obtain ⟨g, off, rfl⟩ : ∃ g off, p = some ⟨g, off, none⟩ := by
    rcases h.2 with ⟨_, h0⟩ | ⟨g, off, cap, he, _⟩
    · omega
    · injection he with e1; exact ⟨g, off, e1⟩
  have hbl : b.length = n := by have := h.1; rw [byC_length] at this; omega
  have hnc : n ≤ c := by
    rcases h.2 with ⟨_, h0⟩ | ⟨g, off, cap, he, _, hc, _⟩
    · omega
    · injection he with e1 e2 e3; omega
  have hsl : s.data.toList.length = s.size := by simp
  have H0 : Hid (ApI B g off n c o b s 0 w w) := Lib.hid ⟨Chs.refl _ _, by rw [List.take_zero, putB_none]; exact h⟩
  have HSL := Lib.hid hsl
  have HBL := Lib.hid hbl
  clear h hsl hbl
  go_enter Try.func44, Try.ntmps44
  go_wp2_with fail
  go_loopw [6] (fun v6 W => ∃ k : Nat, k ≤ s.size ∧ v6 = .int .i64 (k : Int) ∧ Hid (ApI B g off n c o b s k w W)) (fun v6 _ => s.size - (intOf v6).toNat)
  case atStart => exact ⟨0, Nat.zero_le _, rfl, H0⟩
  case round =>
    obtain ⟨k, hks, rfl, HC⟩ := hrel
    by_cases hlt : k < s.size
    · have tk : decide (k < s.size) = true := decide_eq_true hlt
      have hxl : k < s.data.toList.length := by rw [HSL.out]; exact hlt
      have hx : s.data.toList[k]? = some (s[k]'hlt) := by rw [List.getElem?_eq_getElem hxl]; simp; rfl
      have HN : Hid (ApI B g off n c o b s (k + 1) w (wr.setCell ⟨g, off + (o + k), none⟩ (.int .u8 ((s[k]'hlt).toNat : Int)))) := Lib.hid (by
        refine ⟨HC.out.1.trans (chs_setCell (S := fun j => some g = some j) wr rfl _ _) (fun _ _ h => h), ?_⟩
        rw [← putB_step (by rw [HSL.out, HBL.out]; exact hos) hx]
        exact own_set HC.out.2 (by omega))
      obtain ⟨u, hcell, hfr⟩ : ∃ u, wr.cell? ⟨g, off + (o + k), none⟩ = some u ∧ wr.frozen? ⟨g, off + (o + k), none⟩ = false := by
        rcases HC.out.2.2 with ⟨h, _⟩ | ⟨g', off', cap', he, hB, hn', hcm, hx', hw⟩
        · cases h
        · injection he with e1 e2 e3
          injection e1 with e1
          injection e1 with e4 e5
          subst e4 e5 e3
          obtain ⟨h1, h2⟩ := hw (o + k) (by omega)
          obtain ⟨u, hu⟩ := Option.isSome_iff_exists.1 h1
          exact ⟨u, hu, h2⟩
      have ew : IntKind.i64.wrap ((o : Int) + (k : Int)) = ((o + k : Nat) : Int) := by rw [IntWalk.i64_in _ (by omega)]; rfl
      have hidx : o + k < n := by omega
      go_wp2_with fail
      go_roundw
      case rel => exact ⟨k + 1, by omega, by go_num, HN⟩
      case measure => simp [intOf]; omega
    · have tk : decide (k < s.size) = false := decide_eq_false hlt
      have hk : k = s.size := by omega
      subst hk
      have HE : Hid (Own B 1 (.slice (some ⟨g, off, none⟩) n c) n (byC (putW b (o, s))) wr ∧ Chs (fun j => some g = some j) w wr) := Lib.hid ⟨by have h := HC.out.2; rw [List.take_of_length_le (by rw [HSL.out]; exact Nat.le_refl _)] at h; exact h, HC.out.1⟩
      clear HC
      go_wp2_with fail
      go_end0
      exact ⟨rfl, HE.out⟩
theorem own_bytes {B g o0 n c o m : Nat} {b : List UInt8} {w : World} (h : Own B 1 (.slice (some ⟨g, o0, none⟩) n c) n (byC b) w) (hm : o + m ≤ n) : Go.Lib.Bytes w g (o0 + o) ⟨((b.drop o).take m).toArray⟩ ∧ (⟨((b.drop o).take m).toArray⟩ : ByteArray).size = m := by
  have hbl : b.length = n := by have := h.1; rw [byC_length] at this; omega
  have hl : ((b.drop o).take m).length = m := by rw [List.length_take, List.length_drop]; omega
  have hsz : (⟨((b.drop o).take m).toArray⟩ : ByteArray).size = m := by show ((b.drop o).take m).toArray.size = m; simp [hl]
  refine ⟨?_, hsz⟩
  rcases h.2 with ⟨h, _⟩ | ⟨g', off', cap', he, hB, hn', hcm, hx, hw⟩
  · cases h
  · injection he with e1 e2 e3
    injection e1 with e1
    injection e1 with e4 e5
    subst e4 e5 e3
    intro i hi
    have hi' : i < m := by omega
    have hb : b[o + i]? = some (b[o + i]'(by omega)) := List.getElem?_eq_getElem (by omega)
    have := hx (o + i) (.int .u8 ((b[o + i]'(by omega)).toNat : Int)) (by simp [byC, hb])
    rw [← Nat.add_assoc] at this
    rw [this]
    have : (⟨((b.drop o).take m).toArray⟩ : ByteArray)[i] = b[o + i]'(by omega) := by
      show ((b.drop o).take m).toArray[i]'_ = _
      simp
    rw [this]
end Go.Proofs.Ytmkdnfiiehgcaaa
