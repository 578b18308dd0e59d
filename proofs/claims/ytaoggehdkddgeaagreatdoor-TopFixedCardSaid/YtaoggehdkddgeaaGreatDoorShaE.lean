/- The contract of slices.Chunk at 64 bytes, for the proofs of package digest. -/
import Derived.RangeFuncNested
import Derived.RangeFuncBound
import Derived.RangeFuncCalls
import Derived.RangeFuncLeaves
import Derived.RangeFuncWrites
import Derived.Shelf.Abstract
import Derived.Shelf.RegionOpen
import Derived.OwnWalkIn
import Derived.TacticsInMore
import Derived.LoopNIn
import Derived.LoopIn
import Derived.Test.YtaoggehdkddgeaaGreatDoorShaD
namespace Go.Proofs.YtaoggehdkddgeaaGreatDoor
open Go.RowKit Go.Shelf
attribute [local go_sem] Oper.semAt_some

/-- the iterator's two variables stay as they are -/
def Kp2 (b1 b2 : Nat) (W W' : World) : Prop := W'.heap[b1]? = W.heap[b1]? ∧ W'.heap[b2]? = W.heap[b2]?

set_option maxRecDepth 100000 in
set_option maxHeartbeats 2000000 in
theorem chunk1_in (n : Nat) (hn : 1 ≤ n) (l b1 b2 bb off len cap m : Nat) (hlen : len = 64 * m) (hcap : len ≤ cap) (hmax : len ≤ 9223372036854775807 - 64) (J Jx : Nat → World → Prop)
    (hJq : ∀ k W, J k W → ∀ q, J k (W.drewN q))
    (hY : ∀ k W, k < m → J k W → YieldAt Fence.wide (n - 1) Tryz.prog l #[.slice (some ⟨bb, off + 64 * k, none⟩) 64 64] W fun e W' =>
      (e = .returned (.bool true) ∧ J (k + 1) W' ∧ Kp2 b1 b2 W W') ∨ (e = .returned (.bool false) ∧ Jx (k + 1) W'))
    (W : World) (h1 : W.heap[b1]? = some (.cells #[.slice (some ⟨bb, off, none⟩) len cap] 73 (0, 0))) (h2 : W.heap[b2]? = some (.cells #[.int .i64 64] 3 (0, 0))) (h0 : J 0 W) :
    CallsIn Fence.wide n Tryz.prog 140 #[.func (.yield l) #[] #[], .pointer (some ⟨b1, 0, none⟩), .pointer (some ⟨b2, 0, none⟩)] W fun e W' => (∃ v, e = .returned v) ∧
      (J m W' ∨ (∃ k, k ≤ m ∧ Jx k W')) := by
  refine callsIn_of_wp Tryz.func140 rfl trivial ?_ rfl
  simp only [Tryz.ntmps140, List.size_toArray, List.length_cons, List.length_nil, Nat.reduceAdd, Nat.reduceSub, Array.replicate_succ, Array.replicate_zero, List.push_toArray, List.append_toArray, List.nil_append, List.cons_append]
  gi_wp2
  gi_loopw [4] (fun t wr => ∃ k i : Nat, k ≤ m ∧ Hid (i = 64 * k) ∧ t = .int .i64 i ∧ J k wr ∧ Hid (wr.heap[b1]? = some (.cells #[.slice (some ⟨bb, off, none⟩) len cap] 73 (0, 0))) ∧ Hid (wr.heap[b2]? = some (.cells #[.int .i64 64] 3 (0, 0))))
    (fun t _ => len - (intOf t).toNat)
  case atStart => exact ⟨0, 0, Nat.zero_le _, rfl, rfl, h0, h1, h2⟩
  case round =>
    obtain ⟨k, i, hk, Hi, rfl, hJs, H1, H2⟩ := hrel
    have c1 : wr.cell? ⟨b1, 0, none⟩ = some (.slice (some ⟨bb, off, none⟩) len cap) := cell_of_row _ _ _ _ _ _ H1.out
    have c2 : wr.cell? ⟨b2, 0, none⟩ = some (.int .i64 64) := cell_of_row _ _ _ _ _ _ H2.out
    by_cases hlt : k < m
    · have Hlen := Lib.hid hlen
      have hil : i + 64 ≤ len := by have := Hi.out; omega
      have hmin : min (64 : Int) ((len - i : Nat) : Int) = 64 := by omega
      clear hlen
      gi_wp2
      refine wpIn_wide.2 ?_
      go_quiet (fail)
      rename_i nq
      obtain ⟨fn, tmps, assign, body, hy, hR⟩ := hY k (wr.drewN nq) hlt (hJq _ _ hJs nq)
      rw [show off + 64 * k = off + i by rw [Hi.out]] at hy
      gi_wp2
      refine hR.mono ?_
      rintro e W3 (⟨rfl, hJ3, hk3⟩ | ⟨rfl, hJx3⟩)
      · have G1 : Hid (W3.heap[b1]? = some (.cells #[.slice (some ⟨bb, off, none⟩) len cap] 73 (0, 0))) := Lib.hid (hk3.1.trans H1.out)
        have G2 : Hid (W3.heap[b2]? = some (.cells #[.int .i64 64] 3 (0, 0))) := Lib.hid (hk3.2.trans H2.out)
        have d2 : W3.cell? ⟨b2, 0, none⟩ = some (.int .i64 64) := cell_of_row _ _ _ _ _ _ G2.out
        have HJ3 : Hid (J (k + 1) W3) := Lib.hid hJ3
        clear hk3 hJ3 hy hR
        gi_wp2
        go_roundw
        case rel => exact ⟨k + 1, i + 64, by omega, Lib.hid (by have := Hi.out; omega), by go_num, HJ3.out, G1, G2⟩
        case measure => simp [intOf]; omega
      · gi_wp2
        refine bodyPost_ret (results_none rfl _ _ _) rfl ?_
        exact ⟨⟨_, rfl⟩, .inr ⟨k + 1, by omega, hJx3⟩⟩
    · have Hkm : Hid (k = m) := Lib.hid (by omega)
      have hil : i = len := by have := Hi.out; omega
      clear hlen
      subst hil
      gi_wp2
      go_end0
      exact ⟨⟨_, rfl⟩, .inl (by rw [← Hkm.out]; exact hJs)⟩

theorem grownBy_drewN (w : World) (q : Nat) : w.grownBy (w.drewN q) none := ⟨rfl, rfl, rfl, Nat.le_refl _, fun _ _ _ => rfl⟩
/-- 'for c := range slices.Chunk(b, 64)' over m pieces -/
theorem chunk_stops (n : Nat) (hn : 1 ≤ n) (b1 b2 bb off len cap m : Nat) (hlen : len = 64 * m) (hcap : len ≤ cap) (hmax : len ≤ 9223372036854775807 - 64) (w : World)
    (h1 : w.heap[b1]? = some (.cells #[.slice (some ⟨bb, off, none⟩) len cap] 73 (0, 0))) (h2 : w.heap[b2]? = some (.cells #[.int .i64 64] 3 (0, 0))) :
    SeqStopsK Fence.wide n Tryz.prog 140 #[.pointer (some ⟨b1, 0, none⟩), .pointer (some ⟨b2, 0, none⟩)] (fun k : _root_.Fin m => #[.slice (some ⟨bb, off + 64 * k.1, none⟩) 64 64]) (Kp2 b1 b2) (fun xs => xs = List.finRange m) (fun _ => True) m w := by
  intro l J Jx W hW hJ hJx hY h0
  have g1 := (hW.block b1 (Array.getElem?_eq_some_iff.1 h1).1).trans h1
  have g2 := (hW.block b2 (Array.getElem?_eq_some_iff.1 h2).1).trans h2
  refine (chunk1_in n hn l b1 b2 bb off len cap m hlen hcap hmax (fun k => J ((List.finRange m).take k)) (fun k => Jx ((List.finRange m).take k)) (fun k W' hj q => hJ _ W' _ none hj (grownBy_drewN W' q) (fun r e => by cases e)) ?_ W g1 g2 h0).mono ?_
  · intro k W' hk hj
    have ht : (List.finRange m).take (k + 1) = (List.finRange m).take k ++ [⟨k, hk⟩] := by
      rw [List.take_succ_eq_append_getElem (by simpa using hk)]; simp
    have := hY ((List.finRange m).take k) ⟨k, hk⟩ W' hj (by simp; omega)
    rw [← ht] at this
    exact this
  · rintro e W' ⟨he, hj | ⟨k, _, hj⟩⟩
    · exact ⟨he, .inl ⟨_, rfl, by have h := hj; rw [List.take_of_length_le (by simp)] at h; exact h⟩⟩
    · exact ⟨he, .inr ⟨_, trivial, hj⟩⟩

theorem chunk_any (a : Option Addr) (len cap : Nat) (w : World) :
    Calls Tryz.prog 68 #[.slice a len cap, .int .i64 64] w fun e w' => e = .returned (.func (.func 140) #[] #[.pointer (some ⟨w.heap.size, 0, none⟩), .pointer (some ⟨w.heap.size + 1, 0, none⟩)]) ∧ (w.alloc (.cells #[.slice a len cap] 73)).alloc (.cells #[.int .i64 64] 3) = w' := by
  go_enter Tryz.func68, Tryz.ntmps68
  go_wp2
  go_ret
  exact ⟨rfl, rfl⟩
end Go.Proofs.YtaoggehdkddgeaaGreatDoor
