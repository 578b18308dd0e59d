/- The contracts of slices.Backward over a slice of strings, and over a slice of steps (a string and a bool). -/
import Derived.RangeFuncNested
import Derived.RangeFuncBound
import Derived.RangeFuncCalls
import Derived.RangeFuncLeaves
import Derived.RangeFuncWrites
import Derived.Shelf.Abstract
import Derived.Shelf.RegionOpen
import Derived.OwnWalkIn
import Derived.TacticsInMore
import Derived.LoopNIn
import Derived.LoopIn
import Derived.Test.YtjnnhhengpinmaaGreatDoorMD
namespace Go.Proofs.YtjnnhhengpinmaaGreatDoor
open Go.RowKit Go.Shelf
attribute [local go_sem] Oper.semAt_some

/-- the iterator's variable and the slice's block stay as they are -/
def KpB (b1 : Nat) (bb : Option Nat) (W W' : World) : Prop := W'.heap[b1]? = W.heap[b1]? ∧ ∀ k, bb = some k → W'.heap[k]? = W.heap[k]?
theorem KpB.t {b1 : Nat} {bb : Option Nat} {A B C : World} (h : KpB b1 bb A B) (k : KpB b1 bb B C) : KpB b1 bb A C := ⟨k.1.trans h.1, fun j e => (k.2 j e).trans (h.2 j e)⟩
theorem KpB.put {b1 : Nat} {bb : Option Nat} {n : Nat} (h1 : b1 < n) (h2 : ∀ k, bb = some k → k < n) (W : World) (l : Nat) (o o' : Obj) (hl : n ≤ l) (_ : W.heap[l]? = some o) (_ : o.isCells = false) (_ : o.isWalk = false) : KpB b1 bb W (W.putObj l o') :=
  ⟨World.putObj_heap_other (by omega), fun k e => World.putObj_heap_other (by have := h2 k e; omega)⟩
theorem KpB.chg {b1 : Nat} {bb : Option Nat} {b : Option Nat} {W W' : World} (h : Chg b W W') (h1 : b1 < W.heap.size) (h2 : some b1 ≠ b) (h3 : ∀ k, bb = some k → k < W.heap.size ∧ some k ≠ b) : KpB b1 bb W W' :=
  ⟨h.2.2.2.2 _ h1 h2, fun k e => h.2.2.2.2 _ (h3 k e).1 (h3 k e).2⟩

set_option maxRecDepth 100000 in
set_option maxHeartbeats 2000000 in
theorem backS1_in (n : Nat) (hn : 1 ≤ n) (L : List ByteArray) (l b1 bb off m cap : Nat) (hm : L.length = m) (hmax : m ≤ 9223372036854775807) (J Jx : Nat → World → Prop)
    (hY : ∀ k W, k < m → J k W → YieldAt Fence.wide (n - 1) Tryz.prog l #[.int .i64 ((m - 1 - k : Nat) : Int), .string (L.reverse.getD k ⟨#[]⟩)] W fun e W' =>
      (e = .returned (.bool true) ∧ J (k + 1) W' ∧ KpB b1 (some bb) W W') ∨ (e = .returned (.bool false) ∧ Jx (k + 1) W'))
    (W : World) (h1 : W.heap[b1]? = some (.cells #[.slice (some ⟨bb, off, none⟩) m cap] 25 (0, 0))) (h2 : ∀ (j : Nat) x, L[j]? = some x → W.cell? ⟨bb, off + j, none⟩ = some (.string x)) (h0 : J 0 W) :
    CallsIn Fence.wide n Tryz.prog 124 #[.func (.yield l) #[] #[], .pointer (some ⟨b1, 0, none⟩)] W fun e W' => (∃ v, e = .returned v) ∧
      (J m W' ∨ (∃ k, k ≤ m ∧ Jx k W')) := by
  have hmi : IntKind.i64.wrap ((m : Int) - 1) = (m : Int) - 1 := IntWalk.i64_in _ (by omega)
  have c0 : W.cell? ⟨b1, 0, none⟩ = some (.slice (some ⟨bb, off, none⟩) m cap) := cell_of_row _ _ _ _ _ _ h1
  have H1 := Lib.hid h1
  have H2 := Lib.hid h2
  have Hm := Lib.hid hm
  clear h1 h2 hm
  refine callsIn_of_wp Tryz.func124 rfl trivial ?_ rfl
  simp only [Tryz.ntmps124, List.size_toArray, List.length_cons, List.length_nil, Nat.reduceAdd, Nat.reduceSub, Array.replicate_succ, Array.replicate_zero, List.push_toArray, List.append_toArray, List.nil_append, List.cons_append]
  gi_wp2
  clear c0 hmi
  gi_loopw [3] (fun t wr => ∃ (k : Nat) (z : Int), k ≤ m ∧ Hid (z + 1 + (k : Int) = (m : Int)) ∧ t = .int .i64 z ∧ J k wr ∧ Hid (wr.heap[b1]? = some (.cells #[.slice (some ⟨bb, off, none⟩) m cap] 25 (0, 0))) ∧ Hid (∀ (j : Nat) x, L[j]? = some x → wr.cell? ⟨bb, off + j, none⟩ = some (.string x)))
    (fun t _ => (intOf t + 1).toNat)
  case atStart => exact ⟨0, (m : Int) - 1, Nat.zero_le _, Lib.hid (by omega), rfl, h0, H1, H2⟩
  clear H1 H2 h0
  case round =>
    obtain ⟨k, z, hk, Hz, rfl, hJs, H1, H2⟩ := hrel
    have c1 : wr.cell? ⟨b1, 0, none⟩ = some (.slice (some ⟨bb, off, none⟩) m cap) := cell_of_row _ _ _ _ _ _ H1.out
    by_cases hlt : k < m
    · obtain ⟨i, rfl⟩ : ∃ i : Nat, z = (i : Int) := ⟨z.toNat, by have := Hz.out; omega⟩
      have Hi : Hid (i + 1 + k = m) := Lib.hid (by have := Hz.out; omega)
      have him : i < m := by have := Hi.out; omega
      have hel : L[i]? = some (L.reverse.getD k ⟨#[]⟩) := by
        have h1 := Hi.out
        have h2 := Hm.out
        rw [List.getD_eq_getElem?_getD, List.getElem?_reverse (by omega), show L.length - 1 - k = i by omega, List.getElem?_eq_getElem (by omega)]; rfl
      have hc := H2.out i _ hel
      obtain ⟨fn, tmps, assign, body, hy, hR⟩ := hY k wr hlt hJs
      rw [show m - 1 - k = i by have := Hi.out; omega] at hy
      clear hel
      generalize L.reverse.getD k ⟨#[]⟩ = X at hy hc
      gi_wp2
      refine hR.mono ?_
      rintro e W3 (⟨rfl, hJ3, hk3⟩ | ⟨rfl, hJx3⟩)
      · have G1 : Hid (W3.heap[b1]? = some (.cells #[.slice (some ⟨bb, off, none⟩) m cap] 25 (0, 0))) := Lib.hid (hk3.1.trans H1.out)
        have G2 : Hid (∀ (j : Nat) x, L[j]? = some x → W3.cell? ⟨bb, off + j, none⟩ = some (.string x)) := Lib.hid (fun j x hx => (World.cell?_of_block (w := wr) (hk3.2 _ rfl)).trans (H2.out j x hx))
        have HJ3 : Hid (J (k + 1) W3) := Lib.hid hJ3
        clear hk3 hJ3 hy hR hc c1
        gi_wp2
        go_roundw
        case rel => exact ⟨k + 1, (i : Int) - 1, by omega, Lib.hid (by have := Hi.out; omega), by go_num, HJ3.out, G1, G2⟩
        case measure => simp [intOf]
      · gi_wp2
        refine bodyPost_ret (results_none rfl _ _ _) rfl ?_
        exact ⟨⟨_, rfl⟩, .inr ⟨k + 1, by omega, hJx3⟩⟩
    · have hz : z = -1 := by have := Hz.out; omega
      have Hkm : Hid (k = m) := Lib.hid (by omega)
      subst hz
      gi_wp2
      go_end0
      exact ⟨⟨_, rfl⟩, .inl (by rw [← Hkm.out]; exact hJs)⟩

set_option maxRecDepth 100000 in
theorem backS0_in (n : Nat) (l b1 : Nat) (J : World → Prop)
    (W : World) (h1 : W.heap[b1]? = some (.cells #[.slice none 0 0] 25 (0, 0))) (h0 : J W) :
    CallsIn Fence.wide n Tryz.prog 124 #[.func (.yield l) #[] #[], .pointer (some ⟨b1, 0, none⟩)] W fun e W' => (∃ v, e = .returned v) ∧ J W' := by
  have c0 : W.cell? ⟨b1, 0, none⟩ = some (.slice none 0 0) := cell_of_row _ _ _ _ _ _ h1
  refine callsIn_of_wp Tryz.func124 rfl trivial ?_ rfl
  simp only [Tryz.ntmps124, List.size_toArray, List.length_cons, List.length_nil, Nat.reduceAdd, Nat.reduceSub, Array.replicate_succ, Array.replicate_zero, List.push_toArray, List.append_toArray, List.nil_append, List.cons_append]
  gi_wp2
  gi_loopw [3] (fun t wr => t = .int .i64 (-1) ∧ wr = W)
    (fun t _ => 0)
  case atStart => exact ⟨by go_num, rfl⟩
  case round =>
    obtain ⟨rfl, rfl⟩ := hrel
    gi_wp2
    go_end0
    exact ⟨⟨_, rfl⟩, h0⟩
/-- a step as a value -/
def sideV (x : ByteArray × Bool) : Value := .agg #[.string x.1, .bool x.2]
def SideAt (W : World) (b o : Nat) (x : ByteArray × Bool) : Prop := W.cell? ⟨b, o, none⟩ = some (.string x.1) ∧ W.cell? ⟨b, o + 1, none⟩ = some (.bool x.2)
theorem SideAt.same {W W' : World} {b o : Nat} {x : ByteArray × Bool} (h : W'.heap[b]? = W.heap[b]?) (k : SideAt W b o x) : SideAt W' b o x :=
  ⟨(World.cell?_of_block (w := W) h).trans k.1, (World.cell?_of_block (w := W) h).trans k.2⟩

set_option maxRecDepth 100000 in
set_option maxHeartbeats 2000000 in
theorem backW1_in (n : Nat) (hn : 1 ≤ n) (L : List (ByteArray × Bool)) (l b1 bb off m cap : Nat) (hm : L.length = m) (hmax : m ≤ 9223372036854775807) (J Jx : Nat → World → Prop)
    (hY : ∀ k W, k < m → J k W → YieldAt Fence.wide (n - 1) Tryz.prog l #[.int .i64 ((m - 1 - k : Nat) : Int), sideV (L.reverse.getD k (⟨#[]⟩, false))] W fun e W' =>
      (e = .returned (.bool true) ∧ J (k + 1) W' ∧ KpB b1 (some bb) W W') ∨ (e = .returned (.bool false) ∧ Jx (k + 1) W'))
    (W : World) (h1 : W.heap[b1]? = some (.cells #[.slice (some ⟨bb, off, none⟩) m cap] 137 (0, 0))) (h2 : ∀ (j : Nat) x, L[j]? = some x → SideAt W bb (off + j * 2) x) (h0 : J 0 W) :
    CallsIn Fence.wide n Tryz.prog 131 #[.func (.yield l) #[] #[], .pointer (some ⟨b1, 0, none⟩)] W fun e W' => (∃ v, e = .returned v) ∧
      (J m W' ∨ (∃ k, k ≤ m ∧ Jx k W')) := by
  have hmi : IntKind.i64.wrap ((m : Int) - 1) = (m : Int) - 1 := IntWalk.i64_in _ (by omega)
  have c0 : W.cell? ⟨b1, 0, none⟩ = some (.slice (some ⟨bb, off, none⟩) m cap) := cell_of_row _ _ _ _ _ _ h1
  have H1 := Lib.hid h1
  have H2 := Lib.hid h2
  have Hm := Lib.hid hm
  clear h1 h2 hm
  refine callsIn_of_wp Tryz.func131 rfl trivial ?_ rfl
  simp only [Tryz.ntmps131, List.size_toArray, List.length_cons, List.length_nil, Nat.reduceAdd, Nat.reduceSub, Array.replicate_succ, Array.replicate_zero, List.push_toArray, List.append_toArray, List.nil_append, List.cons_append]
  gi_wp2
  clear c0 hmi
  gi_loopw [3] (fun t wr => ∃ (k : Nat) (z : Int), k ≤ m ∧ Hid (z + 1 + (k : Int) = (m : Int)) ∧ t = .int .i64 z ∧ J k wr ∧ Hid (wr.heap[b1]? = some (.cells #[.slice (some ⟨bb, off, none⟩) m cap] 137 (0, 0))) ∧ Hid (∀ (j : Nat) x, L[j]? = some x → SideAt wr bb (off + j * 2) x))
    (fun t _ => (intOf t + 1).toNat)
  case atStart => exact ⟨0, (m : Int) - 1, Nat.zero_le _, Lib.hid (by omega), rfl, h0, H1, H2⟩
  clear H1 H2 h0
  case round =>
    obtain ⟨k, z, hk, Hz, rfl, hJs, H1, H2⟩ := hrel
    have c1 : wr.cell? ⟨b1, 0, none⟩ = some (.slice (some ⟨bb, off, none⟩) m cap) := cell_of_row _ _ _ _ _ _ H1.out
    by_cases hlt : k < m
    · obtain ⟨i, rfl⟩ : ∃ i : Nat, z = (i : Int) := ⟨z.toNat, by have := Hz.out; omega⟩
      have Hi : Hid (i + 1 + k = m) := Lib.hid (by have := Hz.out; omega)
      have him : i < m := by have := Hi.out; omega
      have hel : L[i]? = some (L.reverse.getD k (⟨#[]⟩, false)) := by
        have h1 := Hi.out
        have h2 := Hm.out
        rw [List.getD_eq_getElem?_getD, List.getElem?_reverse (by omega), show L.length - 1 - k = i by omega, List.getElem?_eq_getElem (by omega)]; rfl
      have hc := H2.out i _ hel
      obtain ⟨fn, tmps, assign, body, hy, hR⟩ := hY k wr hlt hJs
      rw [show m - 1 - k = i by have := Hi.out; omega] at hy
      clear hel
      generalize L.reverse.getD k (⟨#[]⟩, false) = X at hy hc
      obtain ⟨X1, X2⟩ := X
      have hca := hc.1
      have hcb := hc.2
      clear hc
      dsimp only [sideV] at hy hca hcb
      gi_wp2
      refine hR.mono ?_
      rintro e W3 (⟨rfl, hJ3, hk3⟩ | ⟨rfl, hJx3⟩)
      · have G1 : Hid (W3.heap[b1]? = some (.cells #[.slice (some ⟨bb, off, none⟩) m cap] 137 (0, 0))) := Lib.hid (hk3.1.trans H1.out)
        have G2 : Hid (∀ (j : Nat) x, L[j]? = some x → SideAt W3 bb (off + j * 2) x) := Lib.hid (fun j x hx => SideAt.same (hk3.2 _ rfl) (H2.out j x hx))
        have HJ3 : Hid (J (k + 1) W3) := Lib.hid hJ3
        clear hk3 hJ3 hy hR hca hcb c1
        gi_wp2
        go_roundw
        case rel => exact ⟨k + 1, (i : Int) - 1, by omega, Lib.hid (by have := Hi.out; omega), by go_num, HJ3.out, G1, G2⟩
        case measure => simp [intOf]
      · gi_wp2
        refine bodyPost_ret (results_none rfl _ _ _) rfl ?_
        exact ⟨⟨_, rfl⟩, .inr ⟨k + 1, by omega, hJx3⟩⟩
    · have hz : z = -1 := by have := Hz.out; omega
      have Hkm : Hid (k = m) := Lib.hid (by omega)
      subst hz
      gi_wp2
      go_end0
      exact ⟨⟨_, rfl⟩, .inl (by rw [← Hkm.out]; exact hJs)⟩

set_option maxRecDepth 100000 in
theorem backW0_in (n : Nat) (l b1 : Nat) (J : World → Prop)
    (W : World) (h1 : W.heap[b1]? = some (.cells #[.slice none 0 0] 137 (0, 0))) (h0 : J W) :
    CallsIn Fence.wide n Tryz.prog 131 #[.func (.yield l) #[] #[], .pointer (some ⟨b1, 0, none⟩)] W fun e W' => (∃ v, e = .returned v) ∧ J W' := by
  have c0 : W.cell? ⟨b1, 0, none⟩ = some (.slice none 0 0) := cell_of_row _ _ _ _ _ _ h1
  refine callsIn_of_wp Tryz.func131 rfl trivial ?_ rfl
  simp only [Tryz.ntmps131, List.size_toArray, List.length_cons, List.length_nil, Nat.reduceAdd, Nat.reduceSub, Array.replicate_succ, Array.replicate_zero, List.push_toArray, List.append_toArray, List.nil_append, List.cons_append]
  gi_wp2
  gi_loopw [3] (fun t wr => t = .int .i64 (-1) ∧ wr = W)
    (fun t _ => 0)
  case atStart => exact ⟨by go_num, rfl⟩
  case round =>
    obtain ⟨rfl, rfl⟩ := hrel
    gi_wp2
    go_end0
    exact ⟨⟨_, rfl⟩, h0⟩
end Go.Proofs.YtjnnhhengpinmaaGreatDoor
