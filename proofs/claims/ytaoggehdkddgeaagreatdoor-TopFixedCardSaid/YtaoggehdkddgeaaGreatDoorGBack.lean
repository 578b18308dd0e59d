/- The contracts of slices.Backward over a slice of strings, and over a slice of steps (a string and a bool). -/
import Derived.RangeFuncNested
import Derived.RangeFuncBound
import Derived.RangeFuncCalls
import Derived.RangeFuncLeaves
import Derived.RangeFuncWrites
import Derived.Shelf.Abstract
import Derived.Shelf.RegionOpen
import Derived.OwnWalkIn
import Derived.TacticsInMore
import Derived.LoopNIn
import Derived.LoopIn
import Derived.Test.YtaoggehdkddgeaaGreatDoorGNode
import Derived.Test.YtaoggehdkddgeaaGreatDoorMF
section
namespace Go.Proofs.YtaoggehdkddgeaaGreatDoor
open Go.RowKit Go.Shelf
attribute [local go_sem] Oper.semAt_some

/-- the iterator's variable and the slice's block stay as they are -/
def KpB (b1 : Nat) (bb : Option Nat) (W W' : World) : Prop := W'.heap[b1]? = W.heap[b1]? ∧ ∀ k, bb = some k → W'.heap[k]? = W.heap[k]?
theorem KpB.t {b1 : Nat} {bb : Option Nat} {A B C : World} (h : KpB b1 bb A B) (k : KpB b1 bb B C) : KpB b1 bb A C := ⟨k.1.trans h.1, fun j e => (k.2 j e).trans (h.2 j e)⟩
theorem KpB.put {b1 : Nat} {bb : Option Nat} {n : Nat} (h1 : b1 < n) (h2 : ∀ k, bb = some k → k < n) (W : World) (l : Nat) (o o' : Obj) (hl : n ≤ l) (_ : W.heap[l]? = some o) (_ : o.isCells = false) (_ : o.isWalk = false) : KpB b1 bb W (W.putObj l o') :=
  ⟨World.putObj_heap_other (by omega), fun k e => World.putObj_heap_other (by have := h2 k e; omega)⟩
theorem KpB.chg {b1 : Nat} {bb : Option Nat} {b : Option Nat} {W W' : World} (h : Chg b W W') (h1 : b1 < W.heap.size) (h2 : some b1 ≠ b) (h3 : ∀ k, bb = some k → k < W.heap.size ∧ some k ≠ b) : KpB b1 bb W W' :=
  ⟨h.2.2.2.2 _ h1 h2, fun k e => h.2.2.2.2 _ (h3 k e).1 (h3 k e).2⟩

set_option maxRecDepth 100000 in
set_option maxHeartbeats 2000000 in
theorem backS1_in (n : Nat) (hn : 1 ≤ n) (L : List ByteArray) (l b1 bb off m cap : Nat) (hm : L.length = m) (hmax : m ≤ 9223372036854775807) (J Jx : Nat → World → Prop)
    (hY : ∀ k W, k < m → J k W → YieldAt Fence.wide (n - 1) Tryz.prog l #[.int .i64 ((m - 1 - k : Nat) : Int), .string (L.reverse.getD k ⟨#[]⟩)] W fun e W' =>
      (e = .returned (.bool true) ∧ J (k + 1) W' ∧ KpB b1 (some bb) W W') ∨ (e = .returned (.bool false) ∧ Jx (k + 1) W'))
    (W : World) (h1 : W.heap[b1]? = some (.cells #[.slice (some ⟨bb, off, none⟩) m cap] 27 (0, 0))) (h2 : ∀ (j : Nat) x, L[j]? = some x → W.cell? ⟨bb, off + j, none⟩ = some (.string x)) (h0 : J 0 W) :
    CallsIn Fence.wide n Tryz.prog 146 #[.func (.yield l) #[] #[], .pointer (some ⟨b1, 0, none⟩)] W fun e W' => (∃ v, e = .returned v) ∧
      (J m W' ∨ (∃ k, k ≤ m ∧ Jx k W')) := by
  have hmi : IntKind.i64.wrap ((m : Int) - 1) = (m : Int) - 1 := IntWalk.i64_in _ (by omega)
  have c0 : W.cell? ⟨b1, 0, none⟩ = some (.slice (some ⟨bb, off, none⟩) m cap) := cell_of_row _ _ _ _ _ _ h1
  have H1 := Lib.hid h1
  have H2 := Lib.hid h2
  have Hm := Lib.hid hm
  clear h1 h2 hm
  refine callsIn_of_wp Tryz.func146 rfl trivial ?_ rfl
  simp only [Tryz.ntmps146, List.size_toArray, List.length_cons, List.length_nil, Nat.reduceAdd, Nat.reduceSub, Array.replicate_succ, Array.replicate_zero, List.push_toArray, List.append_toArray, List.nil_append, List.cons_append]
  gi_wp2
  clear c0 hmi
  gi_loopw [3] (fun t wr => ∃ (k : Nat) (z : Int), k ≤ m ∧ Hid (z + 1 + (k : Int) = (m : Int)) ∧ t = .int .i64 z ∧ J k wr ∧ Hid (wr.heap[b1]? = some (.cells #[.slice (some ⟨bb, off, none⟩) m cap] 27 (0, 0))) ∧ Hid (∀ (j : Nat) x, L[j]? = some x → wr.cell? ⟨bb, off + j, none⟩ = some (.string x)))
    (fun t _ => (intOf t + 1).toNat)
  case atStart => exact ⟨0, (m : Int) - 1, Nat.zero_le _, Lib.hid (by omega), rfl, h0, H1, H2⟩
  clear H1 H2 h0
  case round =>
    obtain ⟨k, z, hk, Hz, rfl, hJs, H1, H2⟩ := hrel
    have c1 : wr.cell? ⟨b1, 0, none⟩ = some (.slice (some ⟨bb, off, none⟩) m cap) := cell_of_row _ _ _ _ _ _ H1.out
    by_cases hlt : k < m
    · obtain ⟨i, rfl⟩ : ∃ i : Nat, z = (i : Int) := ⟨z.toNat, by have := Hz.out; omega⟩
      have Hi : Hid (i + 1 + k = m) := Lib.hid (by have := Hz.out; omega)
      have him : i < m := by have := Hi.out; omega
      have hel : L[i]? = some (L.reverse.getD k ⟨#[]⟩) := by
        have h1 := Hi.out
        have h2 := Hm.out
        rw [List.getD_eq_getElem?_getD, List.getElem?_reverse (by omega), show L.length - 1 - k = i by omega, List.getElem?_eq_getElem (by omega)]; rfl
      have hc := H2.out i _ hel
      obtain ⟨fn, tmps, assign, body, hy, hR⟩ := hY k wr hlt hJs
      rw [show m - 1 - k = i by have := Hi.out; omega] at hy
      clear hel
      generalize L.reverse.getD k ⟨#[]⟩ = X at hy hc
      gi_wp2
      refine hR.mono ?_
      rintro e W3 (⟨rfl, hJ3, hk3⟩ | ⟨rfl, hJx3⟩)
      · have G1 : Hid (W3.heap[b1]? = some (.cells #[.slice (some ⟨bb, off, none⟩) m cap] 27 (0, 0))) := Lib.hid (hk3.1.trans H1.out)
        have G2 : Hid (∀ (j : Nat) x, L[j]? = some x → W3.cell? ⟨bb, off + j, none⟩ = some (.string x)) := Lib.hid (fun j x hx => (World.cell?_of_block (w := wr) (hk3.2 _ rfl)).trans (H2.out j x hx))
        have HJ3 : Hid (J (k + 1) W3) := Lib.hid hJ3
        clear hk3 hJ3 hy hR hc c1
        gi_wp2
        go_roundw
        case rel => exact ⟨k + 1, (i : Int) - 1, by omega, Lib.hid (by have := Hi.out; omega), by go_num, HJ3.out, G1, G2⟩
        case measure => simp [intOf]
      · gi_wp2
        refine bodyPost_ret (results_none rfl _ _ _) rfl ?_
        exact ⟨⟨_, rfl⟩, .inr ⟨k + 1, by omega, hJx3⟩⟩
    · have hz : z = -1 := by have := Hz.out; omega
      have Hkm : Hid (k = m) := Lib.hid (by omega)
      subst hz
      gi_wp2
      go_end0
      exact ⟨⟨_, rfl⟩, .inl (by rw [← Hkm.out]; exact hJs)⟩

set_option maxRecDepth 100000 in
theorem backS0_in (n : Nat) (l b1 : Nat) (J : World → Prop)
    (W : World) (h1 : W.heap[b1]? = some (.cells #[.slice none 0 0] 27 (0, 0))) (h0 : J W) :
    CallsIn Fence.wide n Tryz.prog 146 #[.func (.yield l) #[] #[], .pointer (some ⟨b1, 0, none⟩)] W fun e W' => (∃ v, e = .returned v) ∧ J W' := by
  have c0 : W.cell? ⟨b1, 0, none⟩ = some (.slice none 0 0) := cell_of_row _ _ _ _ _ _ h1
  refine callsIn_of_wp Tryz.func146 rfl trivial ?_ rfl
  simp only [Tryz.ntmps146, List.size_toArray, List.length_cons, List.length_nil, Nat.reduceAdd, Nat.reduceSub, Array.replicate_succ, Array.replicate_zero, List.push_toArray, List.append_toArray, List.nil_append, List.cons_append]
  gi_wp2
  gi_loopw [3] (fun t wr => t = .int .i64 (-1) ∧ wr = W)
    (fun t _ => 0)
  case atStart => exact ⟨by go_num, rfl⟩
  case round =>
    obtain ⟨rfl, rfl⟩ := hrel
    gi_wp2
    go_end0
    exact ⟨⟨_, rfl⟩, h0⟩
/-- a step as a value -/
def sideV (x : ByteArray × Bool) : Value := .agg #[.string x.1, .bool x.2]
def SideAt (W : World) (b o : Nat) (x : ByteArray × Bool) : Prop := W.cell? ⟨b, o, none⟩ = some (.string x.1) ∧ W.cell? ⟨b, o + 1, none⟩ = some (.bool x.2)
theorem SideAt.same {W W' : World} {b o : Nat} {x : ByteArray × Bool} (h : W'.heap[b]? = W.heap[b]?) (k : SideAt W b o x) : SideAt W' b o x :=
  ⟨(World.cell?_of_block (w := W) h).trans k.1, (World.cell?_of_block (w := W) h).trans k.2⟩

set_option maxRecDepth 100000 in
set_option maxHeartbeats 2000000 in
theorem backW1_in (n : Nat) (hn : 1 ≤ n) (L : List (ByteArray × Bool)) (l b1 bb off m cap : Nat) (hm : L.length = m) (hmax : m ≤ 9223372036854775807) (J Jx : Nat → World → Prop)
    (hY : ∀ k W, k < m → J k W → YieldAt Fence.wide (n - 1) Tryz.prog l #[.int .i64 ((m - 1 - k : Nat) : Int), sideV (L.reverse.getD k (⟨#[]⟩, false))] W fun e W' =>
      (e = .returned (.bool true) ∧ J (k + 1) W' ∧ KpB b1 (some bb) W W') ∨ (e = .returned (.bool false) ∧ Jx (k + 1) W'))
    (W : World) (h1 : W.heap[b1]? = some (.cells #[.slice (some ⟨bb, off, none⟩) m cap] 190 (0, 0))) (h2 : ∀ (j : Nat) x, L[j]? = some x → SideAt W bb (off + j * 2) x) (h0 : J 0 W) :
    CallsIn Fence.wide n Tryz.prog 155 #[.func (.yield l) #[] #[], .pointer (some ⟨b1, 0, none⟩)] W fun e W' => (∃ v, e = .returned v) ∧
      (J m W' ∨ (∃ k, k ≤ m ∧ Jx k W')) := by
  have hmi : IntKind.i64.wrap ((m : Int) - 1) = (m : Int) - 1 := IntWalk.i64_in _ (by omega)
  have c0 : W.cell? ⟨b1, 0, none⟩ = some (.slice (some ⟨bb, off, none⟩) m cap) := cell_of_row _ _ _ _ _ _ h1
  have H1 := Lib.hid h1
  have H2 := Lib.hid h2
  have Hm := Lib.hid hm
  clear h1 h2 hm
  refine callsIn_of_wp Tryz.func155 rfl trivial ?_ rfl
  simp only [Tryz.ntmps155, List.size_toArray, List.length_cons, List.length_nil, Nat.reduceAdd, Nat.reduceSub, Array.replicate_succ, Array.replicate_zero, List.push_toArray, List.append_toArray, List.nil_append, List.cons_append]
  gi_wp2
  clear c0 hmi
  gi_loopw [3] (fun t wr => ∃ (k : Nat) (z : Int), k ≤ m ∧ Hid (z + 1 + (k : Int) = (m : Int)) ∧ t = .int .i64 z ∧ J k wr ∧ Hid (wr.heap[b1]? = some (.cells #[.slice (some ⟨bb, off, none⟩) m cap] 190 (0, 0))) ∧ Hid (∀ (j : Nat) x, L[j]? = some x → SideAt wr bb (off + j * 2) x))
    (fun t _ => (intOf t + 1).toNat)
  case atStart => exact ⟨0, (m : Int) - 1, Nat.zero_le _, Lib.hid (by omega), rfl, h0, H1, H2⟩
  clear H1 H2 h0
  case round =>
    obtain ⟨k, z, hk, Hz, rfl, hJs, H1, H2⟩ := hrel
    have c1 : wr.cell? ⟨b1, 0, none⟩ = some (.slice (some ⟨bb, off, none⟩) m cap) := cell_of_row _ _ _ _ _ _ H1.out
    by_cases hlt : k < m
    · obtain ⟨i, rfl⟩ : ∃ i : Nat, z = (i : Int) := ⟨z.toNat, by have := Hz.out; omega⟩
      have Hi : Hid (i + 1 + k = m) := Lib.hid (by have := Hz.out; omega)
      have him : i < m := by have := Hi.out; omega
      have hel : L[i]? = some (L.reverse.getD k (⟨#[]⟩, false)) := by
        have h1 := Hi.out
        have h2 := Hm.out
        rw [List.getD_eq_getElem?_getD, List.getElem?_reverse (by omega), show L.length - 1 - k = i by omega, List.getElem?_eq_getElem (by omega)]; rfl
      have hc := H2.out i _ hel
      obtain ⟨fn, tmps, assign, body, hy, hR⟩ := hY k wr hlt hJs
      rw [show m - 1 - k = i by have := Hi.out; omega] at hy
      clear hel
      generalize L.reverse.getD k (⟨#[]⟩, false) = X at hy hc
      obtain ⟨X1, X2⟩ := X
      have hca := hc.1
      have hcb := hc.2
      clear hc
      dsimp only [sideV] at hy hca hcb
      gi_wp2
      refine hR.mono ?_
      rintro e W3 (⟨rfl, hJ3, hk3⟩ | ⟨rfl, hJx3⟩)
      · have G1 : Hid (W3.heap[b1]? = some (.cells #[.slice (some ⟨bb, off, none⟩) m cap] 190 (0, 0))) := Lib.hid (hk3.1.trans H1.out)
        have G2 : Hid (∀ (j : Nat) x, L[j]? = some x → SideAt W3 bb (off + j * 2) x) := Lib.hid (fun j x hx => SideAt.same (hk3.2 _ rfl) (H2.out j x hx))
        have HJ3 : Hid (J (k + 1) W3) := Lib.hid hJ3
        clear hk3 hJ3 hy hR hca hcb c1
        gi_wp2
        go_roundw
        case rel => exact ⟨k + 1, (i : Int) - 1, by omega, Lib.hid (by have := Hi.out; omega), by go_num, HJ3.out, G1, G2⟩
        case measure => simp [intOf]
      · gi_wp2
        refine bodyPost_ret (results_none rfl _ _ _) rfl ?_
        exact ⟨⟨_, rfl⟩, .inr ⟨k + 1, by omega, hJx3⟩⟩
    · have hz : z = -1 := by have := Hz.out; omega
      have Hkm : Hid (k = m) := Lib.hid (by omega)
      subst hz
      gi_wp2
      go_end0
      exact ⟨⟨_, rfl⟩, .inl (by rw [← Hkm.out]; exact hJs)⟩

set_option maxRecDepth 100000 in
theorem backW0_in (n : Nat) (l b1 : Nat) (J : World → Prop)
    (W : World) (h1 : W.heap[b1]? = some (.cells #[.slice none 0 0] 190 (0, 0))) (h0 : J W) :
    CallsIn Fence.wide n Tryz.prog 155 #[.func (.yield l) #[] #[], .pointer (some ⟨b1, 0, none⟩)] W fun e W' => (∃ v, e = .returned v) ∧ J W' := by
  have c0 : W.cell? ⟨b1, 0, none⟩ = some (.slice none 0 0) := cell_of_row _ _ _ _ _ _ h1
  refine callsIn_of_wp Tryz.func155 rfl trivial ?_ rfl
  simp only [Tryz.ntmps155, List.size_toArray, List.length_cons, List.length_nil, Nat.reduceAdd, Nat.reduceSub, Array.replicate_succ, Array.replicate_zero, List.push_toArray, List.append_toArray, List.nil_append, List.cons_append]
  gi_wp2
  gi_loopw [3] (fun t wr => t = .int .i64 (-1) ∧ wr = W)
    (fun t _ => 0)
  case atStart => exact ⟨by go_num, rfl⟩
  case round =>
    obtain ⟨rfl, rfl⟩ := hrel
    gi_wp2
    go_end0
    exact ⟨⟨_, rfl⟩, h0⟩
end Go.Proofs.YtaoggehdkddgeaaGreatDoor
end
section
namespace Go.Proofs.YtaoggehdkddgeaaGreatDoor
open Go.RowKit Go.Shelf
attribute [local go_sem] Oper.semAt_some

/-- v is a slice of steps that holds L -/
def SidesAt (v : Value) (L : List (ByteArray × Bool)) (w : World) : Prop :=
  (v = .slice none 0 0 ∧ L = []) ∨ ∃ g off cap, v = .slice (some ⟨g, off, none⟩) L.length cap ∧ L.length ≤ cap ∧ cap ≤ maxLen ∧
    ∀ (j : Nat) x, L[j]? = some x → SideAt w g (off + j * 2) x
/-- steps as cells -/
def wC (L : List (ByteArray × Bool)) : List Value := L.flatMap fun x => [.string x.1, .bool x.2]
theorem wC_length (L : List (ByteArray × Bool)) : (wC L).length = L.length * 2 := by
  induction L with
  | nil => rfl
  | cons x L ih => rw [wC, List.flatMap_cons, List.length_append, ← wC, ih, List.length_cons]; simp; omega
theorem wC_at : ∀ (L : List (ByteArray × Bool)) (j : Nat) (x : ByteArray × Bool), L[j]? = some x → (wC L)[j * 2]? = some (.string x.1) ∧ (wC L)[j * 2 + 1]? = some (.bool x.2) := by
  intro L
  induction L with
  | nil => intro j x h; simp at h
  | cons y L ih =>
    intro j x h
    cases j with
    | zero => simp at h; subst h; exact ⟨rfl, rfl⟩
    | succ j =>
      simp at h
      have h1 := ih j x h
      rw [wC, List.flatMap_cons, ← wC]
      rw [show (j + 1) * 2 = j * 2 + 2 by omega]
      exact ⟨h1.1, h1.2⟩
theorem wC_push (L : List (ByteArray × Bool)) (x : ByteArray × Bool) : wC L ++ [.string x.1, .bool x.2] = wC (L ++ [x]) := by simp [wC]
theorem Own.sides {B : Nat} {v : Value} {n : Nat} {L : List (ByteArray × Bool)} {w : World} (h : Own B 2 v n (wC L) w) : n = L.length ∧ SidesAt v L w := by
  obtain ⟨hl, h⟩ := h
  rw [wC_length] at hl
  have hn : n = L.length := by omega
  subst hn
  refine ⟨rfl, ?_⟩
  rcases h with ⟨h, h0⟩ | ⟨g, off, cap, rfl, hB, hc, hm, hx, hw⟩
  · exact .inl ⟨h, List.eq_nil_of_length_eq_zero h0⟩
  · refine .inr ⟨g, off, cap, rfl, hc, hm, ?_⟩
    intro j x hj
    obtain ⟨h1, h2⟩ := wC_at L j x hj
    exact ⟨hx _ _ h1, by rw [Nat.add_assoc]; exact hx _ _ h2⟩
/-- the block of a slice that is not empty -/
def blk (m : Nat) (v : Value) : Option Nat := if m = 0 then none else v.ownBlock

/-- the steps of one value after another, the last one first -/
theorem backS_stops (n : Nat) (hn : 1 ≤ n) (L : List ByteArray) (b1 m cap : Nat) (p : Option Addr) (hm : L.length = m) (hmax : m ≤ 9223372036854775807) (F : _root_.Fin m → ByteArray) (hF : ∀ k, F k = L.reverse.getD k.1 ⟨#[]⟩) (w : World) (hv : StrsAt (.slice p m cap) L w)
    (h1 : w.heap[b1]? = some (.cells #[.slice p m cap] 27 (0, 0))) :
    SeqStopsK Fence.wide n Tryz.prog 146 #[.pointer (some ⟨b1, 0, none⟩)] (fun k : _root_.Fin m => #[.int .i64 ((m - 1 - k.1 : Nat) : Int), .string (F k)]) (KpB b1 (blk m (.slice p m cap))) (fun xs => xs = List.finRange m) (fun _ => True) m w := by
  intro l J Jx W hW hJ hJx hY h0
  have g1 := (hW.block b1 (Array.getElem?_eq_some_iff.1 h1).1).trans h1
  rcases hv with ⟨hv, rfl⟩ | ⟨g, off, cap', hv, _, _, hc⟩
  · injection hv with e1 e2 e3
    subst e1 e2 e3
    refine (backS0_in n l b1 (fun W => J [] W) W g1 h0).mono ?_
    rintro e W' ⟨he, hj⟩
    exact ⟨he, .inl ⟨_, rfl, hj⟩⟩
  · injection hv with e1 e2 e3
    subst e1 e3
    refine (backS1_in n hn L l b1 g off m cap hm hmax (fun k => J ((List.finRange m).take k)) (fun k => Jx ((List.finRange m).take k)) ?_ W g1 (fun j x hj => (show Gr w W from hW).cell (hc j x hj)) h0).mono ?_
    · intro k W' hk hj
      have hblk : blk m (.slice (some ⟨g, off, none⟩) m cap) = some g := by unfold blk; rw [if_neg (by omega)]; rfl
      have ht : (List.finRange m).take (k + 1) = (List.finRange m).take k ++ [⟨k, hk⟩] := by
        rw [List.take_succ_eq_append_getElem (by simpa using hk)]; simp
      have := hY ((List.finRange m).take k) ⟨k, hk⟩ W' hj (by simp; omega)
      rw [← ht, hblk] at this
      simp only [hF] at this
      exact this
    · rintro e W' ⟨he, hj | ⟨k, _, hj⟩⟩
      · exact ⟨he, .inl ⟨_, rfl, by have h := hj; rw [List.take_of_length_le (by simp)] at h; exact h⟩⟩
      · exact ⟨he, .inr ⟨_, trivial, hj⟩⟩
theorem backW_stops (n : Nat) (hn : 1 ≤ n) (L : List (ByteArray × Bool)) (b1 m cap : Nat) (p : Option Addr) (hm : L.length = m) (hmax : m ≤ 9223372036854775807) (F : _root_.Fin m → ByteArray × Bool) (hF : ∀ k, F k = L.reverse.getD k.1 (⟨#[]⟩, false)) (w : World) (hv : SidesAt (.slice p m cap) L w)
    (h1 : w.heap[b1]? = some (.cells #[.slice p m cap] 190 (0, 0))) :
    SeqStopsK Fence.wide n Tryz.prog 155 #[.pointer (some ⟨b1, 0, none⟩)] (fun k : _root_.Fin m => #[.int .i64 ((m - 1 - k.1 : Nat) : Int), .agg #[.string (F k).1, .bool (F k).2]]) (KpB b1 (blk m (.slice p m cap))) (fun xs => xs = List.finRange m) (fun _ => True) m w := by
  intro l J Jx W hW hJ hJx hY h0
  have g1 := (hW.block b1 (Array.getElem?_eq_some_iff.1 h1).1).trans h1
  rcases hv with ⟨hv, rfl⟩ | ⟨g, off, cap', hv, _, _, hc⟩
  · injection hv with e1 e2 e3
    subst e1 e2 e3
    refine (backW0_in n l b1 (fun W => J [] W) W g1 h0).mono ?_
    rintro e W' ⟨he, hj⟩
    exact ⟨he, .inl ⟨_, rfl, hj⟩⟩
  · injection hv with e1 e2 e3
    subst e1 e3
    refine (backW1_in n hn L l b1 g off m cap hm hmax (fun k => J ((List.finRange m).take k)) (fun k => Jx ((List.finRange m).take k)) ?_ W g1 (fun j x hj => ⟨(show Gr w W from hW).cell (hc j x hj).1, (show Gr w W from hW).cell (hc j x hj).2⟩) h0).mono ?_
    · intro k W' hk hj
      have hblk : blk m (.slice (some ⟨g, off, none⟩) m cap) = some g := by unfold blk; rw [if_neg (by omega)]; rfl
      have ht : (List.finRange m).take (k + 1) = (List.finRange m).take k ++ [⟨k, hk⟩] := by
        rw [List.take_succ_eq_append_getElem (by simpa using hk)]; simp
      have := hY ((List.finRange m).take k) ⟨k, hk⟩ W' hj (by simp; omega)
      rw [← ht, hblk] at this
      have e := hF ⟨k, hk⟩
      dsimp only at this e ⊢
      unfold sideV
      rw [← e]
      exact this
    · rintro e W' ⟨he, hj | ⟨k, _, hj⟩⟩
      · exact ⟨he, .inl ⟨_, rfl, by have h := hj; rw [List.take_of_length_le (by simp)] at h; exact h⟩⟩
      · exact ⟨he, .inr ⟨_, trivial, hj⟩⟩
theorem backS_any (p : Option Addr) (len cap : Nat) (w : World) :
    Calls Tryz.prog 78 #[.slice p len cap] w fun e w' => e = .returned (.func (.func 146) #[] #[.pointer (some ⟨w.heap.size, 0, none⟩)]) ∧ w.alloc (.cells #[.slice p len cap] 27) = w' := by
  go_enter Tryz.func78, Tryz.ntmps78
  go_wp2
  go_ret
  exact ⟨rfl, rfl⟩
theorem backW_any (p : Option Addr) (len cap : Nat) (w : World) :
    Calls Tryz.prog 96 #[.slice p len cap] w fun e w' => e = .returned (.func (.func 155) #[] #[.pointer (some ⟨w.heap.size, 0, none⟩)]) ∧ w.alloc (.cells #[.slice p len cap] 190) = w' := by
  go_enter Tryz.func96, Tryz.ntmps96
  go_wp2
  go_ret
  exact ⟨rfl, rfl⟩

/-- a variable in a box through the rounds; all else has only grown since w -/
def BoxI {α : Type} (w : World) (n0 bo : Nat) (t : TypeId) (f : List α → Value) (pre : List α) (W : World) : Prop :=
  Boxed W bo t (f pre) ∧ Tab W ∧ Gr w W ∧ n0 ≤ W.heap.size
theorem boxI_own {α : Type} (w x : World) (bo : Nat) (t : TypeId) (f : List α → Value) (hbo : bo < x.heap.size) (ht : 0 < x.heap.size) (hw : w.heap.size ≤ x.heap.size) : OwnFrom x.heap.size (BoxI w x.heap.size bo t f) := by
  rintro s W W' row ⟨i1, i3, i4, i5⟩ hgr hr
  have hc := Chg.of_grownBy hgr
  have hne : ∀ k, k < x.heap.size → some k ≠ row := fun k hk e => by have := (hr k e.symm).1; omega
  exact ⟨hc.block i1 (hne _ hbo), i3.same (hc.at_ i3.lt (hne _ ht)), (show Below w.heap.size w W from i4).trans (hc.below (fun k hk => Nat.le_trans hw (hr k hk).1) i4.size), Nat.le_trans i5 hc.size⟩
theorem BoxI.gr {α : Type} {w W W' : World} {n0 bo : Nat} {t : TypeId} {f : List α → Value} {pre : List α} (h : BoxI w n0 bo t f pre W) (hG : Gr W W') : BoxI w n0 bo t f pre W' :=
  ⟨hG.block h.1, h.2.1.gr hG, h.2.2.1.trans hG, Nat.le_trans h.2.2.2 hG.size⟩
/-- the box is written -/
theorem boxI_set {α : Type} {w W W' : World} {n0 bo : Nat} {t : TypeId} {f : List α → Value} {pre pre' : List α} (h : BoxI w n0 bo t f pre W) (hG : Gr W W') (hbw : w.heap.size ≤ bo) (ht : 0 ≠ bo) :
    BoxI w n0 bo t f pre' (W'.setCell ⟨bo, 0, none⟩ (f pre')) := by
  obtain ⟨i1, i3, i4, i5⟩ := h
  have hb : Boxed W' bo t (f pre) := hG.block i1
  have hT : Tab W' := i3.gr hG
  have hc : Chg (some bo) W' (W'.setCell ⟨bo, 0, none⟩ (f pre')) := setCells_chg bo [f pre'] 0 W'
  exact ⟨hb.set _, hT.same (hc.at_ hT.lt (by simp; exact ht)), (show Below w.heap.size w W' from i4.trans hG).trans (hc.below (fun k hk => by cases hk; exact hbw) (i4.trans hG).size), Nat.le_trans i5 (Nat.le_trans hG.size hc.size)⟩
theorem StrsAt.blk_lt {p : Option Addr} {m cap : Nat} {L : List ByteArray} {w : World} (h : StrsAt (.slice p m cap) L w) (hm : L.length = m) (k : Nat) (e : blk m (.slice p m cap) = some k) : k < w.heap.size := by
  unfold blk at e
  split at e
  · cases e
  rename_i h0
  rcases h with ⟨h, rfl⟩ | ⟨g, off, cap', h, _, _, hc⟩
  · simp at hm; omega
  · injection h with e1 _ _
    subst e1
    simp [Value.ownBlock] at e
    subst e
    obtain ⟨x, hx⟩ : ∃ x, L[0]? = some x := ⟨_, List.getElem?_eq_getElem (by omega)⟩
    exact World.block_lt_of_cell? _ _ (hc 0 x hx)
theorem SidesAt.blk_lt {p : Option Addr} {m cap : Nat} {L : List (ByteArray × Bool)} {w : World} (h : SidesAt (.slice p m cap) L w) (hm : L.length = m) (k : Nat) (e : blk m (.slice p m cap) = some k) : k < w.heap.size := by
  unfold blk at e
  split at e
  · cases e
  rename_i h0
  rcases h with ⟨h, rfl⟩ | ⟨g, off, cap', h, _, _, hc⟩
  · simp at hm; omega
  · injection h with e1 _ _
    subst e1
    simp [Value.ownBlock] at e
    subst e
    obtain ⟨x, hx⟩ : ∃ x, L[0]? = some x := ⟨_, List.getElem?_eq_getElem (by omega)⟩
    exact World.block_lt_of_cell? _ _ (hc 0 x hx).1
/-- the roots of parts, joined one after another -/
def foldN {α : Type} (F : α → ByteArray) (ra : ByteArray) (pre : List α) : ByteArray := (pre.map F).foldl (fun out r => nodeD r out) ra
theorem foldN_push {α : Type} (F : α → ByteArray) (ra : ByteArray) (pre : List α) (k : α) : foldN F ra (pre ++ [k]) = nodeD (F k) (foldN F ra pre) := by
  unfold foldN; rw [List.map_append, List.foldl_append]; rfl
theorem fold_size : ∀ (L : List ByteArray) (a : ByteArray), a.size = 32 → (L.foldl (fun out r => nodeD r out) a).size = 32 := by
  intro L
  induction L with
  | nil => intro a h; exact h
  | cons x L ih => intro a _; exact ih _ (nodeD_size _ _)
theorem fin_getD {α : Type} (L : List α) (d : α) {m : Nat} (hm : L.length = m) : (List.finRange m).map (fun k => L.getD k.1 d) = L := by
  apply List.ext_getElem
  · simp [hm]
  · intro i h1 h2
    simp [List.getElem?_eq_getElem h2]
theorem foldN_size {α : Type} (F : α → ByteArray) (ra : ByteArray) (h : ra.size = 32) (pre : List α) : (foldN F ra pre).size = 32 := fold_size _ _ h
end Go.Proofs.YtaoggehdkddgeaaGreatDoor
end
