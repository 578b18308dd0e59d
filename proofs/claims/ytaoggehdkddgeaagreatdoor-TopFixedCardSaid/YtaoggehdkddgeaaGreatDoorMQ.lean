/- The contract of wire.groups' iterator. -/
import Derived.Test.YtaoggehdkddgeaaGreatDoorGBack
import Derived.Test.YtaoggehdkddgeaaGreatDoorMF
import Derived.OwnWalkIn
import Derived.Maps.AppendAt
namespace Go.Proofs.YtaoggehdkddgeaaGreatDoor
section
open Go.RowKit Go.Shelf
attribute [local go_sem] Oper.semAt_some

/-- the groups of a number, the least one first, and whether a group is the last one -/
def grpL : Nat → Nat → List (Nat × Bool)
  | 0, _ => []
  | f + 1, z => if z < 128 then [(z, true)] else (z % 128, false) :: grpL f (z / 128)
def grpV (x : Nat × Bool) : Array Value := #[.int .u8 (x.1 : Int), .bool x.2]
theorem and127 (z : Nat) : z &&& 127 = z % 128 := Nat.and_two_pow_sub_one_eq_mod z 7
theorem wrap_u64 (n : Int) : IntKind.u64.wrap n = n % 18446744073709551616 := by simp [IntKind.wrap, IntKind.bits, IntKind.signed]
theorem and_u64_127 (z : Nat) (hz : z < 18446744073709551616) : bits .and .u64 (z : Int) 127 = ((z % 128 : Nat) : Int) := by
  rw [← and127]
  show IntKind.u64.wrap ((BitVec.ofInt 64 (z : Int) &&& BitVec.ofInt 64 ((127 : Nat) : Int)).toNat : Int) = _
  have h : z &&& 127 < 2 ^ 64 := Nat.and_lt_two_pow _ (by omega)
  rw [BitVec.toNat_and, BitVec.ofInt_natCast, BitVec.ofInt_natCast, BitVec.toNat_ofNat, BitVec.toNat_ofNat, Nat.mod_eq_of_lt (by omega), Nat.mod_eq_of_lt (by decide), wrap_u64]; omega
set_option maxRecDepth 100000 in
set_option maxHeartbeats 2000000 in
theorem groups_turn (n : Nat) (hn : 1 ≤ n) (b1 z : Nat) (hz : z < 18446744073709551616) (w : World) (h1 : w.heap[b1]? = some (.cells #[.int .u64 (z : Int)] 217 (0, 0))) :
    SeqTurn Fence.wide n Tryz.prog 183 #[.pointer (some ⟨b1, 0, none⟩)] grpV b1 217 (fun xs => xs = grpL 10 z) 10 w := by
  intro l J W hW hA hY h0
  have g1 := hW.block h1
  have c0 : W.cell? ⟨b1, 0, none⟩ = some (.int .u64 (z : Int)) := cell_of_row _ _ _ _ _ _ g1
  have H1 := Lib.hid g1
  have HA := Lib.hid hA
  have HE : Hid (([] : List (Nat × Bool)) ++ grpL (10 - 0) z = grpL 10 z ∧ z < 128 ^ (10 - 0)) := Lib.hid ⟨rfl, by omega⟩
  clear g1 h1 hA c0
  refine callsIn_of_wp Tryz.func183 rfl trivial ?_ rfl
  simp only [Tryz.ntmps183, List.size_toArray, List.length_cons, List.length_nil, Nat.reduceAdd, Nat.reduceSub, Array.replicate_succ, Array.replicate_zero, List.push_toArray, List.append_toArray, List.nil_append, List.cons_append]
  gi_wp2
  gi_loopw [3] (fun _ wr => ∃ (pre : List (Nat × Bool)) (k y : Nat), pre.length = k ∧ k < 10 ∧ y < 18446744073709551616 ∧ J pre wr ∧ Hid (wr.heap[b1]? = some (.cells #[.int .u64 (y : Int)] 217 (0, 0))) ∧ Hid (pre ++ grpL (10 - k) y = grpL 10 z ∧ y < 128 ^ (10 - k)))
    (fun _ wr => match wr.heap[b1]? with | some (.cells #[.int _ v] _ _) => v.toNat | _ => 0)
  case atStart => exact ⟨[], 0, z, rfl, by decide, hz, h0, H1, HE⟩
  clear H1 h0 HE
  case round =>
    obtain ⟨pre, k, y, hpk, hk, hy0, hJs, H1, HE⟩ := hrel
    have c1 : wr.cell? ⟨b1, 0, none⟩ = some (.int .u64 (y : Int)) := cell_of_row _ _ _ _ _ _ H1.out
    obtain ⟨m, hm⟩ : ∃ m, y % 128 = m := ⟨_, rfl⟩
    have hm8 : m < 128 := by omega
    have em := and_u64_127 y hy0
    rw [hm] at em
    have em2 : (m : Int) % 256 = (m : Int) := by omega
    by_cases hlt : y < 128
    · have tk : decide (y < 128) = true := decide_eq_true hlt
      have tk' : decide ((y : Int) < 128) = true := decide_eq_true (by omega)
      obtain ⟨fn, tmps, assign, body, hy, hR⟩ := hY pre (m, true) wr hJs (by omega)
      unfold grpV at hy
      simp only at hy
      have HS : Hid (pre ++ [(m, true)] = grpL 10 z) := Lib.hid (by
        rw [← HE.out.1]
        obtain ⟨j, hj⟩ : ∃ j, 10 - k = j + 1 := ⟨9 - k, by omega⟩
        rw [hj, grpL, if_pos hlt, ← hm, Nat.mod_eq_of_lt hlt])
      clear hm hlt
      gi_wp2
      refine hR.mono ?_
      rintro e W3 ⟨rfl, hJ3, hk3⟩
      have HJ3 := Lib.hid hJ3
      clear hJ3 hy hR c1
      gi_wp2
      refine bodyPost_ret (results_none rfl _ _ _) rfl ?_
      exact ⟨⟨_, rfl⟩, _, HS.out, HJ3.out⟩
    · have tk : decide (y < 128) = false := decide_eq_false hlt
      have tk' : decide ((y : Int) < 128) = false := decide_eq_false (by omega)
      obtain ⟨fn, tmps, assign, body, hy, hR⟩ := hY pre (m, false) wr hJs (by omega)
      unfold grpV at hy
      simp only at hy
      have hk9 : k + 1 < 10 := by
        rcases Nat.lt_or_ge (k + 1) 10 with h | h
        · exact h
        · have h2 := HE.out.2
          rw [show 10 - k = 1 by omega] at h2
          omega
      have HS : Hid ((pre ++ [(m, false)]) ++ grpL (10 - (k + 1)) (y / 128) = grpL 10 z ∧ y / 128 < 128 ^ (10 - (k + 1))) := Lib.hid (by
        have h2 := HE.out.2
        obtain ⟨j, hj⟩ : ∃ j, 10 - k = j + 1 := ⟨9 - k, by omega⟩
        rw [show 10 - (k + 1) = j by omega]
        rw [hj, Nat.pow_succ] at h2
        refine ⟨?_, Nat.div_lt_of_lt_mul (by rw [Nat.mul_comm]; exact h2)⟩
        rw [← HE.out.1, hj, grpL, if_neg hlt, ← hm, List.append_assoc]; rfl)
      have hd : Hid (y / 128 < y) := Lib.hid (by omega)
      have hlt' : Hid (¬ y < 128) := Lib.hid hlt
      clear hm hlt
      gi_wp2
      refine hR.mono ?_
      rintro e W3 ⟨rfl, hJ3, hk3⟩
      have H3 : Hid (W3.heap[b1]? = some (.cells #[.int .u64 (y : Int)] 217 (0, 0))) := Lib.hid (hk3.trans H1.out)
      have c3 : W3.cell? ⟨b1, 0, none⟩ = some (.int .u64 (y : Int)) := cell_of_row _ _ _ _ _ _ H3.out
      have hfz : W3.frozen? ⟨b1, 0, none⟩ = false := frozen_of_row _ _ _ _ _ H3.out
      have HJ3 := Lib.hid hJ3
      clear hJ3 hy hR c1 hk3
      gi_wp2
      have hb : Boxed W3 b1 217 (.int .u64 (y : Int)) := H3.out
      have hb2 : (W3.setCell ⟨b1, 0, none⟩ (.int .u64 ((y / 128 : Nat) : Int))).heap[b1]? = some (.cells #[.int .u64 ((y / 128 : Nat) : Int)] 217 (0, 0)) := hb.set _
      go_roundw
      case rel =>
        rw [show (y : Int) / 128 = ((y / 128 : Nat) : Int) from rfl]
        exact ⟨_, _, _, _, _, _, _, _, _, _, _, _, _, _, _, ⟨pre ++ [(m, false)], k + 1, y / 128, by rw [List.length_append, hpk]; rfl, hk9, by have := hd.out; omega, HA.out _ _ _ (some b1) HJ3.out (grownBy_setCell' _ _ _) (fun r e => by cases e; exact ⟨rfl, _, hb2⟩), Lib.hid hb2, HS⟩, rfl⟩
      case measure =>
        have e1 := H1.out
        have e2 := hd.out
        show (match (W3.setCell ⟨b1, 0, none⟩ (.int .u64 ((y / 128 : Nat) : Int))).heap[b1]? with | some (.cells #[.int _ v] _ _) => v.toNat | _ => 0) < _
        rw [hb2, e1]
        exact e2
end
section
open Go.RowKit Go.Shelf
attribute [local go_sem] Oper.semAt_some

/-- the byte that is written for a group -/
def grpN (x : Nat × Bool) : Nat := if x.2 then x.1 else x.1 % 256 ||| 128
def grpC (L : List (Nat × Bool)) : List Value := L.map fun x => .int .u8 (grpN x : Int)
/-- the encoding of a number -/
def numB (n : Nat) : ByteArray := ⟨((grpL 10 (2 * n)).map fun x => UInt8.ofNat (grpN x)).toArray⟩
theorem or_u8_128 (g : Nat) : bits .or .u8 (g : Int) 128 = ((g % 256 ||| 128 : Nat) : Int) := by
  show IntKind.u8.wrap ((BitVec.ofInt 8 (g : Int) ||| BitVec.ofInt 8 ((128 : Nat) : Int)).toNat : Int) = _
  have h : g % 256 ||| 128 < 2 ^ 8 := Nat.or_lt_two_pow (by omega) (by omega)
  have hw : ∀ n : Int, IntKind.u8.wrap n = n % 256 := fun n => by simp [IntKind.wrap, IntKind.bits, IntKind.signed]
  rw [BitVec.toNat_or, BitVec.ofInt_natCast, BitVec.ofInt_natCast, BitVec.toNat_ofNat, BitVec.toNat_ofNat, hw]
  show (((g % 256 ||| 128 % 256 : Nat) : Int)) % 256 = _
  rw [show 128 % 256 = 128 from rfl]; omega
theorem grpL_lt : ∀ (f z : Nat) (x : Nat × Bool), x ∈ grpL f z → grpN x < 256 := by
  intro f
  induction f with
  | zero => intro z x h; cases h
  | succ f ih =>
    intro z x h
    unfold grpL at h
    split at h
    · simp at h; subst h; unfold grpN; rw [if_pos rfl]; show z < 256; omega
    · rcases List.mem_cons.1 h with rfl | h
      · unfold grpN; rw [if_neg (by simp)]
        exact Nat.or_lt_two_pow (n := 8) (by omega) (by omega)
      · exact ih _ _ h
theorem row_cell {W : World} {base : Nat} {e : TypeId} {v : Value} {n : Nat} {xs : List Value} (h : W.ownsRow base e 1 v n xs) (h0 : 1 ≤ n) : ∃ g c, v = .slice (some ⟨g, 0, none⟩) n c ∧ ∀ (j : Nat) u, xs[j]? = some u → W.cell? ⟨g, j, none⟩ = some u := by
  rcases h.2 with ⟨_, h1⟩ | ⟨g, c, cur, rfl, _, hg, _, _, _, ht⟩
  · omega
  · refine ⟨g, c, rfl, fun j u hj => ?_⟩
    rw [cell_of_row _ _ _ _ _ _ hg]
    rw [← ht] at hj
    have hl := (List.getElem?_eq_some_iff.1 hj).1
    rw [List.getElem?_take_of_lt (by rw [List.length_take] at hl; omega)] at hj
    simpa using hj
theorem grpC_push (pre : List (Nat × Bool)) (x : Nat × Bool) : grpC (pre ++ [x]) = grpC pre ++ [.int .u8 (grpN x : Int)] := by unfold grpC; rw [List.map_append]; rfl
theorem infoU8 : (Tryz.prog.info? 5).map (fun i => (i.zero, i.size, i.bytes)) = some (some (.int .u8 0), 1, 1) := by kernel_rfl
/-- what the loop keeps -/
def PutI (w : World) (b1 : Nat) (pre : List (Nat × Bool)) (W : World) : Prop :=
  ((∃ v, Boxed W w.heap.size 73 v ∧ W.ownsRow w.heap.size 5 1 v pre.length (grpC pre) ∧ True) ∧ Below w.heap.size w W) ∧ ∃ u, Boxed W b1 217 u
theorem putI_own (w : World) (b1 : Nat) (B : Nat) (hB : w.heap.size ≤ B) : OwnFrom B (PutI w b1) := by
  refine OwnFrom.and (OwnFrom.and (Own.from (holdsRow_own w.heap.size w.heap.size 73 5 1 (fun pre : List (Nat × Bool) => pre.length) grpC (fun _ _ => True)) _) (ownFrom_below (Nat.le_refl _) hB)) ?_
  rintro s X Y row ⟨u, hu⟩ hg hr
  exact ⟨u, hu.kept hg (fun e => by obtain ⟨_, o, ho, hc⟩ := hr _ e.symm; rw [show X.heap[b1]? = _ from hu] at ho; cases ho; cases hc)⟩
theorem putI_turn (w : World) (b1 : Nat) (h1 : w.heap.size < b1) : Abide1 b1 217 (PutI w b1) := by
  rintro s A B row ⟨⟨⟨v, hv, hr, -⟩, hB⟩, u, hu⟩ hg hrow
  have hne : v.ownBlock = none ∨ v.ownBlock ≠ row := by
    cases row with
    | none => by_cases h : v.ownBlock = none
              · exact .inl h
              · exact .inr h
    | some r => exact .inr (by rw [(hrow r rfl).1]; exact (hu.not_row (by decide) hr).symm)
  refine ⟨⟨⟨v, hv.kept hg (fun e => by have := (hrow _ e.symm).1; omega), hr.kept hg hne, trivial⟩, hB.grown hg (by have := hB.size; omega) (fun j e => by have := (hrow j e).1; omega)⟩, ?_⟩
  cases row with
  | none => exact ⟨u, hu.kept hg (by simp)⟩
  | some r => obtain ⟨rfl, v, hv⟩ := hrow r rfl; exact ⟨v, hv⟩
theorem groups_any (z : Int) (w : World) :
    Calls Tryz.prog 138 #[.int .u64 z] w fun e w' => e = .returned (.func (.func 183) #[] #[.pointer (some ⟨w.heap.size, 0, none⟩)]) ∧ w.alloc (.cells #[.int .u64 z] 217) = w' := by
  go_enter Tryz.func138, Tryz.ntmps138
  go_wp2
  go_ret
  exact ⟨rfl, rfl⟩
theorem xor_u64_0 (n z : Nat) (hn : n ≤ 4611686018427387903) (hz : z = n * 2) : bits .xor .u64 ((n : Int) * 2) ((n : Int) / 9223372036854775808) = (z : Int) := by
  subst hz
  have e1 : (n : Int) / 9223372036854775808 = ((0 : Nat) : Int) := by omega
  have e2 : (n : Int) * 2 = ((n * 2 : Nat) : Int) := by omega
  rw [e1, e2]
  show IntKind.u64.wrap ((BitVec.ofInt 64 ((n * 2 : Nat) : Int) ^^^ BitVec.ofInt 64 ((0 : Nat) : Int)).toNat : Int) = _
  rw [BitVec.toNat_xor, BitVec.ofInt_natCast, BitVec.ofInt_natCast, BitVec.toNat_ofNat, BitVec.toNat_ofNat, Nat.mod_eq_of_lt (by omega), Nat.mod_eq_of_lt (by decide), Nat.xor_zero, wrap_u64]; omega
set_option maxRecDepth 100000 in
set_option maxHeartbeats 2000000 in
theorem putInt_any (n : Nat) (hn : n ≤ 4611686018427387903) (w : World) :
    Calls Tryz.prog 64 #[.int .i64 (n : Int)] w fun e w' => e = .returned (.tuple #[.string (numB n), .int .i64 0]) ∧ Gr w w' := by
  obtain ⟨i0, hi, hz0, hz1, hz2⟩ := info_parts infoU8
  refine (callsIn_wide (n := 6)).1 ?_
  refine callsIn_of_wp_marks Tryz.func64 rfl trivial ?_ rfl
  simp only [Tryz.ntmps64, List.size_toArray, List.length_cons, List.length_nil, Nat.reduceAdd, Nat.reduceSub, Array.replicate_succ, Array.replicate_zero, List.push_toArray, List.append_toArray, List.nil_append, List.cons_append]
  have t1 : decide ((n : Int) < -4611686018427387903) = false := decide_eq_false (by omega)
  have t2 : decide (4611686018427387903 < (n : Int)) = false := decide_eq_false (by omega)
  have t2' : decide (4611686018427387903 < n) = false := decide_eq_false (by omega)
  have bO := Boxed.new w 73 (.slice none 0 0)
  obtain ⟨z, hz⟩ : ∃ z : Nat, z = n * 2 := ⟨_, rfl⟩
  have ez := xor_u64_0 n z hn hz
  have Hz := Lib.hid hz
  have hz64 : z < 18446744073709551616 := by omega
  clear hz
  gi_wp2_with (refine ⟨trivial, ?_⟩; gi_at_call 138; refine (callsIn_wide.2 (groups_any _ _)).mono ?_; rintro e w' ⟨rfl, rfl⟩)
  have hB0 : Below w.heap.size w ((w.alloc (.cells #[.slice none 0 0] 73)).alloc (.cells #[.int .u64 (z : Int)] 217)) := ((Below.refl _ w).alloc (Nat.le_refl _) _).alloc (by simp) _
  have b1 : Boxed ((w.alloc (.cells #[.slice none 0 0] 73)).alloc (.cells #[.int .u64 (z : Int)] 217)) (w.heap.size + 1) 217 (.int .u64 (z : Int)) := by
    have := Boxed.new (w.alloc (.cells #[.slice none 0 0] 73)) 217 (.int .u64 (z : Int))
    rw [World.size_alloc] at this; exact this
  refine wpIn_rangeFunc_turn (el := fun x : Nat × Bool => #[.int .u8 (x.1 : Int), .bool x.2]) (w.heap.size + 1) 217 (by simp) rfl (by decide) (gf := 183) (lb := #[.pointer (some ⟨w.heap.size + 1, 0, none⟩)]) rfl trivial (enters_of Tryz.func183 (by kernel_rfl) rfl)
    (groups_turn 5 (by decide) (w.heap.size + 1) z hz64 _ b1) (fun _ => rfl)
    (PutI w (w.heap.size + 1)) (putI_own _ _ _ (by simp; omega)) (putI_turn _ _ (by omega)) ⟨⟨⟨_, bO.alloc _, World.ownsRow_nil _ _ _ _, trivial⟩, hB0⟩, _, b1⟩ ?a1 ?assign ?body ?done
  case assign =>
    intro l x W K hK
    gi_wp2
    exact hK
  case body =>
    rintro l pre ⟨g, last⟩ W ⟨⟨⟨v, hv, hrow, -⟩, hB⟩, u, hu⟩ hsz hlt
    have hc := hv.cell
    have hor := or_u8_128 g
    obtain ⟨o, ho⟩ : ∃ o : Nat, g % 256 ||| 128 = o := ⟨_, rfl⟩
    rw [ho] at hor
    have Ho := Lib.hid ho
    clear ho
    have hnr := hu.not_row (by decide) hrow
    cases last with
    | true =>
      gi_wp2_with (gi_at_builtin; refine wpListIn_append_own _ rfl _ _ 73 rfl w.heap.size 5 i0 (.int .u8 0) 1 1 Tryz.underlying73 hi hz0 hz1 hz2 rfl (by decide) _ _ _ rfl (hrow.alloc _) ⟨W.heap.size, 0, none⟩ 1 1 [.int .u8 (g : Int)] rfl rfl (cell_one_new _ _ _) (by simp [Value.oneCell']) (by unfold maxLen; omega) (by omega) (by have := hB.size; simp; omega) ?_; intro v' w1 hown' hgrow _; obtain ⟨g', cap', rfl⟩ := ownsRow_succ hown'; obtain ⟨hv1, hv2, hr2, hk2, hb2⟩ := hv.appended (by decide) hrow hB.size (Nat.le_refl _) hown' hgrow; have hu1 := (((hu.alloc _).kept hgrow hnr).other (by omega) (.slice (some ⟨g', 0, none⟩) (pre.length + 1) cap') : Boxed (w1.setCell ⟨w.heap.size, 0, none⟩ _) (w.heap.size + 1) 217 u); have hc1 := hv1.cell; have hf1 := hv1.frozen)
      refine ⟨hk2.from _, hu1.trans hu.symm, ⟨⟨_, hv2, ?_, trivial⟩, hB.trans hb2⟩, u, hu1⟩
      rw [List.length_append, grpC_push]
      simpa [grpN, Ho.out] using hr2
    | false =>
      gi_wp2_with (gi_at_builtin; refine wpListIn_append_own _ rfl _ _ 73 rfl w.heap.size 5 i0 (.int .u8 0) 1 1 Tryz.underlying73 hi hz0 hz1 hz2 rfl (by decide) _ _ _ rfl (hrow.alloc _) ⟨W.heap.size, 0, none⟩ 1 1 [.int .u8 (o : Int)] rfl rfl (cell_one_new _ _ _) (by simp [Value.oneCell']) (by unfold maxLen; omega) (by omega) (by have := hB.size; simp; omega) ?_; intro v' w1 hown' hgrow _; obtain ⟨g', cap', rfl⟩ := ownsRow_succ hown'; obtain ⟨hv1, hv2, hr2, hk2, hb2⟩ := hv.appended (by decide) hrow hB.size (Nat.le_refl _) hown' hgrow; have hu1 := (((hu.alloc _).kept hgrow hnr).other (by omega) (.slice (some ⟨g', 0, none⟩) (pre.length + 1) cap') : Boxed (w1.setCell ⟨w.heap.size, 0, none⟩ _) (w.heap.size + 1) 217 u); have hc1 := hv1.cell; have hf1 := hv1.frozen)
      refine ⟨hk2.from _, hu1.trans hu.symm, ⟨⟨_, hv2, ?_, trivial⟩, hB.trans hb2⟩, u, hu1⟩
      rw [List.length_append, grpC_push]
      simpa [grpN, Ho.out] using hr2
  case done =>
    rintro D xs W hD rfl ⟨⟨⟨v, hv, hrow, -⟩, hB⟩, -⟩ hK
    have hc := hv.cell
    have hz := Hz.out
    obtain ⟨m, hm⟩ : ∃ m, (grpL 10 z).length = m := ⟨_, rfl⟩
    have hm1 : 1 ≤ m := by rw [← hm, grpL]; split <;> simp
    rw [hm] at hrow
    obtain ⟨g, cap, rfl, hcell⟩ := row_cell hrow hm1
    have hconv : (convert 73 9 (.slice (some ⟨g, 0, none⟩) m cap)).run Tryz.prog W = .ok (.string (numB n)) W := by
      have := run_convert_bytes_back (P := Tryz.prog) W 73 9 5 ⟨g, 0, none⟩ cap ((grpL 10 z).map fun x => UInt8.ofNat (grpN x)) Tryz.underlying73 Tryz.underlying5 Tryz.underlying9 ?_
      · rw [List.length_map, hm] at this
        rw [this, hz, Nat.mul_comm]; rfl
      · intro j hj
        rw [List.length_map] at hj
        have hx : (grpC (grpL 10 z))[j]? = some (.int .u8 (grpN ((grpL 10 z)[j]) : Int)) := by
          unfold grpC
          rw [List.getElem?_map, List.getElem?_eq_getElem hj]; rfl
        have := hcell j _ hx
        rw [List.getElem_map, UInt8.toNat_ofNat_of_lt' (grpL_lt _ _ _ (List.getElem_mem hj))]
        by_cases h0 : j = 0
        · subst h0; simpa [Addr.add] using this
        · simpa [Addr.add, h0] using this
    clear hcell hz
    gi_wp2
    refine ⟨by simp, .inl ⟨_, _, rfl, run_takeDeferred hK, ?_⟩⟩
    refine ⟨_, results_tmp2 rfl _ _ _, rfl, hB.trans (belowK_b (w := w) (Nat.le_refl _) W D _ _ (by simp at hD; omega) hK rfl rfl)⟩
end
end Go.Proofs.YtaoggehdkddgeaaGreatDoor
