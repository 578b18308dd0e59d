/- What a path is, in plain words: its parts, and their bytes. No program in sight. -/
import Derived.Lib.TrimU
import Derived.Lib.TrimUEq
import Derived.Lib.TrimAscii
import Derived.Lib.SpaceUEq
import Derived.Lib.IndexBytes
import Derived.Lib.IndexLaws
import Derived.Lib.IndexMore
import Derived.Shelf.GgClosure.StringsIndexFunc
import Derived.OwnWalk
import Derived.Test.YtaoggehdkddgeaaGreatDoorShelf
import Derived.Test.YtaoggehdkddgeaaGreatDoorMF
import Derived.Test.YtaoggehdkddgeaaGreatDoorRoot
import Derived.OwnWalkIn
import Derived.Test.YtaoggehdkddgeaaGreatDoorMQ
section
namespace Go.Proofs.YtaoggehdkddgeaaGreatDoor
open Go Go.Lib

/-- the parts of a string between its bytes 47 -/
def spl : List UInt8 → List (List UInt8)
  | [] => [[]]
  | c :: l => if c = 47 then [] :: spl l else match spl l with
    | [] => [[c]]
    | p :: ps => (c :: p) :: ps
theorem spl_none : ∀ (l : List UInt8), indexByte l 47 = -1 → spl l = [l] := by
  intro l
  induction l with
  | nil => intro _; rfl
  | cons c l ih =>
    intro h
    have hn := indexByte_none h
    have hc : c ≠ 47 := fun e => hn 0 (by rw [e]; rfl)
    have hl : indexByte l 47 = -1 := by
      rcases Int.lt_or_le (indexByte l 47) 0 with h0 | h0
      · have := indexByte_ge l 47; omega
      · obtain ⟨o, ho⟩ := Int.eq_ofNat_of_zero_le h0
        exact absurd (indexByte_some ho).1 (hn (o + 1))
    rw [spl, if_neg hc, ih hl]
theorem spl_some : ∀ (l : List UInt8) (k : Nat), indexByte l 47 = (k : Int) → spl l = l.take k :: spl (l.drop (k + 1)) := by
  intro l
  induction l with
  | nil => intro k h; exact absurd (indexByte_some h).1 (by simp)
  | cons c l ih =>
    intro k h
    obtain ⟨h1, h2⟩ := indexByte_some h
    cases k with
    | zero =>
      obtain rfl : c = 47 := by simpa using h1
      rw [spl, if_pos rfl]; rfl
    | succ k =>
      have hc : c ≠ 47 := fun e => h2 0 (by omega) (by rw [e]; rfl)
      have hl : indexByte l 47 = (k : Int) := by
        rcases Int.lt_or_le (indexByte l 47) 0 with h0 | h0
        · have h3 : indexByte l 47 = -1 := by have := indexByte_ge l 47; omega
          exact absurd h1 (indexByte_none h3 k)
        · obtain ⟨o, ho⟩ := Int.eq_ofNat_of_zero_le h0
          obtain ⟨h3, h4⟩ := indexByte_some ho
          rcases Nat.lt_trichotomy o k with hlt | he | hgt
          · exact absurd h3 (h2 (o + 1) (by omega))
          · subst he; exact ho
          · exact absurd h1 (h4 k hgt)
      rw [spl, if_neg hc, ih k hl]; rfl
/-- a byte that no path has -/
def badC (c : UInt8) : Bool := decide (c.toNat < 33) || decide (126 < c.toNat)
def badR (x : Nat) : Bool := decide (x < 33) || decide (126 < x)
theorem decodeN_high (n b0 b1 b2 b3 : Nat) (h0 : b0 < 256) (h : 128 ≤ b0) : 128 ≤ (decodeN n b0 b1 b2 b3).1 := by
  rcases decodeN_cases n b0 b1 b2 b3 with ⟨h1, _⟩ | ⟨_, _, _, h4, e⟩ | ⟨_, _, _, _, h4, e⟩ | ⟨h1, _⟩ | e
  · omega
  · rw [e]; exact h4
  · rw [e]; exact Nat.le_trans (by omega) h4
  · omega
  · rw [e]; show 128 ≤ 65533; omega
theorem idx_bad (s : ByteArray) : ∀ (f pos : Nat), s.size - pos ≤ f → (decide (0 ≤ idxFuncFrom badR true s f pos) = (s.data.toList.drop pos).any badC) := by
  intro f
  induction f with
  | zero =>
    intro pos h
    have : s.data.toList.drop pos = [] := List.drop_eq_nil_of_le (by simp; have : s.size = s.data.size := rfl; omega)
    rw [this]; rfl
  | succ f ih =>
    intro pos h
    unfold idxFuncFrom
    by_cases hp : pos < s.size
    · rw [if_pos hp]
      have hl : pos < s.data.toList.length := by simpa using hp
      rw [List.drop_eq_getElem_cons hl, List.any_cons]
      have hg : s.data.toList.getD pos 0 = s.data.toList[pos] := by rw [List.getD_eq_getElem?_getD, List.getElem?_eq_getElem hl]; rfl
      by_cases hb : (s.data.toList[pos]).toNat < 128
      · have hd : Utf8.decode s pos = ((s.data.toList[pos]).toNat, 1) := by
          rw [decode_N, hg]
          unfold decodeN
          rw [if_pos hb]
        rw [hd]
        show decide (0 ≤ if badR (s.data.toList[pos]).toNat = true then (pos : Int) else idxFuncFrom badR true s f (pos + 1)) = _
        rw [← ih (pos + 1) (by omega)]
        have e : badC s.data.toList[pos] = badR (s.data.toList[pos]).toNat := rfl
        rw [e]
        cases badR (s.data.toList[pos]).toNat
        · simp
        · simp
      · have h1 : 128 ≤ (Utf8.decode s pos).1 := by
          rw [decode_N, hg]
          exact decodeN_high _ _ _ _ _ (UInt8.toNat_lt _) (by omega)
        have hr : badR (Utf8.decode s pos).1 = true := by unfold badR; rw [Bool.or_eq_true, decide_eq_true_eq, decide_eq_true_eq]; omega
        have hc : badC s.data.toList[pos] = true := by unfold badC; rw [Bool.or_eq_true, decide_eq_true_eq, decide_eq_true_eq]; omega
        rw [if_pos hr, hc]
        simp
    · rw [if_neg hp]
      have : s.data.toList.drop pos = [] := List.drop_eq_nil_of_le (by simp; have : s.size = s.data.size := rfl; omega)
      rw [this]; rfl
theorem idx_bad0 (s : ByteArray) : decide (0 ≤ idxFunc badR true s) = s.data.toList.any badC := by
  unfold idxFunc
  rw [idx_bad s s.size 0 (by omega)]; rfl
end Go.Proofs.YtaoggehdkddgeaaGreatDoor
end
section
namespace Go.Proofs.YtaoggehdkddgeaaGreatDoor
section
open Go Go.RowKit Go.Shelf
attribute [local go_sem] gAt gUpon Oper.semAt_some
attribute [local simp] Gr.refl Gr.alloc

theorem extB (s : ByteArray) (a b : Nat) : (s.extract a b).data.toList = (s.data.toList.drop a).take (b - a) := by
  rw [ByteArray.data_extract, Array.toList_extract, List.extract_eq_take_drop]
theorem scut_none (s : ByteArray) (w : World) (h : Lib.indexByte s.data.toList 47 = -1) :
    Calls Tryz.prog 218 #[.string s, .string ⟨#[47]⟩] w fun e w' => e = .returned (.tuple #[.string s, .string ⟨#[]⟩, .bool false]) ∧ w = w' := by
  have HI : Hid (Calls Tryz.prog 234 #[.string s, .string ⟨#[47]⟩] w fun e w' => e = .returned (.int .i64 (-1)) ∧ w' = w) := Lib.hid (by
    have := Tryz.stringslite_Index_one s 47 w
    rw [h] at this; exact this)
  clear h
  go_enter Tryz.func218, Tryz.ntmps218
  go_wp2_with fail
  refine HI.out.mono ?_
  rintro e w' ⟨rfl, rfl⟩
  go_wp2_with fail
  go_ret3
  exact ⟨rfl, rfl⟩
theorem scut_some (s : ByteArray) (k : Nat) (w : World) (h : Lib.indexByte s.data.toList 47 = (k : Int)) (hk : k < s.size) (hs : s.size ≤ 9223372036854775807) :
    Calls Tryz.prog 218 #[.string s, .string ⟨#[47]⟩] w fun e w' => e = .returned (.tuple #[.string (s.extract 0 k), .string (s.extract (k + 1) s.size), .bool true]) ∧ ∃ n, w' = w.drewN n := by
  have HI : Hid (Calls Tryz.prog 234 #[.string s, .string ⟨#[47]⟩] w fun e w' => e = .returned (.int .i64 (k : Int)) ∧ w' = w) := Lib.hid (by
    have := Tryz.stringslite_Index_one s 47 w
    rw [h] at this; exact this)
  have t1 : decide ((k : Int) ≥ 0) = true := decide_eq_true (by omega)
  clear h
  go_enter Tryz.func218, Tryz.ntmps218
  go_wp2_with fail
  refine HI.out.mono ?_
  rintro e w' ⟨rfl, rfl⟩
  go_upto_region 3 with fail
  go_quiet (fail)
  rename_i nq
  go_wp2_with fail
  go_ret3
  exact ⟨rfl, nq, rfl⟩
theorem cut_none (s : ByteArray) (w : World) (h : Lib.indexByte s.data.toList 47 = -1) :
    Calls Tryz.prog 193 #[.string s, .string ⟨#[47]⟩] w fun e w' => e = .returned (.tuple #[.string s, .string ⟨#[]⟩, .bool false]) ∧ w = w' := by
  have HI := Lib.hid (scut_none s w h)
  clear h
  go_enter Tryz.func193, Tryz.ntmps193
  go_wp2_with fail
  refine HI.out.mono ?_
  rintro e w' ⟨rfl, rfl⟩
  go_wp2_with fail
  go_ret3
  exact ⟨rfl, rfl⟩
theorem cut_some (s : ByteArray) (k : Nat) (w : World) (h : Lib.indexByte s.data.toList 47 = (k : Int)) (hk : k < s.size) (hs : s.size ≤ 9223372036854775807) :
    Calls Tryz.prog 193 #[.string s, .string ⟨#[47]⟩] w fun e w' => e = .returned (.tuple #[.string (s.extract 0 k), .string (s.extract (k + 1) s.size), .bool true]) ∧ ∃ n, w' = w.drewN n := by
  have HI := Lib.hid (scut_some s k w h hk hs)
  clear h
  go_enter Tryz.func193, Tryz.ntmps193
  go_wp2_with fail
  refine HI.out.mono ?_
  rintro e w' ⟨rfl, n, rfl⟩
  go_wp2_with fail
  go_ret3
  exact ⟨rfl, n, rfl⟩
/-- the parts of a string, as strings -/
def splB (s : ByteArray) : List ByteArray := (spl s.data.toList).map fun l => ⟨l.toArray⟩
theorem mk_ext (s : ByteArray) (a b : Nat) (l : List UInt8) (h : (s.data.toList.drop a).take (b - a) = l) : (⟨l.toArray⟩ : ByteArray) = s.extract a b := by
  apply ByteArray.ext
  apply Array.toList_inj.1
  rw [extB, h]
theorem splB_none (s : ByteArray) (h : Lib.indexByte s.data.toList 47 = -1) : splB s = [s] := by
  unfold splB; rw [spl_none _ h]; rfl
theorem splB_some (s : ByteArray) (k : Nat) (h : Lib.indexByte s.data.toList 47 = (k : Int)) : splB s = s.extract 0 k :: splB (s.extract (k + 1) s.size) := by
  unfold splB
  rw [spl_some _ _ h, List.map_cons, extB]
  congr 1
  · exact mk_ext s 0 k _ (by simp)
  · rw [List.take_of_length_le (by rw [List.length_drop]; simp)]
theorem idx_lt {s : ByteArray} {k : Nat} (h : Lib.indexByte s.data.toList 47 = (k : Int)) : k < s.size := by
  have := (List.getElem?_eq_some_iff.1 (Lib.indexByte_some h).1).1
  simpa using this
theorem idx_two (s : ByteArray) : Lib.indexByte s.data.toList 47 = -1 ∨ ∃ k : Nat, Lib.indexByte s.data.toList 47 = (k : Int) := by
  rcases Int.lt_or_le (Lib.indexByte s.data.toList 47) 0 with h | h
  · have := Lib.indexByte_ge s.data.toList 47; exact .inl (by omega)
  · exact .inr (Int.eq_ofNat_of_zero_le h)
def strV (x : ByteArray) : Array Value := #[.string x]
def boxSz (b : Nat) (w : World) : Nat := match w.heap[b]? with | some (.cells #[.string v] _ _) => v.size | _ => 0
theorem boxSz_row {b : Nat} {w : World} {v : ByteArray} {t : TypeId} {x : Nat × Nat} (h : w.heap[b]? = some (.cells #[.string v] t x)) : boxSz b w = v.size := by unfold boxSz; rw [h]; rfl
set_option maxRecDepth 100000 in
set_option maxHeartbeats 2000000 in
theorem parts_turn (n : Nat) (hn : 1 ≤ n) (b1 : Nat) (s : ByteArray) (hs : s.size ≤ 9223372036854775807) (w : World) (h1 : w.heap[b1]? = some (.cells #[.string s] 9 (0, 0))) :
    SeqTurnX Fence.wide n Tryz.prog 192 #[.pointer (some ⟨b1, 0, none⟩)] strV b1 9 (fun xs => xs = splB s) (fun pre => ∃ r, pre ++ r = splB s) (s.size + 1) w := by
  intro l J Jx W hW hA hY h0
  have g1 := hW.block h1
  have H1 := Lib.hid g1
  have HA := Lib.hid hA
  have HE : Hid (([] : List ByteArray) ++ splB s = splB s) := Lib.hid rfl
  clear g1 h1 hA
  refine callsIn_of_wp Tryz.func192 rfl trivial ?_ rfl
  simp only [Tryz.ntmps192, List.size_toArray, List.length_cons, List.length_nil, Nat.reduceAdd, Nat.reduceSub, Array.replicate_succ, Array.replicate_zero, List.push_toArray, List.append_toArray, List.nil_append, List.cons_append]
  gi_wp2
  gi_loopw [3] (fun _ wr => ∃ (pre : List ByteArray) (y : ByteArray), pre.length + y.size ≤ s.size ∧ y.size ≤ 9223372036854775807 ∧ J pre wr ∧ Hid (wr.heap[b1]? = some (.cells #[.string y] 9 (0, 0))) ∧ Hid (pre ++ splB y = splB s))
    (fun _ wr => boxSz b1 wr)
  case atStart => exact ⟨[], s, by simp, hs, h0, H1, HE⟩
  clear H1 h0 HE
  case round =>
    obtain ⟨pre, y, hpk, hy0, hJs, H1, HE⟩ := hrel
    have c1 : wr.cell? ⟨b1, 0, none⟩ = some (.string y) := cell_of_row _ _ _ _ _ _ H1.out
    rcases idx_two y with hi | ⟨k, hi⟩
    · have HC := Lib.hid (cut_none y wr hi)
      have HS : Hid (pre ++ [y] = splB s) := Lib.hid (by rw [← HE.out, splB_none y hi])
      obtain ⟨fn, tmps, assign, body, hy, hR⟩ := hY pre y wr hJs (by omega)
      unfold strV at hy
      clear hi
      gi_wp2_with (refine ⟨trivial, ?_⟩; gi_at_call 193; refine (callsIn_wide.2 HC.out).mono ?_; rintro e w' ⟨rfl, rfl⟩)
      refine hR.mono ?_
      rintro e W3 (⟨rfl, hJ3, hk3⟩ | ⟨rfl, hJ3⟩)
      · have HJ3 := Lib.hid hJ3
        clear hJ3 hy hR c1
        gi_wp2
        refine bodyPost_ret (results_none rfl _ _ _) rfl ?_
        exact ⟨⟨_, rfl⟩, .inl ⟨_, HS.out, HJ3.out⟩⟩
      · have HJ3 := Lib.hid hJ3
        clear hJ3 hy hR c1
        gi_wp2
        refine bodyPost_ret (results_none rfl _ _ _) rfl ?_
        exact ⟨⟨_, rfl⟩, .inr ⟨_, ⟨[], by rw [List.append_nil]; exact HS.out⟩, HJ3.out⟩⟩
    · have hlt := idx_lt hi
      have HC := Lib.hid (cut_some y k wr hi hlt hy0)
      have HS : Hid ((pre ++ [y.extract 0 k]) ++ splB (y.extract (k + 1) y.size) = splB s) := Lib.hid (by rw [← HE.out, splB_some y k hi, List.append_assoc]; rfl)
      have hsz : (y.extract (k + 1) y.size).size = y.size - (k + 1) := by rw [ByteArray.size_extract]; omega
      clear hi
      generalize y.extract 0 k = y1 at HC HS ⊢
      generalize y.extract (k + 1) y.size = y2 at HC HS hsz ⊢
      gi_wp2_with (refine ⟨trivial, ?_⟩; gi_at_call 193; refine (callsIn_wide.2 HC.out).mono ?_; rintro e w' ⟨rfl, nq, rfl⟩)
      have H1q : Hid ((wr.drewN nq).heap[b1]? = some (.cells #[.string y] 9 (0, 0))) := H1
      have hJq := HA.out _ _ _ none hJs (grownBy_drewN wr nq) (fun r e => by cases e)
      clear HC c1 hJs
      generalize wr.drewN nq = wq at hJq H1q ⊢
      obtain ⟨fn, tmps, assign, body, hy, hR⟩ := hY pre y1 wq hJq (by omega)
      unfold strV at hy
      gi_wp2
      rw [hy, Oper.uponIn_round]
      refine ⟨fun _ => hn, hR.mono ?_⟩
      rintro e W3 (⟨rfl, hJ3, hk3⟩ | ⟨rfl, hJ3⟩)
      · have H3 : Hid (W3.heap[b1]? = some (.cells #[.string y] 9 (0, 0))) := Lib.hid (hk3.trans H1q.out)
        have c3 : W3.cell? ⟨b1, 0, none⟩ = some (.string y) := cell_of_row _ _ _ _ _ _ H3.out
        have hfz : W3.frozen? ⟨b1, 0, none⟩ = false := frozen_of_row _ _ _ _ _ H3.out
        have HJ3 := Lib.hid hJ3
        clear hJ3 hy hR hk3
        gi_wp2
        have hb : Boxed W3 b1 9 (.string y) := H3.out
        have hb2 : (W3.setCell ⟨b1, 0, none⟩ (.string y2)).heap[b1]? = some (.cells #[.string y2] 9 (0, 0)) := hb.set _
        go_roundw
        case rel =>
          exact ⟨pre ++ [y1], y2, by rw [List.length_append, hsz]; simp only [List.length_cons, List.length_nil]; omega, by omega, HA.out _ _ _ (some b1) HJ3.out (grownBy_setCell' _ _ _) (fun r e => by cases e; exact ⟨rfl, _, hb2⟩), Lib.hid hb2, HS⟩
        case measure =>
          show boxSz b1 (W3.setCell ⟨b1, 0, none⟩ (.string y2)) < _
          rw [boxSz_row hb2, boxSz_row H1.out]
          omega
      · have HJ3 := Lib.hid hJ3
        clear hJ3 hy hR
        gi_wp2
        refine bodyPost_ret (results_none rfl _ _ _) rfl ?_
        exact ⟨⟨_, rfl⟩, .inr ⟨_, ⟨_, HS.out⟩, HJ3.out⟩⟩
end
section
open Go Go.RowKit Go.Shelf
attribute [local go_sem] gAt gUpon Oper.semAt_some
attribute [local simp] Gr.refl Gr.alloc

theorem bad1_any (x : Nat) (w : World) : Calls Tryz.prog 151 #[.int .i32 (x : Int)] w fun e w' => e = .returned (.bool (badR x)) ∧ w' = w := by
  by_cases h : x < 33
  · have t1 : decide ((x : Int) < 33) = true := decide_eq_true (by omega)
    have t1' : decide (x < 33) = true := decide_eq_true h
    have e : badR x = true := by unfold badR; rw [t1']; rfl
    rw [e]
    clear e h
    go_enter Tryz.func151, Tryz.ntmps151
    go_wp2
    go_ret
    exact ⟨rfl, rfl⟩
  · have t1 : decide ((x : Int) < 33) = false := decide_eq_false (by omega)
    have t1' : decide (x < 33) = false := decide_eq_false h
    have e : badR x = decide ((x : Int) > 126) := by
      unfold badR; rw [t1', Bool.false_or]
      by_cases h2 : 126 < x
      · rw [decide_eq_true h2, decide_eq_true (by omega)]
      · rw [decide_eq_false h2, decide_eq_false (by omega)]
    rw [e]
    clear e h
    go_enter Tryz.func151, Tryz.ntmps151
    go_wp2
    go_ret
    exact ⟨rfl, rfl⟩
theorem contains_any (s : ByteArray) (w : World) : Calls Tryz.prog 150 #[.string s, .func (.func 151) #[] #[]] w fun e w' => e = .returned (.bool (s.data.toList.any badC)) ∧ Gr w w' := by
  have := Tryz.strings_ContainsFunc_runes 151 #[] (enters_of Tryz.func151 (by kernel_rfl) rfl) badR s w (fun W x _ _ => by
    refine (bad1_any x W).mono ?_
    rintro e w' ⟨rfl, rfl⟩
    exact ⟨rfl, 0, rfl⟩)
  rw [idx_bad0] at this
  exact this
/-- a part that no path has -/
def badB (p : ByteArray) : Bool := p.toList.isEmpty || (p.toList == [46] || (p.toList == [46, 46] || p.data.toList.any badC))
def goodB (s : ByteArray) : Bool := (splB s).all (fun p => !badB p) && decide (s.size ≤ 64)
theorem parts_any (s : ByteArray) (w : World) :
    Calls Tryz.prog 149 #[.string s] w fun e w' => e = .returned (.func (.func 192) #[] #[.pointer (some ⟨w.heap.size, 0, none⟩)]) ∧ w.alloc (.cells #[.string s] 9) = w' := by
  go_enter Tryz.func149, Tryz.ntmps149
  go_wp2
  go_ret
  exact ⟨rfl, rfl⟩
theorem results_cell_bool {fn : Func} {p : Tmp} (h : fn.results = #[.cell p 4]) (tmps : Array Value) (w : World) (g : Nat) (v : Value)
    (hp : tmps.getD p undef = .pointer (some ⟨g, 0, none⟩)) (hg : w.cell? ⟨g, 0, none⟩ = some v) :
    (results fn tmps).run Tryz.prog w = .ok v w := by
  have hp' : tmps[p]?.getD undef = .pointer (some ⟨g, 0, none⟩) := by simpa using hp
  simp [results, h, hp', asAddr, loadVar, isAgg, Sem.run_bind, Result.andThen, go_sem, hg]
/-- what the loop keeps -/
def PathI (w : World) (b1 : Nat) (pre : List ByteArray) (W : World) : Prop :=
  ((Boxed W w.heap.size 4 (.bool false) ∧ pre.all (fun p => !badB p) = true) ∧ Below w.heap.size w W) ∧ ∃ u, Boxed W b1 9 u
def PathX (w : World) (c : Code) (pre : List ByteArray) (W : World) : Prop :=
  ((Boxed W w.heap.size 4 (.bool false) ∧ c = .ret ∧ pre.all (fun p => !badB p) = false) ∧ Below w.heap.size w W)
theorem boxed_own {β : Type} (B b : Nat) (t : TypeId) (v : Value) (p : β → Prop) : OwnFrom B fun s W => Boxed W b t v ∧ p s := by
  rintro s X Y row ⟨hu, hp⟩ hg hr
  exact ⟨hu.kept hg (fun e => by obtain ⟨_, o, ho, hc⟩ := hr _ e.symm; rw [show X.heap[b]? = _ from hu] at ho; cases ho; cases hc), hp⟩
theorem pathI_own (w : World) (b1 : Nat) (B : Nat) (hB : w.heap.size ≤ B) : OwnFrom B (PathI w b1) := by
  refine OwnFrom.and (OwnFrom.and (boxed_own _ _ _ _ _) (ownFrom_below (Nat.le_refl _) hB)) ?_
  rintro s X Y row ⟨u, hu⟩ hg hr
  exact ⟨u, hu.kept hg (fun e => by obtain ⟨_, o, ho, hc⟩ := hr _ e.symm; rw [show X.heap[b1]? = _ from hu] at ho; cases ho; cases hc)⟩
theorem pathX_own (w : World) (c : Code) (B : Nat) (hB : w.heap.size ≤ B) : OwnFrom B (PathX w c) :=
  OwnFrom.and (boxed_own _ _ _ _ _) (ownFrom_below (Nat.le_refl _) hB)
theorem pathI_turn (w : World) (b1 : Nat) (h1 : w.heap.size < b1) : Abide1 b1 9 (PathI w b1) := by
  rintro s A B row ⟨⟨⟨hv, hp⟩, hB⟩, u, hu⟩ hg hrow
  refine ⟨⟨⟨hv.kept hg (fun e => by have := (hrow _ e.symm).1; omega), hp⟩, hB.grown hg (by have := hB.size; omega) (fun j e => by have := (hrow j e).1; omega)⟩, ?_⟩
  cases row with
  | none => exact ⟨u, hu.kept hg (by simp)⟩
  | some r => obtain ⟨rfl, v, hv⟩ := hrow r rfl; exact ⟨v, hv⟩
set_option maxRecDepth 100000 in
set_option maxHeartbeats 2000000 in
theorem isPath_any (s : ByteArray) (hs : s.size ≤ 9223372036854775807) (w : World) :
    Calls Tryz.prog 93 #[.string s] w fun e w' => e = .returned (.bool (goodB s)) ∧ Gr w w' := by
  refine (callsIn_wide (n := 6)).1 ?_
  refine callsIn_of_wp_marks Tryz.func93 rfl trivial ?_ rfl
  simp only [Tryz.ntmps93, List.size_toArray, List.length_cons, List.length_nil, Nat.reduceAdd, Nat.reduceSub, Array.replicate_succ, Array.replicate_zero, List.push_toArray, List.append_toArray, List.nil_append, List.cons_append]
  have bO := Boxed.new w 4 (.bool false)
  have Hs := Lib.hid hs
  gi_wp2_with (refine ⟨trivial, ?_⟩; gi_at_call 149; refine (callsIn_wide.2 (parts_any _ _)).mono ?_; rintro e w' ⟨rfl, rfl⟩)
  have hB0 : Below w.heap.size w ((w.alloc (.cells #[.bool false] 4)).alloc (.cells #[.string s] 9)) := ((Below.refl _ w).alloc (Nat.le_refl _) _).alloc (by simp) _
  have b1 : Boxed ((w.alloc (.cells #[.bool false] 4)).alloc (.cells #[.string s] 9)) (w.heap.size + 1) 9 (.string s) := by
    have := Boxed.new (w.alloc (.cells #[.bool false] 4)) 9 (.string s)
    rw [World.size_alloc] at this; exact this
  refine wpIn_rangeFunc_turnX (el := fun x : ByteArray => #[.string x]) (w.heap.size + 1) 9 (by simp) rfl (by decide) (gf := 192) (lb := #[.pointer (some ⟨w.heap.size + 1, 0, none⟩)]) rfl trivial (enters_of Tryz.func192 (by kernel_rfl) rfl)
    (parts_turn 5 (by decide) (w.heap.size + 1) s hs _ b1) (fun _ => rfl)
    (PathI w (w.heap.size + 1)) (PathX w) (pathI_own _ _ _ (by simp; omega)) (fun c => pathX_own _ _ _ (by simp; omega)) (pathI_turn _ _ (by omega)) ⟨⟨⟨bO.alloc _, rfl⟩, hB0⟩, _, b1⟩ ?a1 ?assign ?body ?done ?stop
  case assign =>
    intro l x W K hK
    gi_wp2
    exact hK
  case body =>
    rintro l pre x W ⟨⟨⟨hv, hp⟩, hB⟩, u, hu⟩ hsz hlt
    have hc := hv.cell
    have hf := hv.frozen
    have HC := Lib.hid (contains_any x W)
    have HX : Hid (badB x = true → ∀ W', Gr W W' → KeepsFrom (w.heap.size + 2) W (W'.setCell ⟨w.heap.size, 0, none⟩ (.bool false)) ∧ PathX w .ret (pre ++ [x]) (W'.setCell ⟨w.heap.size, 0, none⟩ (.bool false))) := Lib.hid (fun hb W' hg => by
      have hv' : Boxed W' w.heap.size 4 (.bool false) := hg.block hv
      have hB' : Below w.heap.size w W' := hB.trans (Below.mono hg hB.size)
      have hgs := grownBy_setCell' W' w.heap.size (.bool false)
      exact ⟨keepsFrom_chg ((Chg.of_gr (g := some w.heap.size) hg).trans (Chg.of_grownBy hgs)) (fun k e => by cases e; omega),
        ⟨⟨hv'.set _, rfl, by rw [List.all_append]; simp [hb]⟩, hB'.grown hgs hB'.size (fun k e => by cases e; exact Nat.le_refl _)⟩⟩)
    have HY : Hid (badB x = false → ∀ W', Gr W W' → KeepsFrom (w.heap.size + 2) W W' ∧ W'.heap[w.heap.size + 1]? = W.heap[w.heap.size + 1]? ∧ PathI w (w.heap.size + 1) (pre ++ [x]) W') := Lib.hid (fun hb W' hg => by
      have hv' : Boxed W' w.heap.size 4 (.bool false) := hg.block hv
      have hu' : Boxed W' (w.heap.size + 1) 9 u := hg.block hu
      have hB' : Below w.heap.size w W' := hB.trans (Below.mono hg hB.size)
      exact ⟨keepsFrom_chg (Chg.of_gr (g := none) hg) (fun k e => by cases e), hu'.trans hu.symm, ⟨⟨⟨hv', by rw [List.all_append, hp]; simp [hb]⟩, hB'⟩, u, hu'⟩⟩)
    obtain ⟨B1, t1⟩ : ∃ B, x.toList.isEmpty = B := ⟨_, rfl⟩
    obtain ⟨B2, t2⟩ : ∃ B, (x.toList == [46]) = B := ⟨_, rfl⟩
    obtain ⟨B3, t3⟩ : ∃ B, (x.toList == [46, 46]) = B := ⟨_, rfl⟩
    obtain ⟨B4, t4⟩ : ∃ B, x.data.toList.any badC = B := ⟨_, rfl⟩
    have HBd : Hid (badB x = (B1 || (B2 || (B3 || B4)))) := Lib.hid (by unfold badB; rw [t1, t2, t3, t4])
    have Hlt : w.heap.size < W.heap.size := hv.lt
    rw [t4] at HC
    clear t4 hp hB hv hu hsz
    cases B1 with
    | true =>
      gi_wp2
      refine ⟨trivial, ?_⟩
      gi_wp2
      rw [World.size_alloc, World.size_alloc]
      exact HX.out HBd.out W (Gr.refl _)
    | false =>
      cases B2 with
      | true => 
        gi_wp2
        refine ⟨trivial, ?_⟩
        gi_wp2
        rw [World.size_alloc, World.size_alloc]
        exact HX.out HBd.out W (Gr.refl _)
      | false =>
        cases B3 with
        | true => 
          gi_wp2
          refine ⟨trivial, ?_⟩
          gi_wp2
          rw [World.size_alloc, World.size_alloc]
          exact HX.out HBd.out W (Gr.refl _)
        | false =>
          cases B4 with
          | true =>
            gi_wp2_with (refine ⟨trivial, ?_⟩; gi_at_call 150; refine (CallsIn.inRound l (callsIn_wide.2 HC.out)).mono ?_; rintro e W' ⟨rfl, hg⟩; have HG := Lib.hid hg; have hc' := hg.cell hc; have hfz' := (hg.frozen (a := ⟨w.heap.size, 0, none⟩) Hlt).trans hf; clear hg)
            rw [World.size_alloc, World.size_alloc]
            exact HX.out HBd.out W' HG.out
          | false =>
            gi_wp2_with (refine ⟨trivial, ?_⟩; gi_at_call 150; refine (CallsIn.inRound l (callsIn_wide.2 HC.out)).mono ?_; rintro e W' ⟨rfl, hg⟩; have HG := Lib.hid hg; have hc' := hg.cell hc; have hfz' := (hg.frozen (a := ⟨w.heap.size, 0, none⟩) Hlt).trans hf; clear hg)
            rw [World.size_alloc, World.size_alloc]
            exact HY.out HBd.out W' HG.out
  case done =>
    rintro D xs W hD rfl ⟨⟨⟨hv, hp⟩, hB⟩, -⟩ hK
    have hc := hv.cell
    have hf := hv.frozen
    obtain ⟨B, hBB⟩ : ∃ B, goodB s = B := ⟨_, rfl⟩
    have t1 : decide ((s.size : Int) ≤ 64) = B := by
      rw [← hBB]; unfold goodB; rw [hp, Bool.true_and]
      by_cases h : s.size ≤ 64
      · rw [decide_eq_true h, decide_eq_true (by omega)]
      · rw [decide_eq_false h, decide_eq_false (by omega)]
    have t1' : decide (s.size ≤ 64) = B := by
      rw [← hBB]; unfold goodB; rw [hp, Bool.true_and]
    have hv2 := hv.set (.bool B)
    have hlt := hv.lt
    have hKD : (W.setCell ⟨w.heap.size, 0, none⟩ (.bool B)).heap[D]? = some (.deferred (some [])) := ((grownBy_setCell' W w.heap.size (.bool B)).block D (Array.getElem?_eq_some_iff.1 hK).1 (fun e => by cases e; simp at hD; omega)).trans hK
    have HBB := Lib.hid hBB
    clear hBB
    gi_wp2
    have hD' : w.heap.size ≠ D := by simp at hD; omega
    have hcell : ((W.setCell ⟨w.heap.size, 0, none⟩ (.bool B)).putObj D (.deferred none)).cell? ⟨w.heap.size, 0, none⟩ = some (.bool B) := by
      rw [World.cell?_of_block (w := W.setCell ⟨w.heap.size, 0, none⟩ (.bool B)) (World.putObj_heap_other hD')]; exact hv2.cell
    refine ⟨by simp, .inl ⟨_, _, rfl, run_takeDeferred hKD, ?_⟩⟩
    refine ⟨_, results_cell_bool rfl _ _ w.heap.size (.bool B) rfl hcell, by rw [HBB.out], ?_⟩
    have hBs : Below w.heap.size w (W.setCell ⟨w.heap.size, 0, none⟩ (.bool B)) := hB.grown (grownBy_setCell' W w.heap.size (.bool B)) hB.size (fun k e => by cases e; exact Nat.le_refl _)
    exact hBs.trans (belowK_b (w := w) (Nat.le_refl _) _ D _ _ (by simp at hD; omega) hKD rfl rfl)
  case stop =>
    rintro D c pre W hD ⟨r, hr⟩ ⟨⟨hv, rfl, hp⟩, hB⟩ hK
    have hc := hv.cell
    have HF : Hid (goodB s = false) := Lib.hid (by
      unfold goodB
      rw [← hr, List.all_append, hp]; rfl)
    gi_wp2
    have hD' : w.heap.size ≠ D := by simp at hD; omega
    have hcell : (W.putObj D (.deferred none)).cell? ⟨w.heap.size, 0, none⟩ = some (.bool false) := by
      rw [World.cell?_of_block (w := W) (World.putObj_heap_other hD')]; exact hc
    refine ⟨by simp, .inl ⟨_, _, rfl, run_takeDeferred hK, ?_⟩⟩
    refine ⟨_, results_cell_bool rfl _ _ w.heap.size (.bool false) rfl hcell, by rw [HF.out], ?_⟩
    exact hB.trans (belowK_b (w := w) (Nat.le_refl _) W D _ _ (by simp at hD; omega) hK rfl rfl)
end
end Go.Proofs.YtaoggehdkddgeaaGreatDoor
end
