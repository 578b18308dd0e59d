/- Package wire: PutInt, of any number. -/
import Derived.Test.YtaoggehdkddgeaaGreatDoorGRdZ
import Derived.Maps.Own
import Derived.Maps.OwnOps
import Derived.Maps.Views
import Derived.WalkArith
section
namespace Go.Proofs.YtaoggehdkddgeaaGreatDoor
open Go.RowKit Go.Shelf
attribute [local go_sem] Oper.semAt_some

def numZ (z : Nat) : ByteArray := ⟨((grpL 10 z).map fun x => UInt8.ofNat (grpN x)).toArray⟩
theorem numZ_size (z : Nat) : (numZ z).size ≤ 10 := by
  show (List.toArray _).size ≤ 10
  simp only [List.size_toArray, List.length_map]
  exact grpL_len 10 z
theorem xor_neg (m : Int) (z : Nat) (hm : -4611686018427387903 ≤ m) (hm0 : m < 0) (hz : (z : Int) = -2 * m - 1) : bits .xor .u64 (IntKind.u64.wrap (IntKind.u64.wrap m * 2)) (IntKind.u64.wrap (m / 9223372036854775808)) = (z : Int) := by
  obtain ⟨A, hA⟩ : ∃ A : Nat, (A : Int) = 18446744073709551616 + 2 * m := ⟨(18446744073709551616 + 2 * m).toNat, by omega⟩
  have e1 : IntKind.u64.wrap (IntKind.u64.wrap m * 2) = (A : Int) := by rw [wrap_u64, wrap_u64]; omega
  have e2 : IntKind.u64.wrap (m / 9223372036854775808) = ((18446744073709551615 : Nat) : Int) := by rw [wrap_u64]; omega
  rw [e1, e2]
  show IntKind.u64.wrap ((BitVec.ofInt 64 (A : Int) ^^^ BitVec.ofInt 64 ((18446744073709551615 : Nat) : Int)).toNat : Int) = _
  rw [BitVec.ofInt_natCast, BitVec.ofInt_natCast, show BitVec.ofNat 64 18446744073709551615 = BitVec.allOnes 64 from by decide, BitVec.xor_allOnes, BitVec.toNat_not, BitVec.toNat_ofNat, Nat.mod_eq_of_lt (by omega), wrap_u64]
  omega
set_option maxRecDepth 100000 in
set_option maxHeartbeats 2000000 in
theorem putIntN (m : Int) (z : Nat) (hm : -4611686018427387903 ≤ m) (hm0 : m < 0) (hzm : (z : Int) = -2 * m - 1) (w : World) :
    Calls Tryz.prog 64 #[.int .i64 m] w fun e w' => e = .returned (.tuple #[.string (numZ z), .int .i64 0]) ∧ Gr w w' := by
  obtain ⟨i0, hi, hz0, hz1, hz2⟩ := info_parts infoU8
  refine (callsIn_wide (n := 6)).1 ?_
  refine callsIn_of_wp_marks Tryz.func64 rfl trivial ?_ rfl
  simp only [Tryz.ntmps64, List.size_toArray, List.length_cons, List.length_nil, Nat.reduceAdd, Nat.reduceSub, Array.replicate_succ, Array.replicate_zero, List.push_toArray, List.append_toArray, List.nil_append, List.cons_append]
  have t1 : decide (m < -4611686018427387903) = false := decide_eq_false (by omega)
  have t2 : decide (4611686018427387903 < m) = false := decide_eq_false (by omega)
  have bO := Boxed.new w 73 (.slice none 0 0)
  have ez := xor_neg m z hm hm0 hzm
  have hz64 : z < 18446744073709551616 := by omega
  clear hzm
  gi_wp2_with (refine ⟨trivial, ?_⟩; gi_at_call 138; refine (callsIn_wide.2 (groups_any _ _)).mono ?_; rintro e w' ⟨rfl, rfl⟩)
  have hB0 : Below w.heap.size w ((w.alloc (.cells #[.slice none 0 0] 73)).alloc (.cells #[.int .u64 (z : Int)] 217)) := ((Below.refl _ w).alloc (Nat.le_refl _) _).alloc (by simp) _
  have b1 : Boxed ((w.alloc (.cells #[.slice none 0 0] 73)).alloc (.cells #[.int .u64 (z : Int)] 217)) (w.heap.size + 1) 217 (.int .u64 (z : Int)) := by
    have := Boxed.new (w.alloc (.cells #[.slice none 0 0] 73)) 217 (.int .u64 (z : Int))
    rw [World.size_alloc] at this; exact this
  refine wpIn_rangeFunc_turn (el := fun x : Nat × Bool => #[.int .u8 (x.1 : Int), .bool x.2]) (w.heap.size + 1) 217 (by simp) rfl (by decide) (gf := 183) (lb := #[.pointer (some ⟨w.heap.size + 1, 0, none⟩)]) rfl trivial (enters_of Tryz.func183 (by kernel_rfl) rfl)
    (groups_turn 5 (by decide) (w.heap.size + 1) z hz64 _ b1) (fun _ => rfl)
    (PutI w (w.heap.size + 1)) (putI_own _ _ _ (by simp; omega)) (putI_turn _ _ (by omega)) ⟨⟨⟨_, bO.alloc _, World.ownsRow_nil _ _ _ _, trivial⟩, hB0⟩, _, b1⟩ ?a1 ?assign ?body ?done
  case assign =>
    intro l x W K hK
    gi_wp2
    exact hK
  case body =>
    rintro l pre ⟨g, last⟩ W ⟨⟨⟨v, hv, hrow, -⟩, hB⟩, u, hu⟩ hsz hlt
    have hc := hv.cell
    have hor := or_u8_128 g
    obtain ⟨o, ho⟩ : ∃ o : Nat, g % 256 ||| 128 = o := ⟨_, rfl⟩
    rw [ho] at hor
    have Ho := Lib.hid ho
    clear ho
    have hnr := hu.not_row (by decide) hrow
    cases last with
    | true =>
      gi_wp2_with (gi_at_builtin; refine wpListIn_append_own _ rfl _ _ 73 rfl w.heap.size 5 i0 (.int .u8 0) 1 1 Tryz.underlying73 hi hz0 hz1 hz2 rfl (by decide) _ _ _ rfl (hrow.alloc _) ⟨W.heap.size, 0, none⟩ 1 1 [.int .u8 (g : Int)] rfl rfl (cell_one_new _ _ _) (by simp [Value.oneCell']) (by unfold maxLen; omega) (by omega) (by have := hB.size; simp; omega) ?_; intro v' w1 hown' hgrow _; obtain ⟨g', cap', rfl⟩ := ownsRow_succ hown'; obtain ⟨hv1, hv2, hr2, hk2, hb2⟩ := hv.appended (by decide) hrow hB.size (Nat.le_refl _) hown' hgrow; have hu1 := (((hu.alloc _).kept hgrow hnr).other (by omega) (.slice (some ⟨g', 0, none⟩) (pre.length + 1) cap') : Boxed (w1.setCell ⟨w.heap.size, 0, none⟩ _) (w.heap.size + 1) 217 u); have hc1 := hv1.cell; have hf1 := hv1.frozen)
      refine ⟨hk2.from _, hu1.trans hu.symm, ⟨⟨_, hv2, ?_, trivial⟩, hB.trans hb2⟩, u, hu1⟩
      rw [List.length_append, grpC_push]
      simpa [grpN, Ho.out] using hr2
    | false =>
      gi_wp2_with (gi_at_builtin; refine wpListIn_append_own _ rfl _ _ 73 rfl w.heap.size 5 i0 (.int .u8 0) 1 1 Tryz.underlying73 hi hz0 hz1 hz2 rfl (by decide) _ _ _ rfl (hrow.alloc _) ⟨W.heap.size, 0, none⟩ 1 1 [.int .u8 (o : Int)] rfl rfl (cell_one_new _ _ _) (by simp [Value.oneCell']) (by unfold maxLen; omega) (by omega) (by have := hB.size; simp; omega) ?_; intro v' w1 hown' hgrow _; obtain ⟨g', cap', rfl⟩ := ownsRow_succ hown'; obtain ⟨hv1, hv2, hr2, hk2, hb2⟩ := hv.appended (by decide) hrow hB.size (Nat.le_refl _) hown' hgrow; have hu1 := (((hu.alloc _).kept hgrow hnr).other (by omega) (.slice (some ⟨g', 0, none⟩) (pre.length + 1) cap') : Boxed (w1.setCell ⟨w.heap.size, 0, none⟩ _) (w.heap.size + 1) 217 u); have hc1 := hv1.cell; have hf1 := hv1.frozen)
      refine ⟨hk2.from _, hu1.trans hu.symm, ⟨⟨_, hv2, ?_, trivial⟩, hB.trans hb2⟩, u, hu1⟩
      rw [List.length_append, grpC_push]
      simpa [grpN, Ho.out] using hr2
  case done =>
    rintro D xs W hD rfl ⟨⟨⟨v, hv, hrow, -⟩, hB⟩, -⟩ hK
    have hc := hv.cell
    obtain ⟨m, hm⟩ : ∃ m, (grpL 10 z).length = m := ⟨_, rfl⟩
    have hm1 : 1 ≤ m := by rw [← hm, grpL]; split <;> simp
    rw [hm] at hrow
    obtain ⟨g, cap, rfl, hcell⟩ := row_cell hrow hm1
    have hconv : (convert 73 9 (.slice (some ⟨g, 0, none⟩) m cap)).run Tryz.prog W = .ok (.string (numZ z)) W := by
      have := run_convert_bytes_back (P := Tryz.prog) W 73 9 5 ⟨g, 0, none⟩ cap ((grpL 10 z).map fun x => UInt8.ofNat (grpN x)) Tryz.underlying73 Tryz.underlying5 Tryz.underlying9 ?_
      · rw [List.length_map, hm] at this
        rw [this]; rfl
      · intro j hj
        rw [List.length_map] at hj
        have hx : (grpC (grpL 10 z))[j]? = some (.int .u8 (grpN ((grpL 10 z)[j]) : Int)) := by
          unfold grpC
          rw [List.getElem?_map, List.getElem?_eq_getElem hj]; rfl
        have := hcell j _ hx
        rw [List.getElem_map, UInt8.toNat_ofNat_of_lt' (grpL_lt _ _ _ (List.getElem_mem hj))]
        by_cases h0 : j = 0
        · subst h0; simpa [Addr.add] using this
        · simpa [Addr.add, h0] using this
    clear hcell
    gi_wp2
    refine ⟨by simp, .inl ⟨_, _, rfl, run_takeDeferred hK, ?_⟩⟩
    refine ⟨_, results_tmp2 rfl _ _ _, rfl, hB.trans (belowK_b (w := w) (Nat.le_refl _) W D _ _ (by simp at hD; omega) hK rfl rfl)⟩
theorem putIntS (m : Int) (h : -4611686018427387903 ≤ m ∧ m ≤ 4611686018427387903) (w : World) : Calls Tryz.prog 64 #[.int .i64 m] w fun e w' => ∃ s, e = .returned (.tuple #[.string s, .int .i64 0]) ∧ s.size ≤ 10 ∧ Gr w w' := by
  by_cases h0 : m < 0
  · obtain ⟨z, hz⟩ : ∃ z : Nat, (z : Int) = -2 * m - 1 := ⟨(-2 * m - 1).toNat, by omega⟩
    refine (putIntN m z h.1 h0 hz w).mono ?_
    rintro e w' ⟨rfl, hg⟩
    exact ⟨_, rfl, numZ_size z, hg⟩
  · obtain ⟨n, rfl⟩ : ∃ n : Nat, m = (n : Int) := ⟨m.toNat, by omega⟩
    refine (putInt_any n (by omega) w).mono ?_
    rintro e w' ⟨rfl, hg⟩
    exact ⟨_, rfl, numB_size n, hg⟩
end Go.Proofs.YtaoggehdkddgeaaGreatDoor
end
section
namespace Go.Proofs.YtaoggehdkddgeaaGreatDoor
section
open Go Go.RowKit Go.Shelf
open Go.Maps (Keyed)
attribute [local go_sem] gAt gUpon
attribute [local simp] Gr.refl Gr.alloc

/-- a function's number -/
def Rf : Value → Option (DataW Unit × List MemPlace)
  | .func (.func f) a b => if a.size = 0 ∧ b.size = 0 then some (.lit (.int .i64 (f : Int)), []) else none
  | _ => none
theorem Rf_inv {v : Value} {f : Nat} {ps : List MemPlace} (h : Rf v = some (.lit (.int .i64 (f : Int)), ps)) : v = .func (.func f) #[] #[] := by
  unfold Rf at h
  split at h
  · rename_i f' a b
    split at h
    · rename_i hab
      simp only [Option.some.injEq, Prod.mk.injEq, DataW.lit.injEq, Lit.int.injEq, true_and] at h
      obtain ⟨h1, _⟩ := h
      have h2 : f' = f := by exact_mod_cast h1
      rw [h2, Array.eq_empty_of_size_eq_zero hab.1, Array.eq_empty_of_size_eq_zero hab.2]
    · cases h
  · cases h
def fN (f : Nat) : DataW Unit := .lit (.int .i64 (f : Int))
def kN (k : Int) : Lit := .int .i64 k
def propsD : DataW Unit := ((((((((DataW.map []).put (kN 1) (fN 102)).put (kN 2) (fN 103)).put (kN 3) (fN 104)).put (kN 4) (fN 106)).put (kN 5) (fN 107)).put (kN 6) (fN 108)).put (kN 7) (fN 110)).put (kN 8) (fN 111)
def FunAt (g : Nat) (w : World) : Prop := w.ownsMap Tryz.prog 3 Rf g 8 propsD
theorem FunAt.gr {g : Nat} {w x : World} (h : FunAt g w) (hg : Gr w x) : FunAt g x := by
  obtain ⟨es, clock, h1, h2⟩ := h
  exact ⟨es, clock, hg.block h1, h2⟩
theorem keyI (k : Int) (h : -9223372036854775808 ≤ k ∧ k ≤ 9223372036854775807) : keyOf Tryz.prog 3 (.int .i64 k) = some (kN k) := Maps.keyOf_int_mk Tryz.underlying3 (WalkArith.wf_i64 h)
theorem FunAt.look {g : Nat} {w : World} (h : FunAt g w) (k : Int) (hk : -9223372036854775808 ≤ k ∧ k ≤ 9223372036854775807) (f : Nat) (hf : ∀ zd, propsD.atKey (kN k) zd = fN f) :
    (Instr.lookup 127 (.map (some g)) (.int .i64 k) true).run Tryz.prog w = .ok (.tuple #[.func (.func f) #[] #[], .bool true]) w := by
  obtain ⟨es, clock, hb, F, _, hD⟩ := h
  rcases Maps.fit_look true (Maps.int_keyed Tryz.underlying3) Tryz.underlying127 (z := .nilFunc) (by kernel_rfl) hb F (keyI k hk) with ⟨_, _, hat⟩ | ⟨e0, y, _, _, hrun, hR, hat, _⟩
  · exfalso
    have h1 := hat (.lit (.bool true))
    rw [← hD, hf] at h1
    cases h1
  · have h1 := hat (.lit (.bool true))
    rw [← hD, hf] at h1
    obtain ⟨y1, y2⟩ := y
    simp only at h1
    subst h1
    rw [hrun, Rf_inv hR]
    rfl
theorem propsD1 (zd : DataW Unit) : propsD.atKey (kN 1) zd = fN 102 := rfl
theorem put_fun {w : World} {b n : Nat} {D : DataW Unit} (h : w.ownsMap Tryz.prog 3 Rf b n D) (hn : n < maxLen) (k : Int) (hk : -9223372036854775808 ≤ k ∧ k ≤ 9223372036854775807) (f : Nat) :
    ∃ w', (Instr.mapUpdate 127 (.map (some b)) (.int .i64 k) (.func (.func f) #[] #[])).run Tryz.prog w = .ok () w' ∧ w'.ownsMap Tryz.prog 3 Rf b (n + 1) (D.put (kN k) (fN f)) ∧ w.grownBy w' (some b) :=
  World.ownsMap.update h (Maps.int_keyed Tryz.underlying3) Tryz.underlying127 hn (keyI k hk) (val := .func (.func f) #[] #[]) (d := fN f) (ps := []) (by unfold Rf; simp; rfl)
set_option maxRecDepth 100000 in
set_option maxHeartbeats 2000000 in
theorem props_any (w : World) : Calls Tryz.prog 52 #[] w fun e w' => ∃ g, e = .returned (.map (some g)) ∧ FunAt g w' ∧ Gr w w' := by
  have hM := World.ownsMap_made w Tryz.prog 3 Rf
  obtain ⟨w1, r1, m1, g1⟩ := put_fun hM (by decide) 1 (by decide) 102
  obtain ⟨w2, r2, m2, g2⟩ := put_fun m1 (by decide) 2 (by decide) 103
  obtain ⟨w3, r3, m3, g3⟩ := put_fun m2 (by decide) 3 (by decide) 104
  obtain ⟨w4, r4, m4, g4⟩ := put_fun m3 (by decide) 4 (by decide) 106
  obtain ⟨w5, r5, m5, g5⟩ := put_fun m4 (by decide) 5 (by decide) 107
  obtain ⟨w6, r6, m6, g6⟩ := put_fun m5 (by decide) 6 (by decide) 108
  obtain ⟨w7, r7, m7, g7⟩ := put_fun m6 (by decide) 7 (by decide) 110
  obtain ⟨w8, r8, m8, g8⟩ := put_fun m7 (by decide) 8 (by decide) 111
  have hch : Chg (some w.heap.size) (w.alloc (.map #[] 0)) w8 := ((((((((Chg.of_grownBy g1).trans (Chg.of_grownBy g2)).trans (Chg.of_grownBy g3)).trans (Chg.of_grownBy g4)).trans (Chg.of_grownBy g5)).trans (Chg.of_grownBy g6)).trans (Chg.of_grownBy g7)).trans (Chg.of_grownBy g8))
  have HF : Hid (FunAt w.heap.size w8 ∧ Gr w w8) := Lib.hid ⟨m8, gr_step (Gr.refl w) (Gr.alloc _ _) hch (fun g e => by cases e; exact Nat.le_refl _)⟩
  have hmm := @run_makeMap Tryz.prog
  clear hM m1 m2 m3 m4 m5 m6 m7 m8 g1 g2 g3 g4 g5 g6 g7 g8 hch
  go_enter Tryz.func52, Tryz.ntmps52
  go_wp2_with fail
  go_ret
  exact ⟨_, rfl, HF.out⟩
end
section
open Go Go.RowKit Go.Shelf
attribute [local go_sem] gAt gUpon
attribute [local simp] Gr.refl Gr.alloc

def txB (x : Ln) : List UInt8 := (numB x.1.size ++ x.1).data.toList
def preB (n : Nat) : List UInt8 := (numB n).data.toList
def propB (f : Ln → List UInt8) (n : Nat) (ls : List Ln) : List UInt8 := preB n ++ ls.flatMap f
theorem lnB_sz {x : Ln} (h : lnB x = true) : x.1.size ≤ 80 ∧ 0 ≤ x.2 ∧ x.2 ≤ 7 := by
  unfold lnB lineB withinB at h
  simp only [Bool.and_eq_true, decide_eq_true_eq] at h
  exact ⟨by omega, h.2.2.1, h.2.2.2⟩
theorem txB_len {x : Ln} (h : lnB x = true) : (txB x).length ≤ 90 := by
  have h1 := (lnB_sz h).1
  have h2 := numB_size x.1.size
  unfold txB
  rw [Array.length_toList]
  show (numB x.1.size ++ x.1).size ≤ 90
  rw [ByteArray.size_append]; omega
theorem preB_len (n : Nat) : (preB n).length ≤ 10 := by
  unfold preB
  rw [Array.length_toList]
  exact numB_size n
theorem flat_len90 {f : Ln → List UInt8} : ∀ (ls : List Ln), (∀ x ∈ ls, (f x).length ≤ 90) → (ls.flatMap f).length ≤ 90 * ls.length
  | [], _ => by simp
  | x :: ls, h => by
    rw [List.flatMap_cons, List.length_append, List.length_cons]
    have h1 := h x List.mem_cons_self
    have h2 := flat_len90 ls (fun y hy => h y (List.mem_cons_of_mem _ hy))
    omega
theorem prop_step {f : Ln → List UInt8} {n i : Nat} {ls : List Ln} {x : Ln} (h : ls[i]? = some x) : propB f n (ls.take (i + 1)) = propB f n (ls.take i) ++ f x := by
  unfold propB
  rw [List.take_add_one, h, Option.toList_some, List.flatMap_append, ← List.append_assoc]
  simp
theorem prop_len {f : Ln → List UInt8} {n i : Nat} {ls : List Ln} (hf : ∀ x ∈ ls, (f x).length ≤ 90) (hl : ls.length ≤ 64) : (propB f n (ls.take i)).length ≤ 10000 := by
  unfold propB
  rw [List.length_append]
  have h1 := preB_len n
  have h2 := flat_len90 (f := f) (ls.take i) (fun x hx => hf x (List.mem_of_mem_take hx))
  rw [List.length_take] at h2
  omega
theorem Kpt.rws {α : Type} {s : Nat} {enc : α → List Value} (hs : ∀ x, (enc x).length = s) (h0 : 0 < s) {v : Value} {l : List α} {w0 w x : World} {K : Nat → Prop} (h : Rws s enc v l w0) (hg : Gr w0 w) (hK : ∀ k, k < w0.heap.size → K k) (hk : Kpt K w x) : Rws s enc v l x := by
  rcases h with h | ⟨g, off, cap, rfl, h1, h2⟩
  · exact .inl h
  · by_cases hl : l.length = 0
    · exact .inl ⟨List.eq_nil_of_length_eq_zero hl, _, _, by rw [hl]⟩
    · have hx : l[0]? = some (l[0]'(by omega)) := List.getElem?_eq_getElem (by omega)
      have hu : (enc (l[0]'(by omega)))[0]? = some ((enc (l[0]'(by omega)))[0]'(by rw [hs]; exact h0)) := List.getElem?_eq_getElem (by rw [hs]; exact h0)
      have hlt := World.block_lt_of_cell? w0 _ (h2 0 _ 0 _ hx hu)
      simp only at hlt
      refine .inr ⟨g, off, cap, rfl, h1, fun i y j u hy hu => ?_⟩
      have h3 := hg.cell (h2 i y j u hy hu)
      rw [World.cell?_of_block (w := w) (hk.2.2.2.2 g (hK g hlt))]
      exact h3
/-- what a property's function does -/
def WrP (f : Ln → List UInt8) (K : Nat → Prop) (b : Nat) (ls : List Ln) (w : World) (e : Ending) (w' : World) : Prop := e = .returned (.tuple #[]) ∧ Bld K b (propB f ls.length ls) w' ∧ Kpt K w w'
set_option maxRecDepth 100000 in
set_option maxHeartbeats 4000000 in
theorem prop1_bld (K : Nat → Prop) (b : Nat) (v1 v2 : Value) (wd : Int) (bits : ByteArray) (ls : List Ln) (w0 w : World) (hr : Rws 2 lnC v1 ls w0) (hg0 : Gr w0 w) (hK0 : ∀ k, k < w0.heap.size → K k) (hB : Bld K b [] w) (hl : ls.length ≤ 64) (hls : ∀ x ∈ ls, lnB x = true) :
    Calls Tryz.prog 102 #[.agg #[v1, v2, .int .i64 wd, .string bits], .pointer (some ⟨b, 0, none⟩)] w (WrP txB K b ls w) := by
  have HR := Lib.hid hr
  have HG0 := Lib.hid hg0
  have HK0 := Lib.hid hK0
  have HB := Lib.hid hB
  have HLs := Lib.hid hls
  obtain ⟨p1, c1, rfl⟩ := hr.shape
  clear hr hg0 hK0 hB hls
  go_enter Tryz.func102, Tryz.ntmps102
  go_upto_region 1 with fail
  obtain ⟨gB, hgB⟩ : ∃ g, g = w.heap.size := ⟨_, rfl⟩
  refine wp_gen (F := fun y => Gr w y ∧ y.heap[gB]? = some (.cells #[.slice p1 ls.length c1, v2, .int .i64 wd, .string bits] 123 (0, 0))) ⟨Gr.alloc _ _, by rw [hgB]; exact heap_alloc_new _ _⟩ ?_
  rw [← hgB]
  rintro wA ⟨hgA, hrA⟩
  have hgb : gB < wA.heap.size := (Array.getElem?_eq_some_iff.1 hrA).1
  have HBA : Hid (Bld (fun k => K k ∨ k = gB) b [] wA) := Lib.hid (HB.out.add hgA (fun k hk => by
    rcases hk with hk | rfl
    · exact .inl hk
    · exact .inr ⟨by rw [hgB]; exact Nat.le_refl _, hgb⟩))
  have HGA : Hid (Gr w wA) := Lib.hid hgA
  have HRA := Lib.hid hrA
  have HKw : Hid (∀ k, K k → k < w.heap.size) := Lib.hid (fun k hk => HB.out.lt hk)
  obtain ⟨k0, k1, k2, k3⟩ := row4 hrA
  clear hgA hrA hgb HB k1 k2 k3 hgB
  go_wp2_with fail
  refine (number_bld (fun k => (K k ∨ k = gB) ∨ k = wA.heap.size) b [] ls.length wA.heap.size _ (HBA.out.add (Gr.alloc _ _) (fun k hk => ?k1)) (.inr rfl) (heap_alloc_new _ _) (by omega) (by simp)).mono ?_
  case k1 =>
    rcases hk with hk | rfl
    · exact .inl hk
    · exact .inr ⟨Nat.le_refl _, by simp⟩
  rintro e w1 ⟨rfl, hb1, hk1⟩
  have HB1 : Hid (Bld (fun k => K k ∨ k = gB) b (propB txB ls.length (ls.take 0)) w1) := Lib.hid (by
    have h := hb1.sub (K' := fun k => K k ∨ k = gB) (fun k hk => .inl hk)
    unfold propB preB
    simpa using h)
  have HK1 : Hid (Kpt (fun k => K k ∨ k = gB) wA w1) := Lib.hid ((Kpt.of_gr (Gr.alloc _ _) (fun k hk => HBA.out.lt hk)).trans (hk1.sub (fun k hk => .inl hk)))
  have hr1 := HK1.out.block (.inr rfl) HRA.out
  obtain ⟨d0, -, -, -⟩ := row4 hr1
  clear hb1 hk1 k0 hr1
  go_wp2_with fail
  go_loopw [17] (fun v17 W => ∃ i : Nat, i ≤ ls.length ∧ v17 = .int .i64 (i : Int) ∧ Hid (Bld (fun k => K k ∨ k = gB) b (propB txB ls.length (ls.take i)) W) ∧ Hid (Kpt (fun k => K k ∨ k = gB) wA W)) (fun v17 _ => ls.length - (intOf v17).toNat)
  case atStart => exact ⟨0, Nat.zero_le _, rfl, HB1, HK1⟩
  clear HB1 HK1 d0
  case round =>
    obtain ⟨i, hi, rfl, HBi, HKi⟩ := hrel
    by_cases hlt : i < ls.length
    · have ht : decide (i < ls.length) = true := decide_eq_true hlt
      obtain ⟨x, hx⟩ : ∃ x, ls[i]? = some x := ⟨_, List.getElem?_eq_getElem hlt⟩
      have HSt := Lib.hid (prop_step (f := txB) (n := ls.length) hx)
      have HLn : Hid ((propB txB ls.length (ls.take i)).length ≤ 10000) := Lib.hid (prop_len (fun x hx => txB_len (HLs.out x hx)) hl)
      have hsz := (lnB_sz (HLs.out x (List.mem_of_getElem? hx))).1
      obtain ⟨g, off, rfl, hlc, hc⟩ := (Kpt.rws (s := 2) (enc := lnC) (fun _ => rfl) (by decide) HR.out (HG0.out.trans HGA.out) (fun k hk => (.inl (HK0.out k hk))) HKi.out).at_ hx
      have hc0 := hc 0 _ rfl
      have hc1 := hc 1 _ rfl
      rw [Nat.add_zero] at hc0
      rw [← Nat.add_assoc] at hc1
      obtain ⟨t, m⟩ := x
      simp only at hc0 hc1 hsz
      have HSt2 : Hid (propB txB ls.length (ls.take (i + 1)) = propB txB ls.length (ls.take i) ++ (numB t.size ++ t).data.toList) := HSt
      clear hc hx HSt
      go_wp2_with fail
      refine (text_bld (fun k => K k ∨ k = gB) b (propB txB ls.length (ls.take i)) t _ (HBi.out.gr (Gr.alloc _ _)) (by omega) (by have := HLn.out; omega)).mono ?_
      rintro e w2 ⟨rfl, hb2, hk2⟩
      have HB2 : Hid (Bld (fun k => K k ∨ k = gB) b (propB txB ls.length (ls.take (i + 1))) w2) := Lib.hid (by rw [HSt2.out]; exact hb2)
      have HK2 : Hid (Kpt (fun k => K k ∨ k = gB) wA w2) := Lib.hid (HKi.out.trans ((Kpt.of_gr (Gr.alloc _ _) (fun k hk => HBi.out.lt hk)).trans hk2))
      clear hb2 hk2 HBi HKi hc0 hc1 HSt2 HLn
      go_wp2_with fail
      go_roundw
      case rel => exact ⟨i + 1, by omega, by go_num, HB2, HK2⟩
      case measure => simp [intOf]; omega
    · have ht : decide (i < ls.length) = false := decide_eq_false hlt
      have HFin : Hid (WrP txB K b ls w (.returned (.tuple #[])) wr) := Lib.hid (by
        have h := HBi.out
        rw [List.take_of_length_le (by omega)] at h
        exact ⟨rfl, h.sub (fun k hk => .inl hk), (Kpt.of_gr HGA.out HKw.out).trans (HKi.out.sub (fun k hk => .inl hk))⟩)
      clear HBi HKi
      go_wp2_with fail
      go_end0
      exact HFin.out
end
section
open Go Go.RowKit Go.Shelf
attribute [local go_sem] gAt gUpon
attribute [local simp] Gr.refl Gr.alloc

theorem preB_ne (n : Nat) (hn : n ≤ 64) : preB n ≠ [] := by
  unfold preB
  intro h
  have h1 : (numB n).data.toList.length = 0 := by rw [h]; rfl
  have h2 : ∀ n, n < 65 → ¬ (numB n).data.toList.length = 0 := by decide +kernel
  exact h2 n (by omega) h1
theorem propB_ne (f : Ln → List UInt8) (n : Nat) (ls : List Ln) (hn : n ≤ 64) : propB f n ls ≠ [] := by
  unfold propB
  intro h
  exact preB_ne n hn (List.append_eq_nil_iff.1 h).1
/-- what Property hands back -/
def PropIs (f : Ln → List UInt8) (ls : List Ln) (w : World) (e : Ending) (w' : World) : Prop := e = .returned (.tuple #[.string ⟨(propB f ls.length ls).toArray⟩, .int .i64 0]) ∧ Gr w w'
set_option maxRecDepth 100000 in
set_option maxHeartbeats 4000000 in
theorem property1_any (v1 v2 : Value) (ls : List Ln) (cs : List Ce) (wd : Int) (bits : ByteArray) (w : World) (hd : DocIn v1 v2 ls cs w) (h : validB ls cs wd bits = true) :
    Calls Tryz.prog 18 #[.agg #[v1, v2, .int .i64 wd, .string bits], .int .i64 1] w (PropIs txB ls w) := by
  obtain ⟨p1, c1, rfl⟩ := hd.1.shape
  obtain ⟨p2, c2, rfl⟩ := hd.2.shape
  obtain ⟨hb1, hb2, hb3, hb4⟩ := validB_bounds h
  have hvl := validB_lines h
  have hls := List.all_eq_true.1 hvl.2
  have hn := hvl.1
  have HD := Lib.hid hd
  have HV := Lib.hid (fun y (hg : Gr w y) => validC_any (.slice p1 ls.length c1) (.slice p2 cs.length c2) ls cs wd bits y (hd.gr hg) (by omega) (by omega) (by omega) (by omega))
  rw [h] at HV
  have HW := Lib.hid (fun K b y (hg : Gr w y) hK hB => prop1_bld K b (.slice p1 ls.length c1) (.slice p2 cs.length c2) wd bits ls w y hd.1 hg hK hB hn hls)
  have HNe := Lib.hid (propB_ne txB ls.length ls hn)
  clear hd h hvl hls hb1 hb2 hb3 hb4
  go_enter Tryz.func18, Tryz.ntmps18
  go_upto_region 1 with fail
  refine wp_gen (F := fun y => Gr w y ∧ y.heap[w.heap.size]? = some (.cells #[.slice p1 ls.length c1, .slice p2 cs.length c2, .int .i64 wd, .string bits] 35 (0, 0))) ⟨Gr.alloc _ _, heap_alloc_new _ _⟩ ?_
  rintro wA ⟨hgA, hrA⟩
  have HGA := Lib.hid hgA
  have HRA := Lib.hid hrA
  generalize w.heap.size = g0 at HRA hrA ⊢
  clear hgA hrA
  go_wp2_with fail
  refine (props_any wA).mono ?_
  rintro e w1 ⟨gm, rfl, hf1, hg1⟩
  have hlook := hf1.look 1 (by decide) 102 propsD1
  obtain ⟨k0, k1, k2, k3⟩ := row4 (hg1.block HRA.out)
  have HR1 := Lib.hid (hg1.block HRA.out)
  have HG1 := Lib.hid (HGA.out.trans hg1)
  clear hf1 hg1 HRA HGA
  go_wp2_with fail
  refine (HV.out _ HG1.out).mono ?_
  rintro e w2 ⟨rfl, hg2⟩
  obtain ⟨k0, k1, k2, k3⟩ := row4 (hg2.block HR1.out)
  have HR2 := Lib.hid (hg2.block HR1.out)
  have HG2 := Lib.hid (HG1.out.trans hg2)
  clear hlook hg2 HV HR1 HG1
  go_upto_region 5 with fail
  obtain ⟨gb, hgb⟩ : ∃ g, g = w2.heap.size := ⟨_, rfl⟩
  refine wp_gen (F := fun y => Gr w2 y ∧ Bld (fun k => k < w2.heap.size) gb [] y) ⟨Gr.alloc _ _, by rw [hgb]; exact Bld.made w2 _ (fun k hk => hk)⟩ ?_
  rw [← hgb]
  rintro w3 ⟨hg3, hB3⟩
  have HB3 := Lib.hid hB3
  have HG3 := Lib.hid (HG2.out.trans hg3)
  have HG23 := Lib.hid hg3
  have HK3 : Hid (∀ k, k < w.heap.size → k < gb) := Lib.hid (fun k hk => by rw [hgb]; exact Nat.lt_of_lt_of_le hk HG2.out.size)
  have HGB := Lib.hid hgb
  have HZ : Hid (w2.heap.size ≤ w3.heap.size) := Lib.hid hg3.size
  obtain ⟨k0, k1, k2, k3⟩ := row4 (hg3.block HR2.out)
  clear hg3 hB3 HR2 hgb
  go_wp2_with fail
  refine (HW.out _ gb _ HG3.out HK3.out HB3.out).mono ?_
  rintro e w4 hw4
  obtain ⟨rfl, hB4, hK4⟩ := hw4
  have HB4 := Lib.hid hB4
  have HK4 := Lib.hid hK4
  obtain ⟨p, v, hp, hb, -⟩ := hB4
  have c0 : w4.cell? ⟨gb, 0, none⟩ = some p := by rw [cell_of_row _ _ _ _ _ _ hb]; rfl
  clear hK4 hp hb HB3 k0 k1 k2 k3
  go_wp2_with fail
  refine (string_bld _ gb _ w4 HB4.out HNe.out).mono ?_
  rintro e w5 ⟨rfl, hk5⟩
  have HFin : Hid (Gr w w5) := Lib.hid (HG2.out.trans (Below.trans HG23.out (by have h := (HK4.out.trans hk5).gr; rw [HGB.out] at h; exact h)))
  clear hk5 HB4 HK4 c0
  go_wp2_with fail
  go_ret2
  exact ⟨rfl, HFin.out⟩
end
end Go.Proofs.YtaoggehdkddgeaaGreatDoor
end
section
namespace Go.Proofs.YtaoggehdkddgeaaGreatDoor
open Go Go.RowKit Go.Shelf
attribute [local go_sem] gAt gUpon
attribute [local simp] Gr.refl Gr.alloc

theorem data_len (s : ByteArray) : s.data.toList.length = s.size := by rw [Array.length_toList]; rfl
def Num0 (x : Int) : Prop := -4611686018427387903 ≤ x ∧ x ≤ 4611686018427387903
set_option maxRecDepth 100000 in
set_option maxHeartbeats 1000000 in
theorem nums_bld (K : Nat → Prop) (b : Nat) (l : List UInt8) (xs : List Int) (n g : Nat) (w : World) (h : Bld K b l w) (hn : xs.length = n) (hrow : ∀ (i : Nat) x, xs[i]? = some x → ∀ y, Kpt K w y → y.cell? ⟨g, i, none⟩ = some (.int .i64 x)) (hx : ∀ x ∈ xs, Num0 x) (hn3 : n ≤ 3) (hlen : l.length ≤ 999999000) :
    Calls Tryz.prog 21 #[.pointer (some ⟨b, 0, none⟩), .slice (some ⟨g, 0, none⟩) n n] w fun e w' => e = .returned (.tuple #[]) ∧ (∃ l', Bld K b l' w' ∧ l'.length ≤ l.length + 10 * n) ∧ Kpt K w w' := by
  have HP := Lib.hid (fun (x : Int) (hx : Num0 x) (y : World) => putIntS x hx y)
  have HW := Lib.hid (fun (l : List UInt8) (s : ByteArray) (y : World) (hb : Bld K b l y) (h1 : l.length + s.size ≤ 1000000000) => write_bld K b l s y hb h1)
  have HB := Lib.hid h
  have HR := Lib.hid hrow
  have HX := Lib.hid hx
  have Hn := Lib.hid hn
  clear h hrow hx hn
  go_enter Tryz.func21, Tryz.ntmps21
  go_wp2_with fail
  go_loopw [10] (fun v10 W => ∃ i : Nat, i ≤ n ∧ v10 = .int .i64 (i : Int) ∧ Hid (Kpt K w W) ∧ Hid (∃ l', Bld K b l' W ∧ l'.length ≤ l.length + 10 * i)) (fun v10 _ => n - (intOf v10).toNat)
  case atStart => exact ⟨0, Nat.zero_le _, rfl, Lib.hid (Kpt.refl _ _), Lib.hid ⟨l, HB.out, by omega⟩⟩
  case round =>
    obtain ⟨i, hi, rfl, HK, HC⟩ := hrel
    by_cases hlt : i < n
    · have i0 : (0 : Int) ≤ (i : Int) := by omega
      have i1 : (i : Int) < (n : Int) := by omega
      have ht : decide ((i : Int) < (n : Int)) = true := decide_eq_true i1
      have ht' : decide (i < n) = true := decide_eq_true hlt
      obtain ⟨x, hx⟩ : ∃ x, xs[i]? = some x := ⟨_, List.getElem?_eq_getElem (by rw [Hn.out]; exact hlt)⟩
      have hxn := HX.out x (List.mem_of_getElem? hx)
      have c0 := HR.out i x hx wr HK.out
      obtain ⟨l1, hb1, hl1⟩ := HC.out
      have HB1 := Lib.hid hb1
      have Hl1 := Lib.hid hl1
      have Hxn := Lib.hid hxn
      clear hx hxn hb1 hl1 HC HB
      go_wp2_with fail
      refine (HP.out x Hxn.out _).mono ?_
      rintro e w1 ⟨S, rfl, hS, hg⟩
      have HK1 : Hid (Kpt K w w1) := Lib.hid (HK.out.trans (Kpt.of_gr hg (fun k hk => HB1.out.lt hk)))
      have HB2 := Lib.hid (HB1.out.gr hg)
      have HSz := Lib.hid hS
      obtain ⟨p, v, hp, hb, -⟩ := HB2.out
      have d0 : w1.cell? ⟨b, 0, none⟩ = some p := by rw [cell_of_row _ _ _ _ _ _ hb]; rfl
      clear hg HB1 HK hb hp c0 hS i0 i1 ht ht'
      go_wp2_with fail
      refine (HW.out l1 S _ HB2.out (by have := Hl1.out; have := HSz.out; omega)).mono ?_
      rintro e w2 ⟨rfl, hb2, hk2⟩
      have HB3 : Hid (∃ l', Bld K b l' w2 ∧ l'.length ≤ l.length + 10 * (i + 1)) := Lib.hid ⟨_, hb2, by rw [List.length_append, data_len]; have := Hl1.out; have := HSz.out; omega⟩
      have HK3 := Lib.hid (HK1.out.trans hk2)
      clear hb2 hk2 HK1 HB2 d0 HSz Hl1 Hxn
      go_wp2_with fail
      go_roundw
      case rel => exact ⟨i + 1, by omega, by go_num, HK3, HB3⟩
      case measure => simp [intOf]; omega
    · have hin : i = n := by omega
      subst hin
      clear HB
      go_wp2_with fail
      go_end0
      exact ⟨rfl, HC.out, HK.out⟩
/-- numbers, of a slice that was just made -/
theorem nums_step (K : Nat → Prop) (b : Nat) (l : List UInt8) (xs : List Int) (n : Nat) (w : World) (h : Bld K b l w) (hn : xs.length = n) (hx : ∀ x ∈ xs, Num0 x) (hn3 : n ≤ 3) (hlen : l.length ≤ 999999000) :
    Calls Tryz.prog 21 #[.pointer (some ⟨b, 0, none⟩), .slice (some ⟨w.heap.size, 0, none⟩) n n] (w.alloc (.cells (xs.map (fun x => Value.int .i64 x)).toArray 3)) fun e w' => e = .returned (.tuple #[]) ∧ (∃ l', Bld K b l' w' ∧ l'.length ≤ l.length + 10 * n) ∧ Kpt K w w' := by
  have ha := Gr.alloc w (.cells (xs.map (fun x => Value.int .i64 x)).toArray 3)
  have hb := h.add (K' := fun k => K k ∨ k = w.heap.size) ha (fun k hk => hk.imp id (fun e => ⟨by omega, by rw [World.size_alloc]; omega⟩))
  refine (nums_bld _ b l xs n w.heap.size _ hb hn (fun i x hi y hy => ?_) hx hn3 hlen).mono ?_
  · rw [cell_of_row _ _ _ _ _ _ (hy.block (.inr rfl) (heap_alloc_new _ _))]
    simp [hi]
  · rintro e w' ⟨rfl, ⟨l', h1, h2⟩, h3⟩
    exact ⟨rfl, ⟨l', h1.sub (fun k hk => .inl hk), h2⟩, (Kpt.of_gr ha (fun k hk => h.lt hk)).trans (h3.sub (fun k hk => .inl hk))⟩
theorem numW1 (K : Nat → Prop) (b : Nat) (l : List UInt8) (x : Int) (w : World) (h : Bld K b l w) (hx : Num0 x) (hlen : l.length ≤ 999999000) :
    Calls Tryz.prog 21 #[.pointer (some ⟨b, 0, none⟩), .slice (some ⟨w.heap.size, 0, none⟩) 1 1] (w.alloc (.cells #[.int .i64 x] 3)) fun e w' => e = .returned (.tuple #[]) ∧ (∃ l', Bld K b l' w' ∧ l'.length ≤ l.length + 10) ∧ Kpt K w w' :=
  nums_step K b l [x] 1 w h rfl (by simpa using hx) (by decide) hlen
theorem numW2 (K : Nat → Prop) (b : Nat) (l : List UInt8) (x y : Int) (w : World) (h : Bld K b l w) (hx : Num0 x) (hy : Num0 y) (hlen : l.length ≤ 999999000) :
    Calls Tryz.prog 21 #[.pointer (some ⟨b, 0, none⟩), .slice (some ⟨w.heap.size, 0, none⟩) 2 2] (w.alloc (.cells #[.int .i64 x, .int .i64 y] 3)) fun e w' => e = .returned (.tuple #[]) ∧ (∃ l', Bld K b l' w' ∧ l'.length ≤ l.length + 20) ∧ Kpt K w w' :=
  nums_step K b l [x, y] 2 w h rfl (by simp [hx, hy]) (by decide) hlen
theorem numW3 (K : Nat → Prop) (b : Nat) (l : List UInt8) (x y z : Int) (w : World) (h : Bld K b l w) (hx : Num0 x) (hy : Num0 y) (hz : Num0 z) (hlen : l.length ≤ 999999000) :
    Calls Tryz.prog 21 #[.pointer (some ⟨b, 0, none⟩), .slice (some ⟨w.heap.size, 0, none⟩) 3 3] (w.alloc (.cells #[.int .i64 x, .int .i64 y, .int .i64 z] 3)) fun e w' => e = .returned (.tuple #[]) ∧ (∃ l', Bld K b l' w' ∧ l'.length ≤ l.length + 30) ∧ Kpt K w w' :=
  nums_step K b l [x, y, z] 3 w h rfl (by simp [hx, hy, hz]) (by decide) hlen
end Go.Proofs.YtaoggehdkddgeaaGreatDoor
end
