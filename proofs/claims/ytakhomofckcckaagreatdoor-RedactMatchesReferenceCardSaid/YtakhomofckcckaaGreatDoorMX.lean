/- The helpers of the reference's Valid (documents): within, Height, ahead; what it computes, in plain words. -/
import Derived.Test.YtakhomofckcckaaGreatDoorHdA
import Derived.IntWalk
namespace Go.Proofs.YtakhomofckcckaaGreatDoor
section
open Go Go.RowKit Go.Shelf
attribute [local go_sem] gAt gUpon
attribute [local simp] Gr.refl Gr.alloc

theorem within6_any (n lo hi : Int) (w : World) : Calls Tryz.prog 65 #[.int .i64 n, .int .i64 lo, .int .i64 hi] w fun e w' => e = .returned (.bool (withinB n lo hi)) ∧ w = w' := by
  by_cases h : lo ≤ n
  · have t1 : decide (lo ≤ n) = true := decide_eq_true h
    have e : withinB n lo hi = decide (n ≤ hi) := by unfold withinB; rw [t1]; simp
    rw [e]
    clear e h
    go_enter Tryz.func65, Tryz.ntmps65
    go_wp2
    go_ret
    exact ⟨rfl, rfl⟩
  · have t1 : decide (lo ≤ n) = false := decide_eq_false h
    have e : withinB n lo hi = false := by unfold withinB; rw [t1]; simp
    rw [e]
    clear e h
    go_enter Tryz.func65, Tryz.ntmps65
    go_wp2
    go_ret
    exact ⟨rfl, rfl⟩
theorem height6_any (p1 p2 : Option Addr) (n1 c1 n2 c2 : Nat) (wd : Int) (bits : ByteArray) (w : World) (hw : -9223372036854775808 ≤ wd ∧ wd ≤ 9223372036854775807) (hb : bits.size ≤ 9223372036854775807) :
    Calls Tryz.prog 67 #[.agg #[.slice p1 n1 c1, .slice p2 n2 c2, .int .i64 wd, .string bits]] w fun e w' => e = .returned (.int .i64 (heightD wd bits)) ∧ Gr w w' := by
  obtain ⟨B, hB⟩ : ∃ B, heightD wd bits = B := ⟨_, rfl⟩
  rw [hB]
  have HB := Lib.hid hB
  have hq : 1 ≤ wd → wrap64 ((bits.size : Int) / wd) = (bits.size : Int) / wd := fun h => by
    have h1 : 0 ≤ (bits.size : Int) / wd := Int.ediv_nonneg (by omega) (by omega)
    have h2 : (bits.size : Int) / wd ≤ bits.size := Int.ediv_le_self _ (by omega)
    unfold wrap64; omega
  clear hB
  go_enter Tryz.func67, Tryz.ntmps67
  go_upto_region 1 with fail
  refine wp_gen (F := fun y => Gr w y ∧ y.heap[w.heap.size]? = some (.cells #[.slice p1 n1 c1, .slice p2 n2 c2, .int .i64 wd, .string bits] 25 (0, 0))) ⟨Gr.alloc _ _, heap_alloc_new _ _⟩ ?_
  rintro wA ⟨hgA, hrA⟩
  obtain ⟨-, -, c2', c3⟩ := row4 hrA
  have HGA := Lib.hid hgA
  clear hgA hrA
  by_cases h : wd < 1
  · have t1 : decide (wd < 1) = true := decide_eq_true h
    obtain rfl : B = 0 := by rw [← HB.out]; unfold heightD; rw [if_pos h]
    clear h hq
    go_wp2_with fail
    go_ret
    exact ⟨rfl, HGA.out⟩
  · have t1 : decide (wd < 1) = false := decide_eq_false h
    obtain rfl : B = (bits.size : Int) / wd := by rw [← HB.out]; unfold heightD; rw [if_neg h]
    have EW := Lib.hid (hq (by omega))
    have tz : (wd == 0) = false := by rw [beq_eq_false_iff_ne]; omega
    have tz' : ¬ wd = 0 := by omega
    clear h hq
    go_wp2_with fail
    go_ret
    exact ⟨congrArg (fun x => Ending.returned (Value.int .i64 x)) EW.out, HGA.out⟩
theorem ahead6_any (x y : Ce) (w : World) : Calls Tryz.prog 66 #[.agg #[.int .i64 x.row, .int .i64 x.col, .bool x.sum, .int .i64 x.value, .int .i64 x.top, .int .i64 x.left], .agg #[.int .i64 y.row, .int .i64 y.col, .bool y.sum, .int .i64 y.value, .int .i64 y.top, .int .i64 y.left]] w fun e w' => e = .returned (.bool (aheadB x y)) ∧ Gr w w' := by
  obtain ⟨xr, xc, xs, xv, xt, xl⟩ := x
  obtain ⟨yr, yc, ys, yv, yt, yl⟩ := y
  obtain ⟨B, hB⟩ : ∃ B, aheadB ⟨xr, xc, xs, xv, xt, xl⟩ ⟨yr, yc, ys, yv, yt, yl⟩ = B := ⟨_, rfl⟩
  rw [hB]
  unfold aheadB at hB
  simp only at hB ⊢
  have HB := Lib.hid hB
  clear hB
  go_enter Tryz.func66, Tryz.ntmps66
  go_upto_region 1 with fail
  refine wp_gen (F := fun z => Gr w z ∧ z.heap[w.heap.size]? = some (.cells #[.int .i64 xr, .int .i64 xc, .bool xs, .int .i64 xv, .int .i64 xt, .int .i64 xl] 106 (0, 0)) ∧ z.heap[w.heap.size + 1]? = some (.cells #[.int .i64 yr, .int .i64 yc, .bool ys, .int .i64 yv, .int .i64 yt, .int .i64 yl] 106 (0, 0))) ⟨(Gr.alloc _ _).trans (Gr.alloc _ _), (Gr.alloc _ _).block (heap_alloc_new _ _), by
    have h := heap_alloc_new (w.alloc (.cells #[.int .i64 xr, .int .i64 xc, .bool xs, .int .i64 xv, .int .i64 xt, .int .i64 xl] 106)) (.cells #[.int .i64 yr, .int .i64 yc, .bool ys, .int .i64 yv, .int .i64 yt, .int .i64 yl] 106)
    simpa using h⟩ ?_
  rintro wA ⟨hgA, hrA, hrB⟩
  obtain ⟨a0, a1⟩ := row6 hrA
  obtain ⟨b0, b1⟩ := row6 hrB
  have HGA := Lib.hid hgA
  clear hgA hrA hrB
  by_cases h1 : xr < yr
  · have t1 : decide (xr < yr) = true := decide_eq_true h1
    obtain rfl : B = true := by rw [← HB.out, t1]; rfl
    clear h1 HB
    go_wp2_with fail
    go_ret
    exact ⟨rfl, HGA.out⟩
  · have t1 : decide (xr < yr) = false := decide_eq_false h1
    by_cases h2 : xr = yr
    · have t2 : (xr == yr) = true := beq_iff_eq.2 h2
      obtain rfl : B = decide (xc < yc) := by rw [← HB.out, t1, t2]; simp
      clear h1 h2 HB
      go_wp2_with fail
      go_ret
      exact ⟨rfl, HGA.out⟩
    · have t2 : (xr == yr) = false := beq_eq_false_iff_ne.2 h2
      obtain rfl : B = false := by rw [← HB.out, t1, t2]; rfl
      clear h1 h2 HB
      go_wp2_with fail
      go_ret
      exact ⟨rfl, HGA.out⟩
theorem validB_iff {ls : List Ln} {cs : List Ce} {wd : Int} {bits : ByteArray} : validB ls cs wd bits = true ↔ ls.length ≤ 64 ∧ cs.length ≤ 64 ∧ ascK cs cs.length = true ∧ ls.all lnB = true ∧ cs.all ceB = true ∧ rasterB wd bits = true := by
  unfold validB
  simp only [Bool.and_eq_true, decide_eq_true_eq]
theorem vfalse {b : Bool} (h : b = true → False) : b = false := by cases b <;> simp_all
def okByte (b : UInt8) : Bool := decide (32 ≤ b.toNat) && decide (b.toNat ≤ 126)
theorem printB_iff (t : ByteArray) : printB t = true ↔ ∀ (j : Nat) (h : j < t.size), okByte (t[j]'h) = true := by
  unfold printB
  rw [List.all_eq_true]
  constructor
  · intro h j hj
    exact h _ (by
      have : t[j]'hj = t.data.toList[j]'(by rw [Array.length_toList]; exact hj) := rfl
      rw [this]; exact List.getElem_mem _)
  · intro h b hb
    obtain ⟨j, hj, rfl⟩ := List.mem_iff_getElem.1 hb
    exact h j (by rw [Array.length_toList] at hj; exact hj)
theorem lnB_iff {x : Ln} : lnB x = true ↔ x.1.size ≤ 80 ∧ (∀ (j : Nat) (h : j < x.1.size), okByte (x.1[j]'h) = true) ∧ withinB x.2 0 7 = true := by
  unfold lnB
  rw [lineB_eq]
  simp only [Bool.and_eq_true, decide_eq_true_eq]
  rw [printB_iff]
theorem withinB_iff {n lo hi : Int} : withinB n lo hi = true ↔ lo ≤ n ∧ n ≤ hi := by
  unfold withinB
  simp only [Bool.and_eq_true, decide_eq_true_eq]
/-- a cell, as the reference asks it -/
theorem ceB_iff {x : Ce} : ceB x = true ↔ (withinB x.row 0 31 = true ∧ withinB x.col 0 31 = true ∧ withinB x.value (-1000000) 1000000 = true ∧ withinB x.top 0 x.row = true ∧ withinB x.left 0 x.col = true) ∧ (x.sum = false → x.top = 0 ∧ x.left = 0) ∧ (x.sum = true → x.value = 0) := by
  obtain ⟨r, c, s, v, t, l⟩ := x
  unfold ceB
  cases s with
  | true =>
    simp only [if_true, Bool.and_eq_true, withinB_iff, beq_iff_eq]
    constructor
    · rintro ⟨h1, h2, h3, h4, h5⟩
      exact ⟨⟨h1, h2, by omega, h4, h5⟩, by simp, fun _ => h3⟩
    · rintro ⟨⟨h1, h2, _, h4, h5⟩, _, h6⟩
      exact ⟨h1, h2, h6 trivial, h4, h5⟩
  | false =>
    simp only [Bool.false_eq_true, if_false, Bool.and_eq_true, withinB_iff, beq_iff_eq]
    constructor
    · rintro ⟨h1, h2, h3, h4, h5⟩
      exact ⟨⟨h1, h2, h3, by omega, by omega⟩, fun _ => ⟨h4, h5⟩, by simp⟩
    · rintro ⟨⟨h1, h2, h3, _, _⟩, h6, _⟩
      exact ⟨h1, h2, h3, (h6 trivial).1, (h6 trivial).2⟩
theorem in01_iff (bits : ByteArray) : inB [48, 49] bits = true ↔ ∀ (j : Nat) (h : j < bits.size), ((bits[j]'h).toNat = 48 ∨ (bits[j]'h).toNat = 49) := by
  rw [inB_of]
  constructor
  · intro h j hj
    have h1 := h j hj
    simp only [List.contains_cons, List.contains_nil, Bool.or_false, Bool.or_eq_true, beq_iff_eq] at h1
    rcases h1 with h1 | h1
    · exact .inl (by rw [h1]; rfl)
    · exact .inr (by rw [h1]; rfl)
  · intro h j hj
    simp only [List.contains_cons, List.contains_nil, Bool.or_false, Bool.or_eq_true, beq_iff_eq]
    rcases h j hj with h1 | h1
    · exact .inl (UInt8.toNat_inj.1 h1)
    · exact .inr (UInt8.toNat_inj.1 h1)
/-- the raster, as the reference asks it -/
theorem raster_iff {wd : Int} {bits : ByteArray} (hw : withinB wd 0 32 = true) (h01 : inB [48, 49] bits = true) : rasterB wd bits = if wd = 0 then decide (bits.size = 0) else (decide ((bits.size : Int) % wd = 0) && withinB (heightD wd bits) 1 32) := by
  unfold rasterB
  rw [hw, h01]
  by_cases h0 : wd = 0
  · simp [h0]
  · have h1 : 1 ≤ wd := by have := withinB_iff.1 hw; omega
    rw [if_neg h0, if_neg h0]
    simp only [Bool.true_and]
    congr 1
    have hh : heightD wd bits = (bits.size : Int) / wd := by unfold heightD; rw [if_neg (by omega)]
    rw [hh]
    have h2 := Int.mul_ediv_add_emod (bits.size : Int) wd
    by_cases h3 : (bits.size : Int) % wd = 0
    · rw [decide_eq_true h3, decide_eq_true (by omega)]
    · rw [decide_eq_false h3, decide_eq_false (by omega)]
/-- in a valid raster there are few bits -/
theorem raster_small {wd : Int} {bits : ByteArray} (h : rasterB wd bits = true) : withinB wd 0 32 = true ∧ bits.size ≤ 1024 ∧ inB [48, 49] bits = true := by
  have hb := validB_bounds (ls := []) (cs := []) (wd := wd) (bits := bits) (validB_iff.2 ⟨by simp, by simp, rfl, rfl, rfl, h⟩)
  unfold rasterB at h
  simp only [Bool.and_eq_true] at h
  exact ⟨h.1, hb.2.2.2, h.2.1⟩
end
section
open Go Go.RowKit Go.Shelf
attribute [local go_sem] gAt gUpon
attribute [local simp] Gr.refl Gr.alloc

theorem row2 {W : World} {g : Nat} {a b : Value} {t : TypeId} (h : W.heap[g]? = some (.cells #[a, b] t (0, 0))) : W.cell? ⟨g, 0, none⟩ = some a ∧ W.cell? ⟨g, 1, none⟩ = some b :=
  ⟨by rw [cell_of_row _ _ _ _ _ _ h]; rfl, by rw [cell_of_row _ _ _ _ _ _ h]; rfl⟩
theorem row6a {W : World} {g : Nat} {a b c d e f : Value} {t : TypeId} (h : W.heap[g]? = some (.cells #[a, b, c, d, e, f] t (0, 0))) :
    W.cell? ⟨g, 0, none⟩ = some a ∧ W.cell? ⟨g, 1, none⟩ = some b ∧ W.cell? ⟨g, 2, none⟩ = some c ∧ W.cell? ⟨g, 3, none⟩ = some d ∧ W.cell? ⟨g, 4, none⟩ = some e ∧ W.cell? ⟨g, 5, none⟩ = some f :=
  ⟨by rw [cell_of_row _ _ _ _ _ _ h]; rfl, by rw [cell_of_row _ _ _ _ _ _ h]; rfl, by rw [cell_of_row _ _ _ _ _ _ h]; rfl, by rw [cell_of_row _ _ _ _ _ _ h]; rfl, by rw [cell_of_row _ _ _ _ _ _ h]; rfl, by rw [cell_of_row _ _ _ _ _ _ h]; rfl⟩
theorem take_all {α : Type} {p : α → Bool} {l : List α} {i : Nat} {x : α} (h : l[i]? = some x) : (l.take (i + 1)).all p = ((l.take i).all p && p x) := by
  rw [List.take_add_one, h, Option.toList_some, List.all_append]
  simp
theorem all_bad {α : Type} {p : α → Bool} {l : List α} {i : Nat} {x : α} (h : l[i]? = some x) (hx : p x = false) : l.all p = false := by
  apply vfalse
  intro ha
  have := List.all_eq_true.1 ha x (List.mem_of_getElem? h)
  rw [hx] at this; cases this
theorem asc_bad {l : List Ce} {k : Nat} (hk : k ≤ l.length) (h : ascK l k = false) : ascK l l.length = false := by
  apply vfalse
  intro ha
  unfold ascK at h ha
  have : ((List.range (k - 1)).all fun i => aheadB (l.getD i ce0) (l.getD (i + 1) ce0)) = true := by
    rw [List.all_eq_true] at ha ⊢
    intro i hi
    exact ha i (List.mem_range.2 (by have := List.mem_range.1 hi; omega))
  rw [h] at this; cases this
set_option maxRecDepth 100000 in
set_option maxHeartbeats 16000000 in
theorem valid6_any (v1 v2 : Value) (ls : List Ln) (cs : List Ce) (wd : Int) (bits : ByteArray) (w : World) (hd : DocIn v1 v2 ls cs w) (hl1 : ls.length ≤ 1000) (hl2 : cs.length ≤ 1000) (hw : -9223372036854775808 ≤ wd ∧ wd ≤ 9223372036854775807) (hb : bits.size ≤ 9223372036854775807) (hz : ∀ x ∈ ls, x.1.size ≤ 9223372036854775807) :
    Calls Tryz.prog 31 #[.agg #[v1, v2, .int .i64 wd, .string bits]] w fun e w' => e = .returned (.bool (validB ls cs wd bits)) ∧ Gr w w' := by
  obtain ⟨p1, c1, rfl⟩ := hd.1.shape
  obtain ⟨p2, c2, rfl⟩ := hd.2.shape
  obtain ⟨B, hB⟩ : ∃ B, validB ls cs wd bits = B := ⟨_, rfl⟩
  rw [hB]
  have HB := Lib.hid hB
  have HD := Lib.hid hd
  have HZ := Lib.hid hz
  have HF : Hid (¬ (ls.length ≤ 64 ∧ cs.length ≤ 64 ∧ ascK cs cs.length = true ∧ ls.all lnB = true ∧ cs.all ceB = true ∧ rasterB wd bits = true) → B = false) := Lib.hid (fun h => by
    rw [← hB]
    exact vfalse (fun h2 => h (validB_iff.1 h2)))
  have HHt := Lib.hid (fun y => height6_any p1 p2 ls.length c1 cs.length c2 wd bits y hw hb)
  obtain ⟨bx, hbx⟩ : ∃ bx, bx = w.heap.size := ⟨_, rfl⟩
  have hrow := heap_alloc_new w (.cells #[.slice p1 ls.length c1, .slice p2 cs.length c2, .int .i64 wd, .string bits] 25)
  rw [← hbx] at hrow
  have HR := Lib.hid hrow
  obtain ⟨hw1, hw2⟩ := hw
  clear hB hrow hd hz
  go_enter Tryz.func31, Tryz.ntmps31
  go_upto_region 1 with fail
  rw [← hbx]
  refine wp_gen (F := fun y => Gr w y ∧ y.heap[bx]? = some (.cells #[.slice p1 ls.length c1, .slice p2 cs.length c2, .int .i64 wd, .string bits] 25 (0, 0))) ⟨Gr.alloc _ _, HR.out⟩ ?_
  clear HR hbx
  rintro wA ⟨hgA, hrA⟩
  have HRA := Lib.hid hrA
  have HGA := Lib.hid hgA
  obtain ⟨k0, k1, k2, k3⟩ := row4 hrA
  clear hgA hrA
  by_cases q1 : 64 < ls.length
  · have t1 : decide (64 < ls.length) = true := decide_eq_true q1
    have t1' : decide ((64 : Int) < (ls.length : Int)) = true := decide_eq_true (by omega)
    obtain rfl : B = false := HF.out (by omega)
    clear q1 HF HB
    go_wp2_with fail
    go_ret
    exact ⟨rfl, HGA.out⟩
  have t1 : decide (64 < ls.length) = false := decide_eq_false q1
  have t1' : decide ((64 : Int) < (ls.length : Int)) = false := decide_eq_false (by omega)
  by_cases q2 : 64 < cs.length
  · have t2 : decide (64 < cs.length) = true := decide_eq_true q2
    have t2' : decide ((64 : Int) < (cs.length : Int)) = true := decide_eq_true (by omega)
    obtain rfl : B = false := HF.out (by omega)
    clear q1 q2 HF HB
    go_wp2_with fail
    go_ret
    exact ⟨rfl, HGA.out⟩
  have t2 : decide (64 < cs.length) = false := decide_eq_false q2
  have t2' : decide ((64 : Int) < (cs.length : Int)) = false := decide_eq_false (by omega)
  have hl64 : ls.length ≤ 64 := by omega
  have hc64 : cs.length ≤ 64 := by omega
  clear q1 q2
  go_wp2_with fail
  refine (within6_any wd 0 32 _).mono ?_
  rintro e wA' ⟨rfl, rfl⟩
  cases hwi : withinB wd 0 32 with
  | false =>
    obtain rfl : B = false := HF.out (fun h => by have := (raster_small h.2.2.2.2.2).1; rw [hwi] at this; cases this)
    clear HF HB hwi
    go_wp2_with fail
    go_ret
    exact ⟨rfl, HGA.out⟩
  | true =>
  have hwi2 := withinB_iff.1 hwi
  have HWi := Lib.hid hwi
  clear hwi
  by_cases q3 : 1024 < bits.size
  · have t3 : decide (1024 < bits.size) = true := decide_eq_true q3
    have t3' : decide ((1024 : Int) < (bits.size : Int)) = true := decide_eq_true (by omega)
    obtain rfl : B = false := HF.out (fun h => by have := (raster_small h.2.2.2.2.2).2.1; omega)
    clear q3 HF HB
    go_wp2_with fail
    go_ret
    exact ⟨rfl, HGA.out⟩
  have t3 : decide (1024 < bits.size) = false := decide_eq_false q3
  have t3' : decide ((1024 : Int) < (bits.size : Int)) = false := decide_eq_false (by omega)
  have hb1024 : bits.size ≤ 1024 := by omega
  clear q3
  go_wp2_with fail
  clear t1 t1' t2 t2' t3 t3' k0 k1 k2 k3
  go_loopw [3] (fun v3 W => ∃ i : Nat, i ≤ ls.length ∧ v3 = .int .i64 (i : Int) ∧ Hid (Gr wA W) ∧ Hid ((ls.take i).all lnB = true)) (fun v3 _ => ls.length - (intOf v3).toNat)
  case atStart => exact ⟨0, Nat.zero_le _, rfl, Lib.hid (Gr.refl _), Lib.hid rfl⟩
  case round =>
    obtain ⟨i, hi, rfl, HG, HA⟩ := hrel
    obtain ⟨k0, k1, k2, k3⟩ := row4 (HG.out.block HRA.out)
    by_cases hlt : i < ls.length
    · have ht : decide (i < ls.length) = true := decide_eq_true hlt
      obtain ⟨x, hx⟩ : ∃ x, ls[i]? = some x := ⟨_, List.getElem?_eq_getElem hlt⟩
      have htx := HZ.out x (List.mem_of_getElem? hx)
      obtain ⟨g, off, rfl, hlc, hc⟩ := (HD.out.1.gr (HGA.out.trans HG.out)).at_ hx
      have hc0 := hc 0 _ rfl
      have hc1 := hc 1 _ rfl
      rw [Nat.add_zero] at hc0
      rw [← Nat.add_assoc] at hc1
      have HBad : Hid (lnB x = false → B = false) := Lib.hid (fun h => HF.out (fun h2 => by have := all_bad hx h; rw [h2.2.2.2.1] at this; cases this))
      have HSt : Hid (lnB x = true → (ls.take (i + 1)).all lnB = true) := Lib.hid (fun h => by rw [take_all hx, HA.out, h]; rfl)
      obtain ⟨t, m⟩ := x
      simp only at hc0 hc1 htx
      clear hc hx
      go_upto_region 7 with fail
      refine wp_gen (F := fun y => Gr wr y ∧ y.heap[wr.heap.size]? = some (.cells #[.string t, .int .i64 m] 33 (0, 0))) ⟨Gr.alloc _ _, heap_alloc_new _ _⟩ ?_
      rintro wB ⟨hgB, hrB⟩
      have HGB := Lib.hid (HG.out.trans hgB)
      have HRB := Lib.hid hrB
      generalize wr.heap.size = gl at hrB HRB ⊢
      obtain ⟨l0, l1⟩ := row2 hrB
      clear hgB hrB HG hc0 hc1 k0 k1 k2 k3
      by_cases q1 : 80 < t.size
      · have t1 : decide (80 < t.size) = true := decide_eq_true q1
        have t1' : decide ((80 : Int) < (t.size : Int)) = true := decide_eq_true (by omega)
        obtain rfl : B = false := HBad.out (vfalse (fun h => by have := (lnB_iff.1 h).1; simp only at this; omega))
        clear q1 HF HB HBad HSt
        go_wp2_with fail
        go_ret
        exact ⟨rfl, HGA.out.trans HGB.out⟩
      have t1 : decide (80 < t.size) = false := decide_eq_false q1
      have t1' : decide ((80 : Int) < (t.size : Int)) = false := decide_eq_false (by omega)
      have ht80 : t.size ≤ 80 := by omega
      clear q1
      go_wp2_with fail
      refine (within6_any m 0 7 _).mono ?_
      rintro e wB' ⟨rfl, rfl⟩
      cases hm : withinB m 0 7 with
      | false =>
        obtain rfl : B = false := HBad.out (vfalse (fun h => by have := (lnB_iff.1 h).2.2; simp only at this; rw [hm] at this; cases this))
        clear HF HB HBad HSt hm
        go_wp2_with fail
        go_ret
        exact ⟨rfl, HGA.out.trans HGB.out⟩
      | true =>
      have HM := Lib.hid hm
      obtain ⟨wo, hwo⟩ : ∃ wo, wo = wB := ⟨_, rfl⟩
      subst hwo
      clear hm
      go_wp2_with fail
      clear t1 t1' l0 l1
      go_loopw [5] (fun v5 W => ∃ k : Nat, k ≤ t.size ∧ v5 = .int .i64 (k : Int) ∧ Hid (Gr wo W) ∧ Hid (∀ (j : Nat) (h : j < t.size), j < k → okByte (t[j]'h) = true)) (fun v5 _ => t.size - (intOf v5).toNat)
      case atStart => exact ⟨0, Nat.zero_le _, rfl, Lib.hid (Gr.refl _), Lib.hid (fun j h h2 => by omega)⟩
      case round =>
        obtain ⟨k, hk, rfl, HGk, HOk⟩ := hrel
        obtain ⟨l0, l1⟩ := row2 (HGk.out.block HRB.out)
        by_cases hkt : k < t.size
        · have htk : decide (k < t.size) = true := decide_eq_true hkt
          have HBy : Hid (okByte (t[k]'hkt) = false → B = false) := Lib.hid (fun h => HBad.out (vfalse (fun h2 => by have := (lnB_iff.1 h2).2.1 k hkt; simp only at this; rw [h] at this; cases this)))
          have HOk2 : Hid (okByte (t[k]'hkt) = true → ∀ (j : Nat) (h : j < t.size), j < k + 1 → okByte (t[j]'h) = true) := Lib.hid (fun h j hj hjk => by
            by_cases e : j = k
            · subst e; exact h
            · exact HOk.out j hj (by omega))
          by_cases b1 : (t[k]'hkt).toNat < 32
          · have u1 : decide ((t[k]'hkt).toNat < 32) = true := decide_eq_true b1
            have u1' : decide (((t[k]'hkt).toNat : Int) < 32) = true := decide_eq_true (by omega)
            obtain rfl : B = false := HBy.out (by unfold okByte; rw [decide_eq_false (by omega)]; rfl)
            clear b1 HF HB HBad HSt HBy HOk2
            go_wp2_with fail
            go_ret
            exact ⟨rfl, HGA.out.trans (HGB.out.trans HGk.out)⟩
          have u1 : decide ((t[k]'hkt).toNat < 32) = false := decide_eq_false b1
          have u1' : decide (((t[k]'hkt).toNat : Int) < 32) = false := decide_eq_false (by omega)
          by_cases b2 : 126 < (t[k]'hkt).toNat
          · have u2 : decide (126 < (t[k]'hkt).toNat) = true := decide_eq_true b2
            have u2' : decide ((126 : Int) < ((t[k]'hkt).toNat : Int)) = true := decide_eq_true (by omega)
            obtain rfl : B = false := HBy.out (by unfold okByte; rw [decide_eq_false (show ¬ (t[k]'hkt).toNat ≤ 126 by omega)]; simp)
            clear b1 b2 HF HB HBad HSt HBy HOk2
            go_wp2_with fail
            go_ret
            exact ⟨rfl, HGA.out.trans (HGB.out.trans HGk.out)⟩
          have u2 : decide (126 < (t[k]'hkt).toNat) = false := decide_eq_false b2
          have u2' : decide ((126 : Int) < ((t[k]'hkt).toNat : Int)) = false := decide_eq_false (by omega)
          have HO3 := Lib.hid (HOk2.out (by unfold okByte; rw [decide_eq_true (show 32 ≤ (t[k]'hkt).toNat by omega), decide_eq_true (show (t[k]'hkt).toNat ≤ 126 by omega)]; rfl))
          clear b1 b2 HBy HOk2
          go_wp2_with fail
          go_roundw
          case rel => exact ⟨k + 1, by omega, by go_num, HGk, HO3⟩
          case measure => simp [intOf]; omega
        · have htk : decide (k < t.size) = false := decide_eq_false hkt
          have HA2 : Hid ((ls.take (i + 1)).all lnB = true) := Lib.hid (HSt.out (lnB_iff.2 ⟨ht80, fun j h => HOk.out j h (by simp only at h; omega), HM.out⟩))
          have HGn := Lib.hid (HGB.out.trans HGk.out)
          clear HBad HSt HOk HGk hkt
          go_wp2_with fail
          go_roundw
          case rel => exact ⟨i + 1, by omega, by go_num, HGn, HA2⟩
          case measure => simp [intOf]; omega
    · have ht : decide (i < ls.length) = false := decide_eq_false hlt
      have HAl : Hid (ls.all lnB = true) := Lib.hid (by
        have h := HA.out
        rw [List.take_of_length_le (by omega)] at h
        exact h)
      obtain ⟨wo, hwo⟩ : ∃ wo, wo = wr := ⟨_, rfl⟩
      have HGo : Hid (Gr wA wo) := Lib.hid (by rw [hwo]; exact HG.out)
      have HGr : Hid (Gr wo wr) := Lib.hid (by rw [hwo]; exact Gr.refl _)
      clear HA hlt hi HG hwo
      go_wp2_with fail
      clear k0 k1 k2 k3
      go_loopw [6] (fun v6 W => ∃ n : Nat, n ≤ cs.length ∧ v6 = .int .i64 (n : Int) ∧ Hid (Gr wo W) ∧ Hid ((cs.take n).all ceB = true ∧ ascK cs n = true)) (fun v6 _ => cs.length - (intOf v6).toNat)
      case atStart => exact ⟨0, Nat.zero_le _, rfl, HGr, Lib.hid ⟨rfl, rfl⟩⟩
      clear HGr
      case round =>
        obtain ⟨n, hn, rfl, HG, HA⟩ := hrel
        obtain ⟨k0, k1, k2, k3⟩ := row4 ((HGo.out.trans HG.out).block HRA.out)
        by_cases hlt : n < cs.length
        · have ht : decide (n < cs.length) = true := decide_eq_true hlt
          obtain ⟨x, hx⟩ : ∃ x, cs[n]? = some x := ⟨_, List.getElem?_eq_getElem hlt⟩
          obtain ⟨g, off, rfl, hlc, hc⟩ := (HD.out.2.gr (HGA.out.trans (HGo.out.trans HG.out))).at_ hx
          have y0 := hc 0 _ rfl
          have y1 := hc 1 _ rfl
          have y2 := hc 2 _ rfl
          have y3 := hc 3 _ rfl
          have y4 := hc 4 _ rfl
          have y5 := hc 5 _ rfl
          rw [Nat.add_zero] at y0
          rw [← Nat.add_assoc] at y1 y2 y3 y4 y5
          have HBad : Hid (¬ ((withinB x.row 0 31 = true ∧ withinB x.col 0 31 = true ∧ withinB x.value (-1000000) 1000000 = true ∧ withinB x.top 0 x.row = true ∧ withinB x.left 0 x.col = true) ∧ (x.sum = false → x.top = 0 ∧ x.left = 0) ∧ (x.sum = true → x.value = 0)) → B = false) := Lib.hid (fun h => HF.out (fun h2 => by
            have h3 : ceB x = false := vfalse (fun h4 => h (ceB_iff.1 h4))
            have := all_bad hx h3; rw [h2.2.2.2.2.1] at this; cases this))
          have HSt : Hid (((withinB x.row 0 31 = true ∧ withinB x.col 0 31 = true ∧ withinB x.value (-1000000) 1000000 = true ∧ withinB x.top 0 x.row = true ∧ withinB x.left 0 x.col = true) ∧ (x.sum = false → x.top = 0 ∧ x.left = 0) ∧ (x.sum = true → x.value = 0)) → (cs.take (n + 1)).all ceB = true) := Lib.hid (fun h => by rw [take_all hx, HA.out.1, ceB_iff.2 h]; rfl)
          have HAsB : Hid (∀ y, 1 ≤ n → cs[n - 1]? = some y → aheadB y x = false → B = false) := Lib.hid (fun y h1 hy ha => HF.out (fun h2 => by
            have h3 : ascK cs (n + 1) = false := by rw [ascK_succ cs n h1 hy hx, ha]; simp
            have := asc_bad (by omega) h3; rw [h2.2.2.1] at this; cases this))
          have HAsG : Hid (∀ y, 1 ≤ n → cs[n - 1]? = some y → aheadB y x = true → ascK cs (n + 1) = true) := Lib.hid (fun y h1 hy ha => by rw [ascK_succ cs n h1 hy hx, ha, HA.out.2]; rfl)
          have HAh := Lib.hid (fun (y : Ce) (W : World) => ahead6_any y x W)
          obtain ⟨xr, xc, xs, xv, xt, xl⟩ := x
          simp only at y0 y1 y2 y3 y4 y5 HBad HSt HAh
          clear hc hx
          go_upto_region 18 with fail
          refine wp_gen (F := fun y => Gr wr y ∧ y.heap[wr.heap.size]? = some (.cells #[.int .i64 xr, .int .i64 xc, .bool xs, .int .i64 xv, .int .i64 xt, .int .i64 xl] 106 (0, 0))) ⟨Gr.alloc _ _, heap_alloc_new _ _⟩ ?_
          rintro wB ⟨hgB, hrB⟩
          have HGB := Lib.hid (HG.out.trans hgB)
          have HRB := Lib.hid hrB
          generalize wr.heap.size = gl at hrB HRB ⊢
          obtain ⟨z0, z1, z2, z3, z4, z5⟩ := row6a hrB
          have k1 := hgB.cell k1
          clear hgB hrB HG y0 y1 y2 y3 y4 y5 k0 k2 k3
          go_wp2_with fail
          refine (within6_any xr 0 31 _).mono ?_
          rintro e wB' ⟨rfl, rfl⟩
          cases h1 : withinB xr 0 31 with
          | false =>
            obtain rfl : B = false := HBad.out (fun h => by have := h.1.1; rw [h1] at this; cases this)
            clear HF HB HBad HSt HAsB HAsG HAh
            go_wp2_with fail
            go_ret
            exact ⟨rfl, HGA.out.trans (HGo.out.trans HGB.out)⟩
          | true =>
          go_wp2_with fail
          refine (within6_any xc 0 31 _).mono ?_
          rintro e wB' ⟨rfl, rfl⟩
          cases h2 : withinB xc 0 31 with
          | false =>
            obtain rfl : B = false := HBad.out (fun h => by have := h.1.2.1; rw [h2] at this; cases this)
            clear HF HB HBad HSt HAsB HAsG HAh
            go_wp2_with fail
            go_ret
            exact ⟨rfl, HGA.out.trans (HGo.out.trans HGB.out)⟩
          | true =>
          go_wp2_with fail
          refine (within6_any xv (-1000000) 1000000 _).mono ?_
          rintro e wB' ⟨rfl, rfl⟩
          cases h3 : withinB xv (-1000000) 1000000 with
          | false =>
            obtain rfl : B = false := HBad.out (fun h => by have := h.1.2.2.1; rw [h3] at this; cases this)
            clear HF HB HBad HSt HAsB HAsG HAh
            go_wp2_with fail
            go_ret
            exact ⟨rfl, HGA.out.trans (HGo.out.trans HGB.out)⟩
          | true =>
          go_wp2_with fail
          refine (within6_any xt 0 xr _).mono ?_
          rintro e wB' ⟨rfl, rfl⟩
          cases h4 : withinB xt 0 xr with
          | false =>
            obtain rfl : B = false := HBad.out (fun h => by have := h.1.2.2.2.1; rw [h4] at this; cases this)
            clear HF HB HBad HSt HAsB HAsG HAh
            go_wp2_with fail
            go_ret
            exact ⟨rfl, HGA.out.trans (HGo.out.trans HGB.out)⟩
          | true =>
          go_wp2_with fail
          refine (within6_any xl 0 xc _).mono ?_
          rintro e wB' ⟨rfl, rfl⟩
          cases h5 : withinB xl 0 xc with
          | false =>
            obtain rfl : B = false := HBad.out (fun h => by have := h.1.2.2.2.2; rw [h5] at this; cases this)
            clear HF HB HBad HSt HAsB HAsG HAh
            go_wp2_with fail
            go_ret
            exact ⟨rfl, HGA.out.trans (HGo.out.trans HGB.out)⟩
          | true =>
          have HW5 := Lib.hid (⟨h1, h2, h3, h4, h5⟩ : withinB xr 0 31 = true ∧ withinB xc 0 31 = true ∧ withinB xv (-1000000) 1000000 = true ∧ withinB xt 0 xr = true ∧ withinB xl 0 xc = true)
          clear h1 h2 h3 h4 h5
          cases xs with
          | false =>
            by_cases e1 : xt = 0
            · have s1 : (xt == 0) = true := beq_iff_eq.2 e1
              have s1' : (xt != 0) = false := by rw [bne, s1]; rfl
              by_cases e2 : xl = 0
              · have s2 : (xl == 0) = true := beq_iff_eq.2 e2
                have s2' : (xl != 0) = false := by rw [bne, s2]; rfl
                have HAll := Lib.hid (HSt.out ⟨HW5.out, fun _ => ⟨e1, e2⟩, fun h => by cases h⟩)
                clear e1 e2 HBad HSt
                go_upto_region 22 with fail
                clear s1 s1' s2 s2'
                by_cases n0 : n = 0
                · subst n0
                  have u0 : decide ((0 : Int) < ((0 : Nat) : Int)) = false := by decide
                  have HAs : Hid (ascK cs (0 + 1) = true) := Lib.hid rfl
                  clear HAsB HAsG HAh
                  go_quiet (fail)
                  rename_i nq
                  have hgq : Gr wB (wB.drewN nq) := ⟨rfl, rfl, rfl, Nat.le_refl _, fun _ _ => rfl⟩
                  generalize wB.drewN nq = wC at hgq ⊢
                  have HGn := Lib.hid (HGB.out.trans hgq)
                  clear hgq z0 z1 z2 z3 z4 z5 k1
                  go_wp2_with fail
                  go_roundw
                  case rel => exact ⟨0 + 1, by omega, by go_num, HGn, Lib.hid ⟨HAll.out, HAs.out⟩⟩
                  case measure => simp [intOf]; omega
                · obtain ⟨y, hy⟩ : ∃ y, cs[n - 1]? = some y := ⟨_, List.getElem?_eq_getElem (by omega)⟩
                  have HAb := Lib.hid (HAsB.out y (by omega) hy)
                  have HAg := Lib.hid (HAsG.out y (by omega) hy)
                  have HAy := Lib.hid (HAh.out y)
                  obtain ⟨j, rfl⟩ : ∃ j, n = j + 1 := ⟨n - 1, by omega⟩
                  have ew : IntKind.i64.wrap (((j + 1 : Nat) : Int) - 1) = (j : Int) := by rw [IntWalk.i64_in _ (by omega)]; omega
                  have ew2 : IntKind.i64.wrap (j : Int) = (j : Int) := IntWalk.i64_in _ (by omega)
                  have i0 : (0 : Int) ≤ (j : Int) := by omega
                  have i1 : (j : Int) < (cs.length : Int) := by omega
                  have u0 : decide (0 < j + 1) = true := decide_eq_true (by omega)
                  have u0' : decide ((0 : Int) < (j : Int) + 1) = true := decide_eq_true (by omega)
                  rw [Nat.add_sub_cancel] at hy
                  obtain ⟨_, _, hqe, _, hcy⟩ := (HD.out.2.gr (HGA.out.trans (HGo.out.trans HGB.out))).at_ hy
                  injection hqe with hqe
                  injection hqe with e1 e2
                  subst e1 e2
                  have y0 := hcy 0 _ rfl
                  have y1 := hcy 1 _ rfl
                  have y2 := hcy 2 _ rfl
                  have y3 := hcy 3 _ rfl
                  have y4 := hcy 4 _ rfl
                  have y5 := hcy 5 _ rfl
                  rw [Nat.add_zero] at y0
                  rw [← Nat.add_assoc] at y1 y2 y3 y4 y5
                  obtain ⟨yr, yc, ys, yv, yt, yl⟩ := y
                  simp only at y0 y1 y2 y3 y4 y5 HAy
                  have S0 : ∀ q : GrS wB.drew, q.w.cell? ⟨g, off + j * 6, none⟩ = some (.int .i64 yr) := fun q => q.h.cell (w := wB.drew) y0
                  have S1 : ∀ q : GrS wB.drew, q.w.cell? ⟨g, off + j * 6 + 1, none⟩ = some (.int .i64 yc) := fun q => q.h.cell (w := wB.drew) y1
                  have S2 : ∀ q : GrS wB.drew, q.w.cell? ⟨g, off + j * 6 + 2, none⟩ = some (.bool ys) := fun q => q.h.cell (w := wB.drew) y2
                  have S3 : ∀ q : GrS wB.drew, q.w.cell? ⟨g, off + j * 6 + 3, none⟩ = some (.int .i64 yv) := fun q => q.h.cell (w := wB.drew) y3
                  have S4 : ∀ q : GrS wB.drew, q.w.cell? ⟨g, off + j * 6 + 4, none⟩ = some (.int .i64 yt) := fun q => q.h.cell (w := wB.drew) y4
                  have S5 : ∀ q : GrS wB.drew, q.w.cell? ⟨g, off + j * 6 + 5, none⟩ = some (.int .i64 yl) := fun q => q.h.cell (w := wB.drew) y5
                  have Z0 : ∀ q : GrS wB.drew, q.w.cell? ⟨gl, 0, none⟩ = some (.int .i64 xr) := fun q => q.h.cell (w := wB.drew) z0
                  have Z1 : ∀ q : GrS wB.drew, q.w.cell? ⟨gl, 1, none⟩ = some (.int .i64 xc) := fun q => q.h.cell (w := wB.drew) z1
                  have Z2 := fun q : GrS wB.drew => q.h.cell (w := wB.drew) z2
                  have Z3 : ∀ q : GrS wB.drew, q.w.cell? ⟨gl, 3, none⟩ = some (.int .i64 xv) := fun q => q.h.cell (w := wB.drew) z3
                  have Z4 : ∀ q : GrS wB.drew, q.w.cell? ⟨gl, 4, none⟩ = some (.int .i64 xt) := fun q => q.h.cell (w := wB.drew) z4
                  have Z5 : ∀ q : GrS wB.drew, q.w.cell? ⟨gl, 5, none⟩ = some (.int .i64 xl) := fun q => q.h.cell (w := wB.drew) z5
                  have K1 : ∀ q : GrS wB.drew, q.w.cell? ⟨bx, 1, none⟩ = some (.slice (some ⟨g, off, none⟩) cs.length c2) := fun q => q.h.cell (w := wB.drew) k1
                  obtain ⟨H, hH⟩ : ∃ H, aheadB ⟨yr, yc, ys, yv, yt, yl⟩ ⟨xr, xc, false, xv, xt, xl⟩ = H := ⟨_, rfl⟩
                  rw [hH] at HAb HAg HAy
                  clear hcy hy HAsB HAsG HAh n0 z0 z1 z2 z3 z4 z5 k1 y0 y1 y2 y3 y4 y5 hH
                  refine region_grow 13 188 (by kernel_rfl) rfl (by kernel_rfl) rfl rfl ?_
                  simp only [List.take_succ_cons, List.take_zero, List.drop_succ_cons, List.drop_zero]
                  refine seg 10 rfl rfl rfl rfl ?_
                  simp only [List.take_succ_cons, List.take_zero, List.drop_succ_cons, List.drop_zero]
                  repeat (go_big_quiet_step (fail))
                  refine wpQuiet_nil ?_
                  intro _
                  refine grow_det (v := .bool H) rfl rfl rfl rfl rfl ?_ ?_
                  · intro w1 hG
                    go_simp
                    refine (HAy.out w1).mono ?_
                    rintro e w' ⟨rfl, hb⟩
                    exact ⟨rfl, hb⟩
                  simp only [Act.put, List.setIfInBounds_toArray, List.set_cons_zero, List.set_cons_succ]
                  refine seg 1 rfl rfl rfl rfl ?_
                  simp only [List.take_succ_cons, List.take_zero, List.drop_succ_cons, List.drop_zero]
                  repeat (go_big_quiet_step (fail))
                  refine wpQuiet_nil ?_
                  intro _
                  refine grow_det (v := .bool (!H)) rfl rfl rfl rfl rfl ?_ ?_
                  · intro w1 hG
                    go_simp
                  simp only [Act.put, List.setIfInBounds_toArray, List.set_cons_zero, List.set_cons_succ]
                  refine grow_end0 rfl rfl ?_
                  intro wC hG
                  have HGn := Lib.hid (HGB.out.trans (Gr.trans (Gr.drew wB) hG))
                  clear hG S0 S1 S2 S3 S4 S5 Z0 Z1 Z2 Z3 Z4 Z5 K1 ew ew2 i0 i1
                  cases H with
                  | false =>
                    obtain rfl : B = false := HAb.out rfl
                    clear HF HB HAb HAg HAy
                    go_wp2_with fail
                    go_ret
                    exact ⟨rfl, HGA.out.trans (HGo.out.trans HGn.out)⟩
                  | true =>
                    have HAs := Lib.hid (HAg.out rfl)
                    clear HAb HAg HAy
                    go_wp2_with fail
                    go_roundw
                    case rel => exact ⟨j + 1 + 1, by omega, by go_num, HGn, Lib.hid ⟨HAll.out, HAs.out⟩⟩
                    case measure => simp [intOf]; omega
              · have s2 : (xl == 0) = false := beq_eq_false_iff_ne.2 e2
                have s2' : (xl != 0) = true := by rw [bne, s2]; rfl
                obtain rfl : B = false := HBad.out (fun h => e2 (h.2.1 rfl).2)
                clear e1 e2
                clear HF HB HBad HSt HAsB HAsG HAh
                go_wp2_with fail
                go_ret
                exact ⟨rfl, HGA.out.trans (HGo.out.trans HGB.out)⟩
            · have s1 : (xt == 0) = false := beq_eq_false_iff_ne.2 e1
              have s1' : (xt != 0) = true := by rw [bne, s1]; rfl
              obtain rfl : B = false := HBad.out (fun h => e1 (h.2.1 rfl).1)
              clear e1
              clear HF HB HBad HSt HAsB HAsG HAh
              go_wp2_with fail
              go_ret
              exact ⟨rfl, HGA.out.trans (HGo.out.trans HGB.out)⟩
          | true =>
            by_cases e1 : xv = 0
            · have s1 : (xv == 0) = true := beq_iff_eq.2 e1
              have s1' : (xv != 0) = false := by rw [bne, s1]; rfl
              have HAll := Lib.hid (HSt.out ⟨HW5.out, fun h => (by cases h), fun _ => e1⟩)
              clear e1 HBad HSt
              go_upto_region 22 with fail
              clear s1 s1'
              by_cases n0 : n = 0
              · subst n0
                have u0 : decide ((0 : Int) < ((0 : Nat) : Int)) = false := by decide
                have HAs : Hid (ascK cs (0 + 1) = true) := Lib.hid rfl
                clear HAsB HAsG HAh
                go_quiet (fail)
                rename_i nq
                have hgq : Gr wB (wB.drewN nq) := ⟨rfl, rfl, rfl, Nat.le_refl _, fun _ _ => rfl⟩
                generalize wB.drewN nq = wC at hgq ⊢
                have HGn := Lib.hid (HGB.out.trans hgq)
                clear hgq z0 z1 z2 z3 z4 z5 k1
                go_wp2_with fail
                go_roundw
                case rel => exact ⟨0 + 1, by omega, by go_num, HGn, Lib.hid ⟨HAll.out, HAs.out⟩⟩
                case measure => simp [intOf]; omega
              · obtain ⟨y, hy⟩ : ∃ y, cs[n - 1]? = some y := ⟨_, List.getElem?_eq_getElem (by omega)⟩
                have HAb := Lib.hid (HAsB.out y (by omega) hy)
                have HAg := Lib.hid (HAsG.out y (by omega) hy)
                have HAy := Lib.hid (HAh.out y)
                obtain ⟨j, rfl⟩ : ∃ j, n = j + 1 := ⟨n - 1, by omega⟩
                have ew : IntKind.i64.wrap (((j + 1 : Nat) : Int) - 1) = (j : Int) := by rw [IntWalk.i64_in _ (by omega)]; omega
                have ew2 : IntKind.i64.wrap (j : Int) = (j : Int) := IntWalk.i64_in _ (by omega)
                have i0 : (0 : Int) ≤ (j : Int) := by omega
                have i1 : (j : Int) < (cs.length : Int) := by omega
                have u0 : decide (0 < j + 1) = true := decide_eq_true (by omega)
                have u0' : decide ((0 : Int) < (j : Int) + 1) = true := decide_eq_true (by omega)
                rw [Nat.add_sub_cancel] at hy
                obtain ⟨_, _, hqe, _, hcy⟩ := (HD.out.2.gr (HGA.out.trans (HGo.out.trans HGB.out))).at_ hy
                injection hqe with hqe
                injection hqe with e1 e2
                subst e1 e2
                have y0 := hcy 0 _ rfl
                have y1 := hcy 1 _ rfl
                have y2 := hcy 2 _ rfl
                have y3 := hcy 3 _ rfl
                have y4 := hcy 4 _ rfl
                have y5 := hcy 5 _ rfl
                rw [Nat.add_zero] at y0
                rw [← Nat.add_assoc] at y1 y2 y3 y4 y5
                obtain ⟨yr, yc, ys, yv, yt, yl⟩ := y
                simp only at y0 y1 y2 y3 y4 y5 HAy
                have S0 : ∀ q : GrS wB.drew, q.w.cell? ⟨g, off + j * 6, none⟩ = some (.int .i64 yr) := fun q => q.h.cell (w := wB.drew) y0
                have S1 : ∀ q : GrS wB.drew, q.w.cell? ⟨g, off + j * 6 + 1, none⟩ = some (.int .i64 yc) := fun q => q.h.cell (w := wB.drew) y1
                have S2 : ∀ q : GrS wB.drew, q.w.cell? ⟨g, off + j * 6 + 2, none⟩ = some (.bool ys) := fun q => q.h.cell (w := wB.drew) y2
                have S3 : ∀ q : GrS wB.drew, q.w.cell? ⟨g, off + j * 6 + 3, none⟩ = some (.int .i64 yv) := fun q => q.h.cell (w := wB.drew) y3
                have S4 : ∀ q : GrS wB.drew, q.w.cell? ⟨g, off + j * 6 + 4, none⟩ = some (.int .i64 yt) := fun q => q.h.cell (w := wB.drew) y4
                have S5 : ∀ q : GrS wB.drew, q.w.cell? ⟨g, off + j * 6 + 5, none⟩ = some (.int .i64 yl) := fun q => q.h.cell (w := wB.drew) y5
                have Z0 : ∀ q : GrS wB.drew, q.w.cell? ⟨gl, 0, none⟩ = some (.int .i64 xr) := fun q => q.h.cell (w := wB.drew) z0
                have Z1 : ∀ q : GrS wB.drew, q.w.cell? ⟨gl, 1, none⟩ = some (.int .i64 xc) := fun q => q.h.cell (w := wB.drew) z1
                have Z2 := fun q : GrS wB.drew => q.h.cell (w := wB.drew) z2
                have Z3 : ∀ q : GrS wB.drew, q.w.cell? ⟨gl, 3, none⟩ = some (.int .i64 xv) := fun q => q.h.cell (w := wB.drew) z3
                have Z4 : ∀ q : GrS wB.drew, q.w.cell? ⟨gl, 4, none⟩ = some (.int .i64 xt) := fun q => q.h.cell (w := wB.drew) z4
                have Z5 : ∀ q : GrS wB.drew, q.w.cell? ⟨gl, 5, none⟩ = some (.int .i64 xl) := fun q => q.h.cell (w := wB.drew) z5
                have K1 : ∀ q : GrS wB.drew, q.w.cell? ⟨bx, 1, none⟩ = some (.slice (some ⟨g, off, none⟩) cs.length c2) := fun q => q.h.cell (w := wB.drew) k1
                obtain ⟨H, hH⟩ : ∃ H, aheadB ⟨yr, yc, ys, yv, yt, yl⟩ ⟨xr, xc, true, xv, xt, xl⟩ = H := ⟨_, rfl⟩
                rw [hH] at HAb HAg HAy
                clear hcy hy HAsB HAsG HAh n0 z0 z1 z2 z3 z4 z5 k1 y0 y1 y2 y3 y4 y5 hH
                refine region_grow 13 188 (by kernel_rfl) rfl (by kernel_rfl) rfl rfl ?_
                simp only [List.take_succ_cons, List.take_zero, List.drop_succ_cons, List.drop_zero]
                refine seg 10 rfl rfl rfl rfl ?_
                simp only [List.take_succ_cons, List.take_zero, List.drop_succ_cons, List.drop_zero]
                repeat (go_big_quiet_step (fail))
                refine wpQuiet_nil ?_
                intro _
                refine grow_det (v := .bool H) rfl rfl rfl rfl rfl ?_ ?_
                · intro w1 hG
                  go_simp
                  refine (HAy.out w1).mono ?_
                  rintro e w' ⟨rfl, hb⟩
                  exact ⟨rfl, hb⟩
                simp only [Act.put, List.setIfInBounds_toArray, List.set_cons_zero, List.set_cons_succ]
                refine seg 1 rfl rfl rfl rfl ?_
                simp only [List.take_succ_cons, List.take_zero, List.drop_succ_cons, List.drop_zero]
                repeat (go_big_quiet_step (fail))
                refine wpQuiet_nil ?_
                intro _
                refine grow_det (v := .bool (!H)) rfl rfl rfl rfl rfl ?_ ?_
                · intro w1 hG
                  go_simp
                simp only [Act.put, List.setIfInBounds_toArray, List.set_cons_zero, List.set_cons_succ]
                refine grow_end0 rfl rfl ?_
                intro wC hG
                have HGn := Lib.hid (HGB.out.trans (Gr.trans (Gr.drew wB) hG))
                clear hG S0 S1 S2 S3 S4 S5 Z0 Z1 Z2 Z3 Z4 Z5 K1 ew ew2 i0 i1
                cases H with
                | false =>
                  obtain rfl : B = false := HAb.out rfl
                  clear HF HB HAb HAg HAy
                  go_wp2_with fail
                  go_ret
                  exact ⟨rfl, HGA.out.trans (HGo.out.trans HGn.out)⟩
                | true =>
                  have HAs := Lib.hid (HAg.out rfl)
                  clear HAb HAg HAy
                  go_wp2_with fail
                  go_roundw
                  case rel => exact ⟨j + 1 + 1, by omega, by go_num, HGn, Lib.hid ⟨HAll.out, HAs.out⟩⟩
                  case measure => simp [intOf]; omega
            · have s1 : (xv == 0) = false := beq_eq_false_iff_ne.2 e1
              have s1' : (xv != 0) = true := by rw [bne, s1]; rfl
              obtain rfl : B = false := HBad.out (fun h => e1 (h.2.2 rfl))
              clear e1
              clear HF HB HBad HSt HAsB HAsG HAh
              go_wp2_with fail
              go_ret
              exact ⟨rfl, HGA.out.trans (HGo.out.trans HGB.out)⟩
        · have ht : decide (n < cs.length) = false := decide_eq_false hlt
          have hne : n = cs.length := by omega
          have HCl : Hid (cs.all ceB = true ∧ ascK cs cs.length = true) := Lib.hid (by
            have h := HA.out
            rw [hne, List.take_of_length_le (Nat.le_refl _)] at h
            exact h)
          have HRest : Hid (rasterB wd bits = false → B = false) := Lib.hid (fun h => HF.out (fun h2 => by rw [h] at h2; cases h2.2.2.2.2.2))
          have HRest2 : Hid (rasterB wd bits = B) := Lib.hid (by
            cases hr : rasterB wd bits with
            | false => exact (HRest.out hr).symm
            | true =>
              rw [← HB.out]
              exact (validB_iff.2 ⟨hl64, hc64, HCl.out.2, HAl.out, HCl.out.1, hr⟩).symm)
          obtain ⟨wq, hwq⟩ : ∃ wq, wq = wr := ⟨_, rfl⟩
          have HGq : Hid (Gr wA wq) := Lib.hid (by rw [hwq]; exact HGo.out.trans HG.out)
          have HGr : Hid (Gr wq wr) := Lib.hid (by rw [hwq]; exact Gr.refl _)
          clear HA hlt hn HG hwq hne HB HF HCl HAl HRest HGo
          go_wp2_with fail
          clear k0 k1 k2 k3
          go_loopw [8] (fun v8 W => ∃ j : Nat, j ≤ bits.size ∧ v8 = .int .i64 (j : Int) ∧ Hid (Gr wq W) ∧ Hid (∀ (i : Nat) (h : i < bits.size), i < j → ((bits[i]'h).toNat = 48 ∨ (bits[i]'h).toNat = 49))) (fun v8 _ => bits.size - (intOf v8).toNat)
          case atStart => exact ⟨0, Nat.zero_le _, rfl, HGr, Lib.hid (fun i h h2 => by omega)⟩
          clear HGr
          case round =>
            obtain ⟨j, hj, rfl, HG, HO⟩ := hrel
            obtain ⟨k0, k1, k2, k3⟩ := row4 ((HGq.out.trans HG.out).block HRA.out)
            by_cases hjt : j < bits.size
            · have htj : decide (j < bits.size) = true := decide_eq_true hjt
              have HBy : Hid (¬ ((bits[j]'hjt).toNat = 48 ∨ (bits[j]'hjt).toNat = 49) → B = false) := Lib.hid (fun h => by
                rw [← HRest2.out]
                exact vfalse (fun h2 => h ((in01_iff bits).1 (raster_small h2).2.2 j hjt)))
              have HO2 : Hid (((bits[j]'hjt).toNat = 48 ∨ (bits[j]'hjt).toNat = 49) → ∀ (i : Nat) (h : i < bits.size), i < j + 1 → ((bits[i]'h).toNat = 48 ∨ (bits[i]'h).toNat = 49)) := Lib.hid (fun h i hi hij => by
                by_cases e : i = j
                · subst e; exact h
                · exact HO.out i hi (by omega))
              by_cases b1 : (bits[j]'hjt).toNat = 48
              · have u1 : (((bits[j]'hjt).toNat : Int) == 48) = true := by rw [beq_iff_eq]; omega
                have u1' : (((bits[j]'hjt).toNat : Int) != 48) = false := by rw [bne, u1]; rfl
                have HO3 := Lib.hid (HO2.out (.inl b1))
                clear b1 HBy HO2
                go_wp2_with fail
                go_roundw
                case rel => exact ⟨j + 1, by omega, by go_num, HG, HO3⟩
                case measure => simp [intOf]; omega
              · have u1 : (((bits[j]'hjt).toNat : Int) == 48) = false := by rw [beq_eq_false_iff_ne]; omega
                have u1' : (((bits[j]'hjt).toNat : Int) != 48) = true := by rw [bne, u1]; rfl
                by_cases b2 : (bits[j]'hjt).toNat = 49
                · have u2 : (((bits[j]'hjt).toNat : Int) == 49) = true := by rw [beq_iff_eq]; omega
                  have u2' : (((bits[j]'hjt).toNat : Int) != 49) = false := by rw [bne, u2]; rfl
                  have HO3 := Lib.hid (HO2.out (.inr b2))
                  clear b1 b2 HBy HO2
                  go_wp2_with fail
                  go_roundw
                  case rel => exact ⟨j + 1, by omega, by go_num, HG, HO3⟩
                  case measure => simp [intOf]; omega
                · have u2 : (((bits[j]'hjt).toNat : Int) == 49) = false := by rw [beq_eq_false_iff_ne]; omega
                  have u2' : (((bits[j]'hjt).toNat : Int) != 49) = true := by rw [bne, u2]; rfl
                  obtain rfl : B = false := HBy.out (by omega)
                  clear b1 b2 HBy HO2
                  go_wp2_with fail
                  go_ret
                  exact ⟨rfl, HGA.out.trans (HGq.out.trans HG.out)⟩
            · have htj : decide (j < bits.size) = false := decide_eq_false hjt
              have HRi : Hid ((if wd = 0 then decide (bits.size = 0) else (decide ((bits.size : Int) % wd = 0) && withinB (heightD wd bits) 1 32)) = B) := Lib.hid (by
                rw [← HRest2.out, raster_iff HWi.out ((in01_iff bits).2 (fun i h => HO.out i h (by omega)))])
              clear HO HRest2 hjt
              by_cases e0 : wd = 0
              · have s0 : (wd == 0) = true := beq_iff_eq.2 e0
                have hBe : (bits.toList == (⟨#[]⟩ : ByteArray).toList) = B := by
                  rw [← HRi.out, if_pos e0, beq_str]
                  by_cases h : bits.size = 0
                  · have he : bits = ⟨#[]⟩ := ByteArray.ext (Array.eq_empty_of_size_eq_zero h)
                    rw [decide_eq_true h, decide_eq_true he]
                  · rw [decide_eq_false h, decide_eq_false (fun he => h (by rw [he]; rfl))]
                have hBe2 : bits.toList.isEmpty = B := by
                  rw [isEmpty_iff, ← HRi.out, if_pos e0]
                clear e0 HRi
                go_wp2_with fail
                go_ret
                refine ⟨?_, HGA.out.trans (HGq.out.trans HG.out)⟩
                first
                  | (rw [← hBe2]; simp)
                  | (rw [← hBe]; simp)
                  | simp_all
              · have s0 : (wd == 0) = false := beq_eq_false_iff_ne.2 e0
                have HRi2 : Hid ((decide ((bits.size : Int) % wd = 0) && withinB (heightD wd bits) 1 32) = B) := Lib.hid (by rw [← HRi.out, if_neg e0])
                have hwd1 : 1 ≤ wd := by omega
                have hrem : (bits.size : Int).tmod wd = (bits.size : Int) % wd := Int.tmod_eq_emod_of_nonneg (by omega)
                have hrem2 : wrap64 ((bits.size : Int) % wd) = (bits.size : Int) % wd := by
                  have h1 := Int.emod_nonneg (bits.size : Int) e0
                  have h2 := Int.emod_lt_of_pos (bits.size : Int) (show 0 < wd by omega)
                  unfold wrap64; omega
                by_cases e1 : (bits.size : Int) % wd = 0
                · have s1 : ((bits.size : Int) % wd == 0) = true := beq_iff_eq.2 e1
                  have HRi3 : Hid (withinB (heightD wd bits) 1 32 = B) := Lib.hid (by rw [← HRi2.out, decide_eq_true e1]; rfl)
                  clear e0 e1 HRi HRi2
                  go_wp2_with fail
                  refine (HHt.out _).mono ?_
                  rintro e w9 ⟨rfl, hg9⟩
                  have HG9 := Lib.hid (HG.out.trans hg9)
                  clear hg9 HG HHt k0 k1 k2 k3
                  generalize heightD wd bits = H at HRi3
                  go_wp2_with fail
                  refine (within6_any H 1 32 _).mono ?_
                  rintro e w10 ⟨rfl, rfl⟩
                  rw [HRi3.out]
                  go_wp2_with fail
                  go_ret
                  exact ⟨rfl, HGA.out.trans (HGq.out.trans HG9.out)⟩
                · have s1 : ((bits.size : Int) % wd == 0) = false := beq_eq_false_iff_ne.2 e1
                  obtain rfl : B = false := by rw [← HRi2.out, decide_eq_false e1]; rfl
                  clear e0 e1 HRi HRi2
                  go_wp2_with fail
                  go_ret
                  exact ⟨rfl, HGA.out.trans (HGq.out.trans HG.out)⟩
end
end Go.Proofs.YtakhomofckcckaaGreatDoor
