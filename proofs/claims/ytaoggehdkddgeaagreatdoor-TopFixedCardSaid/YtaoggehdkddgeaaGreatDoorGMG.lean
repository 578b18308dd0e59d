/- The contracts of content's checks of a line. -/
import Derived.Test.YtaoggehdkddgeaaGreatDoorGenA
section
namespace Go.Proofs.YtaoggehdkddgeaaGreatDoor
section
open Go Go.RowKit Go.Shelf
attribute [local go_sem] gAt gUpon
attribute [local simp] Gr.refl Gr.alloc

theorem withinC_any (n lo hi : Int) (w : World) : Calls Tryz.prog 101 #[.int .i64 n, .int .i64 lo, .int .i64 hi] w fun e w' => e = .returned (.bool (withinB n lo hi)) ∧ w = w' := by
  by_cases h : lo ≤ n
  · have t1 : decide (lo ≤ n) = true := decide_eq_true h
    have e : withinB n lo hi = decide (n ≤ hi) := by unfold withinB; rw [t1]; simp
    rw [e]
    clear e h
    go_enter Tryz.func101, Tryz.ntmps101
    go_wp2
    go_ret
    exact ⟨rfl, rfl⟩
  · have t1 : decide (lo ≤ n) = false := decide_eq_false h
    have e : withinB n lo hi = false := by unfold withinB; rw [t1]; simp
    rw [e]
    clear e h
    go_enter Tryz.func101, Tryz.ntmps101
    go_wp2
    go_ret
    exact ⟨rfl, rfl⟩
/-- a letter that a line may not hold -/
def otherR (r : Nat) : Bool := decide (r < 32) || decide (126 < r)
theorem other_gives (r : Nat) (hr : r ≤ 1114111) (W : World) : FnGives Tryz.prog 134 #[] #[encR r] (.bool (otherR r)) W := by
  unfold FnGives encR
  by_cases h : r < 32
  · have t1 : decide ((r : Int) < 32) = true := decide_eq_true (by omega)
    have t1' : decide (r < 32) = true := decide_eq_true h
    have e : otherR r = true := by unfold otherR; rw [t1']; rfl
    rw [e]
    clear e h
    go_enter Tryz.func134, Tryz.ntmps134
    go_wp2
    go_ret
    exact ⟨rfl, 0, rfl⟩
  · have t1 : decide ((r : Int) < 32) = false := decide_eq_false (by omega)
    have t1' : decide (r < 32) = false := decide_eq_false h
    have e : otherR r = decide (126 < r) := by unfold otherR; rw [t1']; rfl
    rw [e]
    have e2 : decide (126 < (r : Int)) = decide (126 < r) := decide_eq_decide.2 (by omega)
    have E2 := Lib.hid e2
    clear e h e2
    go_enter Tryz.func134, Tryz.ntmps134
    go_wp2
    go_ret
    exact ⟨by rw [← E2.out]; rfl, 0, rfl⟩
/-- a line that a document may hold -/
def lineB (t : ByteArray) (m : Int) : Bool := decide (t.size ≤ 80) && (decide (Lib.idxFunc otherR true t < 0) && withinB m 0 7)
theorem isLine_any (t : ByteArray) (m : Int) (w : World) : Calls Tryz.prog 60 #[.agg #[.string t, .int .i64 m]] w fun e w' => e = .returned (.bool (lineB t m)) ∧ Gr w w' := by
  have HI := Lib.hid (fun x => Tryz.strings_IndexFunc_runes 134 #[] (enters_of Tryz.func134 (by kernel_rfl) rfl) otherR t x (fun W r hr _ => other_gives r hr W))
  have HW := Lib.hid (fun x => withinC_any m 0 7 x)
  unfold lineB
  generalize withinB m 0 7 = b at HW ⊢
  generalize Lib.idxFunc otherR true t = z at HI ⊢
  by_cases h1 : t.size ≤ 80
  · have t1 : decide (t.size ≤ 80) = true := decide_eq_true h1
    have t1' : decide ((t.size : Int) ≤ 80) = true := decide_eq_true (by omega)
    rw [t1]
    by_cases h2 : z < 0
    · have t2 : decide (z < 0) = true := decide_eq_true h2
      rw [t2]
      clear h1 h2
      go_enter Tryz.func60, Tryz.ntmps60
      go_upto_region 1 with fail
      refine wp_gen (F := fun y => Gr w y ∧ y.heap[w.heap.size]? = some (.cells #[.string t, .int .i64 m] 61 (0, 0))) ⟨Gr.alloc _ _, heap_alloc_new _ _⟩ ?_
      rintro wA ⟨hgA, hrA⟩
      have c0 : wA.cell? ⟨w.heap.size, 0, none⟩ = some (.string t) := by rw [cell_of_row _ _ _ _ _ _ hrA]; rfl
      have HGA := Lib.hid hgA
      have HRA := Lib.hid hrA
      clear hgA hrA
      go_wp2_with fail
      refine (HI.out _).mono ?_
      rintro e wB ⟨rfl, hb⟩
      have hgB : Gr wA wB := hb
      have c1 : wB.cell? ⟨w.heap.size, 1, none⟩ = some (.int .i64 m) := by rw [cell_of_row _ _ _ _ _ _ (hgB.block HRA.out)]; rfl
      have HGB := Lib.hid (HGA.out.trans hgB)
      clear hb hgB HI
      go_wp2_with fail
      refine (HW.out _).mono ?_
      rintro e wC ⟨rfl, rfl⟩
      clear HW
      go_wp2_with fail
      go_ret
      exact ⟨rfl, HGB.out⟩
    · have t2 : decide (z < 0) = false := decide_eq_false h2
      rw [t2]
      clear h1 h2
      go_enter Tryz.func60, Tryz.ntmps60
      go_upto_region 1 with fail
      refine wp_gen (F := fun y => Gr w y ∧ y.heap[w.heap.size]? = some (.cells #[.string t, .int .i64 m] 61 (0, 0))) ⟨Gr.alloc _ _, heap_alloc_new _ _⟩ ?_
      rintro wA ⟨hgA, hrA⟩
      have c0 : wA.cell? ⟨w.heap.size, 0, none⟩ = some (.string t) := by rw [cell_of_row _ _ _ _ _ _ hrA]; rfl
      have HGA := Lib.hid hgA
      clear hgA hrA
      go_wp2_with fail
      refine (HI.out _).mono ?_
      rintro e wB ⟨rfl, hb⟩
      have HGB := Lib.hid (HGA.out.trans (show Gr wA wB from hb))
      clear hb HI
      go_wp2_with fail
      go_ret
      exact ⟨rfl, HGB.out⟩
  · have t1 : decide (t.size ≤ 80) = false := decide_eq_false h1
    have t1' : decide ((t.size : Int) ≤ 80) = false := decide_eq_false (by omega)
    rw [t1]
    clear h1
    have hrow := heap_alloc_new w (.cells #[.string t, .int .i64 m] 61)
    go_enter Tryz.func60, Tryz.ntmps60
    go_upto_region 1 with fail
    refine wp_gen (F := fun y => Gr w y ∧ y.heap[w.heap.size]? = some (.cells #[.string t, .int .i64 m] 61 (0, 0))) ⟨Gr.alloc _ _, hrow⟩ ?_
    rintro wA ⟨hgA, hrA⟩
    have c0 : wA.cell? ⟨w.heap.size, 0, none⟩ = some (.string t) := by rw [cell_of_row _ _ _ _ _ _ hrA]; rfl
    have HGA := Lib.hid hgA
    clear hgA hrA hrow HI HW
    go_wp2_with fail
    go_ret
    exact ⟨rfl, HGA.out⟩
end
section
open Go Go.RowKit Go.Shelf
attribute [local go_sem] gAt gUpon
attribute [local simp] Gr.refl Gr.alloc

/-- a line's cells -/
abbrev Ln := ByteArray × Int
def lnC (x : Ln) : List Value := [.string x.1, .int .i64 x.2]
def lnB (x : Ln) : Bool := lineB x.1 x.2
theorem allc_line (x : Ln) (bf : Nat) (w : World) (h : w.cell? ⟨bf, 0, none⟩ = some (.func (.func 60) #[] #[])) :
    Calls Tryz.prog 133 #[.agg #[.string x.1, .int .i64 x.2], .pointer (some ⟨bf, 0, none⟩)] w fun e w' => e = .returned (.bool (!lnB x)) ∧ Gr w w' := by
  have HI := Lib.hid (fun y => isLine_any x.1 x.2 y)
  obtain ⟨t, m⟩ := x
  unfold lnB
  simp only at HI ⊢
  generalize lineB t m = b at HI ⊢
  have hbl : bf < w.heap.size := World.block_lt_of_cell? w _ h
  go_enter Tryz.func133, Tryz.ntmps133
  go_wp2_with fail
  refine (HI.out _).mono ?_
  rintro e w1 ⟨rfl, hg⟩
  have HG := Lib.hid ((Gr.alloc w _).trans hg)
  clear hg HI h
  go_wp2_with fail
  go_ret
  exact ⟨rfl, HG.out⟩
theorem idx_line (v : Value) (l : List Ln) (bf : Nat) (w : World) (hv : Rws 2 lnC v l w) (hl : l.length ≤ 9223372036854775806) (h : w.cell? ⟨bf, 0, none⟩ = some (.func (.func 60) #[] #[])) :
    Calls Tryz.prog 181 #[v, .func (.func 133) #[] #[.pointer (some ⟨bf, 0, none⟩)]] w fun e w' => ∃ z : Int, e = .returned (.int .i64 z) ∧ decide (0 ≤ z) = !(l.all lnB) ∧ Gr w w' := by
  obtain ⟨p, c, rfl⟩ := hv.shape
  have HV := Lib.hid hv
  have HH := Lib.hid h
  have H0 := Lib.hid (Gr.refl w)
  clear hv h
  go_enter Tryz.func181, Tryz.ntmps181
  go_wp2_with fail
  go_loopw [8] (fun v8 W => ∃ k : Nat, k ≤ l.length ∧ v8 = .int .i64 (k : Int) ∧ Hid (Gr w W) ∧ Hid ((l.take k).all lnB = true)) (fun v8 _ => l.length - (intOf v8).toNat)
  case atStart => exact ⟨0, Nat.zero_le _, rfl, H0, Lib.hid rfl⟩
  case round =>
    obtain ⟨k, hk, rfl, HG, HA⟩ := hrel
    by_cases hlt : k < l.length
    · have tk : decide (k < l.length) = true := decide_eq_true hlt
      obtain ⟨x, hx⟩ : ∃ x, l[k]? = some x := ⟨_, List.getElem?_eq_getElem hlt⟩
      obtain ⟨g, off, rfl, hlc, hc⟩ := (HV.out.gr HG.out).at_ hx
      have c0 := hc 0 _ rfl
      have c1 := hc 1 _ rfl
      rw [Nat.add_zero] at c0
      rw [← Nat.add_assoc] at c1
      have HC := Lib.hid (fun y (hg : Gr wr y) => allc_line x bf y ((HG.out.trans hg).cell HH.out))
      have hst : (l.take (k + 1)).all lnB = lnB x := by
        rw [List.take_add_one, hx, Option.toList_some, List.all_append, HA.out]; simp
      have HSt := Lib.hid hst
      have Hx := Lib.hid hx
      clear hc hx hst
      obtain ⟨t, m⟩ := x
      simp only at c0 c1 HC
      go_wp2_with fail
      refine (HC.out _ (by first | exact Gr.refl _ | exact Gr.drew _)).mono ?_
      rintro e w1 ⟨rfl, hg⟩
      have HG1 := Lib.hid (HG.out.trans hg)
      clear hg HC c0 c1
      cases hb : lnB (t, m) with
      | true =>
        rw [hb] at HSt
        have H1 : Hid ((l.take (k + 1)).all lnB = true) := HSt
        clear hb HSt HA
        go_wp2_with fail
        go_roundw
        case rel => exact ⟨k + 1, by omega, by go_num, HG1, H1⟩
        case measure => simp [intOf]; omega
      | false =>
        have HE : Hid (l.all lnB = false) := Lib.hid (by
          rw [Bool.eq_false_iff]
          intro h
          have := List.all_eq_true.1 h _ (List.mem_of_getElem? Hx.out)
          rw [hb] at this; cases this)
        clear hb HSt HA
        go_wp2_with fail
        go_ret
        exact ⟨_, rfl, by rw [HE.out]; exact decide_eq_true (by omega), HG1.out⟩
    · have tk : decide (k < l.length) = false := decide_eq_false hlt
      have HE : Hid (l.all lnB = true) := Lib.hid (by have := HA.out; rwa [List.take_of_length_le (by omega)] at this)
      go_wp2_with fail
      go_ret
      exact ⟨_, rfl, by rw [HE.out]; rfl, HG.out⟩
theorem contains_line (v : Value) (l : List Ln) (bf : Nat) (w : World) (hv : Rws 2 lnC v l w) (hl : l.length ≤ 9223372036854775806) (h : w.cell? ⟨bf, 0, none⟩ = some (.func (.func 60) #[] #[])) :
    Calls Tryz.prog 132 #[v, .func (.func 133) #[] #[.pointer (some ⟨bf, 0, none⟩)]] w fun e w' => e = .returned (.bool (!(l.all lnB))) ∧ Gr w w' := by
  have HI := Lib.hid (idx_line v l bf w hv hl h)
  clear hv h
  go_enter Tryz.func132, Tryz.ntmps132
  go_wp2_with fail
  refine HI.out.mono ?_
  rintro e w1 ⟨z, rfl, hz, hg⟩
  have HG := Lib.hid hg
  have HZ := Lib.hid hz
  clear hg HI hz
  go_wp2_with fail
  go_ret
  exact ⟨by rw [← HZ.out]; rfl, HG.out⟩
theorem all_line (v : Value) (l : List Ln) (w : World) (hv : Rws 2 lnC v l w) (hl : l.length ≤ 9223372036854775806) :
    Calls Tryz.prog 59 #[v, .func (.func 60) #[] #[]] w fun e w' => e = .returned (.bool (l.all lnB)) ∧ Gr w w' := by
  have hc : ∀ t, (w.alloc (.cells #[.func (.func 60) #[] #[]] t)).cell? ⟨w.heap.size, 0, none⟩ = some (.func (.func 60) #[] #[]) := fun t => by rw [cell_of_row _ _ _ _ _ _ (heap_alloc_new w _)]; rfl
  have HC := Lib.hid (fun t => contains_line v l w.heap.size _ (hv.gr (Gr.alloc w (.cells #[.func (.func 60) #[] #[]] t))) hl (hc t))
  clear hv hc
  generalize l.all lnB = b at HC ⊢
  go_enter Tryz.func59, Tryz.ntmps59
  go_wp2_with fail
  refine (HC.out _).mono ?_
  rintro e w1 ⟨rfl, hg⟩
  have HG := Lib.hid ((Gr.alloc w _).trans hg)
  clear hg HC
  go_wp2_with fail
  go_ret
  exact ⟨rfl, HG.out⟩
end
end Go.Proofs.YtaoggehdkddgeaaGreatDoor
end
section
namespace Go.Proofs.YtaoggehdkddgeaaGreatDoor
section
open Go Go.RowKit Go.Shelf
attribute [local go_sem] gAt gUpon
attribute [local simp] Gr.refl Gr.alloc

/-- a cell of a table -/
structure Ce where
  row : Int
  col : Int
  sum : Bool
  value : Int
  top : Int
  left : Int
def ceC (x : Ce) : List Value := [.int .i64 x.row, .int .i64 x.col, .bool x.sum, .int .i64 x.value, .int .i64 x.top, .int .i64 x.left]
def ceB (x : Ce) : Bool := withinB x.row 0 31 && (withinB x.col 0 31 && (if x.sum then x.value == 0 && (withinB x.top 0 x.row && withinB x.left 0 x.col) else withinB x.value (-1000000) 1000000 && (x.top == 0 && x.left == 0)))
theorem isCell_any (x : Ce) (w : World) : Calls Tryz.prog 62 #[.agg #[.int .i64 x.row, .int .i64 x.col, .bool x.sum, .int .i64 x.value, .int .i64 x.top, .int .i64 x.left]] w fun e w' => e = .returned (.bool (ceB x)) ∧ Gr w w' := by
  obtain ⟨B, hB⟩ : ∃ B, ceB x = B := ⟨_, rfl⟩
  rw [hB]
  obtain ⟨r, c, s, v, t, l⟩ := x
  have HB := Lib.hid hB
  clear hB
  have hrow := heap_alloc_new w (.cells #[.int .i64 r, .int .i64 c, .bool s, .int .i64 v, .int .i64 t, .int .i64 l] 63)
  have key : ∀ wA, Gr w wA → wA.heap[w.heap.size]? = some (.cells #[.int .i64 r, .int .i64 c, .bool s, .int .i64 v, .int .i64 t, .int .i64 l] 63 (0, 0)) →
      wA.cell? ⟨w.heap.size, 0, none⟩ = some (.int .i64 r) ∧ wA.cell? ⟨w.heap.size, 1, none⟩ = some (.int .i64 c) ∧ wA.cell? ⟨w.heap.size, 2, none⟩ = some (.bool s) ∧ wA.cell? ⟨w.heap.size, 3, none⟩ = some (.int .i64 v) ∧ wA.cell? ⟨w.heap.size, 4, none⟩ = some (.int .i64 t) ∧ wA.cell? ⟨w.heap.size, 5, none⟩ = some (.int .i64 l) := fun wA _ h =>
    ⟨by rw [cell_of_row _ _ _ _ _ _ h]; rfl, by rw [cell_of_row _ _ _ _ _ _ h]; rfl, by rw [cell_of_row _ _ _ _ _ _ h]; rfl, by rw [cell_of_row _ _ _ _ _ _ h]; rfl, by rw [cell_of_row _ _ _ _ _ _ h]; rfl, by rw [cell_of_row _ _ _ _ _ _ h]; rfl⟩
  have HK := Lib.hid key
  have HR := Lib.hid hrow
  clear key hrow
  go_enter Tryz.func62, Tryz.ntmps62
  go_upto_region 1 with fail
  refine wp_gen (F := fun y => Gr w y ∧ y.heap[w.heap.size]? = some (.cells #[.int .i64 r, .int .i64 c, .bool s, .int .i64 v, .int .i64 t, .int .i64 l] 63 (0, 0))) ⟨Gr.alloc _ _, HR.out⟩ ?_
  rintro wA ⟨hgA, hrA⟩
  obtain ⟨c0, c1, c2, c3, c4, c5⟩ := HK.out wA hgA hrA
  have HGA := Lib.hid hgA
  clear hgA hrA HK HR
  cases h1 : withinB r 0 31 with
  | false =>
    obtain rfl : B = false := by rw [← HB.out]; simp [ceB, h1]
    clear HB
    go_wp2_with (go_at_call 101; refine (withinC_any _ _ _ _).mono ?_; rintro e w' ⟨rfl, rfl⟩)
    go_ret
    exact ⟨rfl, HGA.out⟩
  | true =>
    cases h2 : withinB c 0 31 with
    | false =>
      obtain rfl : B = false := by rw [← HB.out]; simp [ceB, h1, h2]
      clear HB
      go_wp2_with (go_at_call 101; refine (withinC_any _ _ _ _).mono ?_; rintro e w' ⟨rfl, rfl⟩)
      go_ret
      exact ⟨rfl, HGA.out⟩
    | true =>
      cases s with
      | true =>
        cases h3 : (v == 0) with
        | false =>
          obtain rfl : B = false := by rw [← HB.out]; simp [ceB, h1, h2, h3]
          clear HB
          go_wp2_with (go_at_call 101; refine (withinC_any _ _ _ _).mono ?_; rintro e w' ⟨rfl, rfl⟩)
          go_ret
          exact ⟨rfl, HGA.out⟩
        | true =>
          cases h4 : withinB t 0 r with
          | false =>
            obtain rfl : B = false := by rw [← HB.out]; simp [ceB, h1, h2, h3, h4]
            clear HB
            go_wp2_with (go_at_call 101; refine (withinC_any _ _ _ _).mono ?_; rintro e w' ⟨rfl, rfl⟩)
            go_ret
            exact ⟨rfl, HGA.out⟩
          | true =>
            obtain rfl : B = withinB l 0 c := by rw [← HB.out]; simp [ceB, h1, h2, h3, h4]
            clear HB
            go_wp2_with (go_at_call 101; refine (withinC_any _ _ _ _).mono ?_; rintro e w' ⟨rfl, rfl⟩)
            go_ret
            exact ⟨rfl, HGA.out⟩
      | false =>
        cases h3 : withinB v (-1000000) 1000000 with
        | false =>
          obtain rfl : B = false := by rw [← HB.out]; simp [ceB, h1, h2, h3]
          clear HB
          go_wp2_with (go_at_call 101; refine (withinC_any _ _ _ _).mono ?_; rintro e w' ⟨rfl, rfl⟩)
          go_ret
          exact ⟨rfl, HGA.out⟩
        | true =>
          cases h4 : (t == 0) with
          | false =>
            obtain rfl : B = false := by rw [← HB.out]; simp [ceB, h1, h2, h3, h4]
            clear HB
            go_wp2_with (go_at_call 101; refine (withinC_any _ _ _ _).mono ?_; rintro e w' ⟨rfl, rfl⟩)
            go_ret
            exact ⟨rfl, HGA.out⟩
          | true =>
            obtain rfl : B = (l == 0) := by rw [← HB.out]; simp [ceB, h1, h2, h3, h4]
            clear HB
            go_wp2_with (go_at_call 101; refine (withinC_any _ _ _ _).mono ?_; rintro e w' ⟨rfl, rfl⟩)
            go_ret
            exact ⟨rfl, HGA.out⟩
end
section
open Go Go.RowKit Go.Shelf
attribute [local go_sem] gAt gUpon
attribute [local simp] Gr.refl Gr.alloc

theorem allc_cell (x : Ce) (bf : Nat) (w : World) (h : w.cell? ⟨bf, 0, none⟩ = some (.func (.func 62) #[] #[])) :
    Calls Tryz.prog 137 #[.agg #[.int .i64 x.row, .int .i64 x.col, .bool x.sum, .int .i64 x.value, .int .i64 x.top, .int .i64 x.left], .pointer (some ⟨bf, 0, none⟩)] w fun e w' => e = .returned (.bool (!ceB x)) ∧ Gr w w' := by
  have HI := Lib.hid (fun y => isCell_any x y)
  generalize ceB x = b at HI ⊢
  have hbl : bf < w.heap.size := World.block_lt_of_cell? w _ h
  go_enter Tryz.func137, Tryz.ntmps137
  go_wp2_with fail
  refine (HI.out _).mono ?_
  rintro e w1 ⟨rfl, hg⟩
  have HG := Lib.hid ((Gr.alloc w _).trans hg)
  clear hg HI h
  go_wp2_with fail
  go_ret
  exact ⟨rfl, HG.out⟩
theorem idx_cell (v : Value) (l : List Ce) (bf : Nat) (w : World) (hv : Rws 6 ceC v l w) (hl : l.length ≤ 9223372036854775806) (h : w.cell? ⟨bf, 0, none⟩ = some (.func (.func 62) #[] #[])) :
    Calls Tryz.prog 49 #[v, .func (.func 137) #[] #[.pointer (some ⟨bf, 0, none⟩)]] w fun e w' => ∃ z : Int, e = .returned (.int .i64 z) ∧ decide (0 ≤ z) = !(l.all ceB) ∧ Gr w w' := by
  obtain ⟨p, c, rfl⟩ := hv.shape
  have HV := Lib.hid hv
  have HH := Lib.hid h
  have H0 := Lib.hid (Gr.refl w)
  clear hv h
  go_enter Tryz.func49, Tryz.ntmps49
  go_wp2_with fail
  go_loopw [8] (fun v8 W => ∃ k : Nat, k ≤ l.length ∧ v8 = .int .i64 (k : Int) ∧ Hid (Gr w W) ∧ Hid ((l.take k).all ceB = true)) (fun v8 _ => l.length - (intOf v8).toNat)
  case atStart => exact ⟨0, Nat.zero_le _, rfl, H0, Lib.hid rfl⟩
  case round =>
    obtain ⟨k, hk, rfl, HG, HA⟩ := hrel
    by_cases hlt : k < l.length
    · have tk : decide (k < l.length) = true := decide_eq_true hlt
      obtain ⟨x, hx⟩ : ∃ x, l[k]? = some x := ⟨_, List.getElem?_eq_getElem hlt⟩
      obtain ⟨g, off, rfl, hlc, hc⟩ := (HV.out.gr HG.out).at_ hx
      have c0 := hc 0 _ rfl
      have c1 := hc 1 _ rfl
      have c2 := hc 2 _ rfl
      have c3 := hc 3 _ rfl
      have c4 := hc 4 _ rfl
      have c5 := hc 5 _ rfl
      rw [Nat.add_zero] at c0
      rw [← Nat.add_assoc] at c1 c2 c3 c4 c5
      have HC := Lib.hid (fun y (hg : Gr wr y) => allc_cell x bf y ((HG.out.trans hg).cell HH.out))
      have hst : (l.take (k + 1)).all ceB = ceB x := by
        rw [List.take_add_one, hx, Option.toList_some, List.all_append, HA.out]; simp
      have HSt := Lib.hid hst
      have Hx := Lib.hid hx
      clear hc hx hst
      obtain ⟨r, c', s', v', t', l'⟩ := x
      simp only at c0 c1 c2 c3 c4 c5 HC
      obtain ⟨b, hb⟩ : ∃ b, ceB ⟨r, c', s', v', t', l'⟩ = b := ⟨_, rfl⟩
      rw [hb] at HC HSt
      have Hb := Lib.hid hb
      clear hb
      go_wp2_with fail
      refine (HC.out _ (by first | exact Gr.refl _ | exact Gr.drew _)).mono ?_
      rintro e w1 ⟨rfl, hg⟩
      have HG1 := Lib.hid (HG.out.trans hg)
      clear hg HC c0 c1 c2 c3 c4 c5
      cases b with
      | true =>
        have H1 : Hid ((l.take (k + 1)).all ceB = true) := HSt
        clear HSt HA
        go_wp2_with fail
        go_roundw
        case rel => exact ⟨k + 1, by omega, by go_num, HG1, H1⟩
        case measure => simp [intOf]; omega
      | false =>
        have HE : Hid (l.all ceB = false) := Lib.hid (by
          rw [Bool.eq_false_iff]
          intro h
          have := List.all_eq_true.1 h _ (List.mem_of_getElem? Hx.out)
          rw [Hb.out] at this; cases this)
        clear HSt HA
        go_wp2_with fail
        go_ret
        exact ⟨_, rfl, by rw [HE.out]; exact decide_eq_true (by omega), HG1.out⟩
    · have tk : decide (k < l.length) = false := decide_eq_false hlt
      have HE : Hid (l.all ceB = true) := Lib.hid (by have := HA.out; rwa [List.take_of_length_le (by omega)] at this)
      go_wp2_with fail
      go_ret
      exact ⟨_, rfl, by rw [HE.out]; rfl, HG.out⟩
theorem contains_cell (v : Value) (l : List Ce) (bf : Nat) (w : World) (hv : Rws 6 ceC v l w) (hl : l.length ≤ 9223372036854775806) (h : w.cell? ⟨bf, 0, none⟩ = some (.func (.func 62) #[] #[])) :
    Calls Tryz.prog 136 #[v, .func (.func 137) #[] #[.pointer (some ⟨bf, 0, none⟩)]] w fun e w' => e = .returned (.bool (!(l.all ceB))) ∧ Gr w w' := by
  have HI := Lib.hid (idx_cell v l bf w hv hl h)
  clear hv h
  go_enter Tryz.func136, Tryz.ntmps136
  go_wp2_with fail
  refine HI.out.mono ?_
  rintro e w1 ⟨z, rfl, hz, hg⟩
  have HG := Lib.hid hg
  have HZ := Lib.hid hz
  clear hg HI hz
  go_wp2_with fail
  go_ret
  exact ⟨by rw [← HZ.out]; rfl, HG.out⟩
theorem all_cell (v : Value) (l : List Ce) (w : World) (hv : Rws 6 ceC v l w) (hl : l.length ≤ 9223372036854775806) :
    Calls Tryz.prog 61 #[v, .func (.func 62) #[] #[]] w fun e w' => e = .returned (.bool (l.all ceB)) ∧ Gr w w' := by
  have hc : ∀ t, (w.alloc (.cells #[.func (.func 62) #[] #[]] t)).cell? ⟨w.heap.size, 0, none⟩ = some (.func (.func 62) #[] #[]) := fun t => by rw [cell_of_row _ _ _ _ _ _ (heap_alloc_new w _)]; rfl
  have HC := Lib.hid (fun t => contains_cell v l w.heap.size _ (hv.gr (Gr.alloc w (.cells #[.func (.func 62) #[] #[]] t))) hl (hc t))
  clear hv hc
  generalize l.all ceB = b at HC ⊢
  go_enter Tryz.func61, Tryz.ntmps61
  go_wp2_with fail
  refine (HC.out _).mono ?_
  rintro e w1 ⟨rfl, hg⟩
  have HG := Lib.hid ((Gr.alloc w _).trans hg)
  clear hg HC
  go_wp2_with fail
  go_ret
  exact ⟨rfl, HG.out⟩
end
end Go.Proofs.YtaoggehdkddgeaaGreatDoor
end
