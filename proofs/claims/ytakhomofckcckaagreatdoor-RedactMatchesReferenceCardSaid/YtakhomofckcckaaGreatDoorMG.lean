/- The contracts of content's checks of a line. -/
import Derived.Test.YtakhomofckcckaaGreatDoorRoot
namespace Go.Proofs.YtakhomofckcckaaGreatDoor
section
open Go Go.RowKit Go.Shelf
attribute [local go_sem] gAt gUpon
attribute [local simp] Gr.refl Gr.alloc

def withinB (n lo hi : Int) : Bool := decide (lo ≤ n) && decide (n ≤ hi)
theorem within_any (n lo hi : Int) (w : World) : Calls Tryz.prog 102 #[.int .i64 n, .int .i64 lo, .int .i64 hi] w fun e w' => e = .returned (.bool (withinB n lo hi)) ∧ w = w' := by
  by_cases h : lo ≤ n
  · have t1 : decide (lo ≤ n) = true := decide_eq_true h
    have e : withinB n lo hi = decide (n ≤ hi) := by unfold withinB; rw [t1]; simp
    rw [e]
    clear e h
    go_enter Tryz.func102, Tryz.ntmps102
    go_wp2
    go_ret
    exact ⟨rfl, rfl⟩
  · have t1 : decide (lo ≤ n) = false := decide_eq_false h
    have e : withinB n lo hi = false := by unfold withinB; rw [t1]; simp
    rw [e]
    clear e h
    go_enter Tryz.func102, Tryz.ntmps102
    go_wp2
    go_ret
    exact ⟨rfl, rfl⟩
/-- a letter that a line may not hold -/
def otherR (r : Nat) : Bool := decide (r < 32) || decide (126 < r)
theorem other_gives (r : Nat) (hr : r ≤ 1114111) (W : World) : FnGives Tryz.prog 100 #[] #[encR r] (.bool (otherR r)) W := by
  unfold FnGives encR
  by_cases h : r < 32
  · have t1 : decide ((r : Int) < 32) = true := decide_eq_true (by omega)
    have t1' : decide (r < 32) = true := decide_eq_true h
    have e : otherR r = true := by unfold otherR; rw [t1']; rfl
    rw [e]
    clear e h
    go_enter Tryz.func100, Tryz.ntmps100
    go_wp2
    go_ret
    exact ⟨rfl, 0, rfl⟩
  · have t1 : decide ((r : Int) < 32) = false := decide_eq_false (by omega)
    have t1' : decide (r < 32) = false := decide_eq_false h
    have e : otherR r = decide (126 < r) := by unfold otherR; rw [t1']; rfl
    rw [e]
    have e2 : decide (126 < (r : Int)) = decide (126 < r) := decide_eq_decide.2 (by omega)
    have E2 := Lib.hid e2
    clear e h e2
    go_enter Tryz.func100, Tryz.ntmps100
    go_wp2
    go_ret
    exact ⟨by rw [← E2.out]; rfl, 0, rfl⟩
/-- a line that a document may hold -/
def lineB (t : ByteArray) (m : Int) : Bool := decide (t.size ≤ 80) && (decide (Lib.idxFunc otherR true t < 0) && withinB m 0 7)
theorem isLine_any (t : ByteArray) (m : Int) (w : World) : Calls Tryz.prog 61 #[.agg #[.string t, .int .i64 m]] w fun e w' => e = .returned (.bool (lineB t m)) ∧ Gr w w' := by
  have HI := Lib.hid (fun x => Tryz.strings_IndexFunc_runes 100 #[] (enters_of Tryz.func100 (by kernel_rfl) rfl) otherR t x (fun W r hr _ => other_gives r hr W))
  have HW := Lib.hid (fun x => within_any m 0 7 x)
  unfold lineB
  generalize withinB m 0 7 = b at HW ⊢
  generalize Lib.idxFunc otherR true t = z at HI ⊢
  by_cases h1 : t.size ≤ 80
  · have t1 : decide (t.size ≤ 80) = true := decide_eq_true h1
    have t1' : decide ((t.size : Int) ≤ 80) = true := decide_eq_true (by omega)
    rw [t1]
    by_cases h2 : z < 0
    · have t2 : decide (z < 0) = true := decide_eq_true h2
      rw [t2]
      clear h1 h2
      go_enter Tryz.func61, Tryz.ntmps61
      go_upto_region 1 with fail
      refine wp_gen (F := fun y => Gr w y ∧ y.heap[w.heap.size]? = some (.cells #[.string t, .int .i64 m] 33 (0, 0))) ⟨Gr.alloc _ _, heap_alloc_new _ _⟩ ?_
      rintro wA ⟨hgA, hrA⟩
      have c0 : wA.cell? ⟨w.heap.size, 0, none⟩ = some (.string t) := by rw [cell_of_row _ _ _ _ _ _ hrA]; rfl
      have HGA := Lib.hid hgA
      have HRA := Lib.hid hrA
      clear hgA hrA
      go_wp2_with fail
      refine (HI.out _).mono ?_
      rintro e wB ⟨rfl, hb⟩
      have hgB : Gr wA wB := hb
      have c1 : wB.cell? ⟨w.heap.size, 1, none⟩ = some (.int .i64 m) := by rw [cell_of_row _ _ _ _ _ _ (hgB.block HRA.out)]; rfl
      have HGB := Lib.hid (HGA.out.trans hgB)
      clear hb hgB HI
      go_wp2_with fail
      refine (HW.out _).mono ?_
      rintro e wC ⟨rfl, rfl⟩
      clear HW
      go_wp2_with fail
      go_ret
      exact ⟨rfl, HGB.out⟩
    · have t2 : decide (z < 0) = false := decide_eq_false h2
      rw [t2]
      clear h1 h2
      go_enter Tryz.func61, Tryz.ntmps61
      go_upto_region 1 with fail
      refine wp_gen (F := fun y => Gr w y ∧ y.heap[w.heap.size]? = some (.cells #[.string t, .int .i64 m] 33 (0, 0))) ⟨Gr.alloc _ _, heap_alloc_new _ _⟩ ?_
      rintro wA ⟨hgA, hrA⟩
      have c0 : wA.cell? ⟨w.heap.size, 0, none⟩ = some (.string t) := by rw [cell_of_row _ _ _ _ _ _ hrA]; rfl
      have HGA := Lib.hid hgA
      clear hgA hrA
      go_wp2_with fail
      refine (HI.out _).mono ?_
      rintro e wB ⟨rfl, hb⟩
      have HGB := Lib.hid (HGA.out.trans (show Gr wA wB from hb))
      clear hb HI
      go_wp2_with fail
      go_ret
      exact ⟨rfl, HGB.out⟩
  · have t1 : decide (t.size ≤ 80) = false := decide_eq_false h1
    have t1' : decide ((t.size : Int) ≤ 80) = false := decide_eq_false (by omega)
    rw [t1]
    clear h1
    have hrow := heap_alloc_new w (.cells #[.string t, .int .i64 m] 33)
    go_enter Tryz.func61, Tryz.ntmps61
    go_upto_region 1 with fail
    refine wp_gen (F := fun y => Gr w y ∧ y.heap[w.heap.size]? = some (.cells #[.string t, .int .i64 m] 33 (0, 0))) ⟨Gr.alloc _ _, hrow⟩ ?_
    rintro wA ⟨hgA, hrA⟩
    have c0 : wA.cell? ⟨w.heap.size, 0, none⟩ = some (.string t) := by rw [cell_of_row _ _ _ _ _ _ hrA]; rfl
    have HGA := Lib.hid hgA
    clear hgA hrA hrow HI HW
    go_wp2_with fail
    go_ret
    exact ⟨rfl, HGA.out⟩
end
section
open Go Go.RowKit Go.Shelf
attribute [local go_sem] gAt gUpon
attribute [local simp] Gr.refl Gr.alloc

/-- v is a slice whose elements lie in s cells each, as enc says -/
def Rws {α : Type} (s : Nat) (enc : α → List Value) (v : Value) (l : List α) (w : World) : Prop :=
  (l = [] ∧ ∃ p c, v = .slice p 0 c) ∨ ∃ g off cap, v = .slice (some ⟨g, off, none⟩) l.length cap ∧ l.length ≤ cap ∧ ∀ (i : Nat) x (j : Nat) u, l[i]? = some x → (enc x)[j]? = some u → w.cell? ⟨g, off + (i * s + j), none⟩ = some u
theorem Rws.gr {α : Type} {s : Nat} {enc : α → List Value} {v : Value} {l : List α} {w x : World} (h : Rws s enc v l w) (hg : Gr w x) : Rws s enc v l x := by
  rcases h with h | ⟨g, off, cap, rfl, h1, h2⟩
  · exact .inl h
  · exact .inr ⟨g, off, cap, rfl, h1, fun i x j u hx hu => hg.cell (h2 i x j u hx hu)⟩
theorem Rws.shape {α : Type} {s : Nat} {enc : α → List Value} {v : Value} {l : List α} {w : World} (h : Rws s enc v l w) : ∃ p c, v = .slice p l.length c := by
  rcases h with ⟨rfl, p, c, rfl⟩ | ⟨g, off, cap, rfl, _⟩
  · exact ⟨p, c, rfl⟩
  · exact ⟨_, cap, rfl⟩
theorem Rws.at_ {α : Type} {s : Nat} {enc : α → List Value} {p : Option Addr} {c i : Nat} {l : List α} {w : World} {x : α} (h : Rws s enc (.slice p l.length c) l w) (hx : l[i]? = some x) :
    ∃ g off, p = some ⟨g, off, none⟩ ∧ l.length ≤ c ∧ ∀ (j : Nat) u, (enc x)[j]? = some u → w.cell? ⟨g, off + (i * s + j), none⟩ = some u := by
  have hlt := (List.getElem?_eq_some_iff.1 hx).1
  rcases h with ⟨rfl, _⟩ | ⟨g, off, cap, he, h1, h2⟩
  · simp at hlt
  · injection he with e1 e2 e3
    subst e1 e3
    exact ⟨g, off, rfl, h1, fun j u hu => h2 i x j u hx hu⟩
/-- a line's cells -/
abbrev Ln := ByteArray × Int
def lnC (x : Ln) : List Value := [.string x.1, .int .i64 x.2]
def lnB (x : Ln) : Bool := lineB x.1 x.2
theorem allc_line (x : Ln) (bf : Nat) (w : World) (h : w.cell? ⟨bf, 0, none⟩ = some (.func (.func 61) #[] #[])) :
    Calls Tryz.prog 99 #[.agg #[.string x.1, .int .i64 x.2], .pointer (some ⟨bf, 0, none⟩)] w fun e w' => e = .returned (.bool (!lnB x)) ∧ Gr w w' := by
  have HI := Lib.hid (fun y => isLine_any x.1 x.2 y)
  obtain ⟨t, m⟩ := x
  unfold lnB
  simp only at HI ⊢
  generalize lineB t m = b at HI ⊢
  have hbl : bf < w.heap.size := World.block_lt_of_cell? w _ h
  go_enter Tryz.func99, Tryz.ntmps99
  go_wp2_with fail
  refine (HI.out _).mono ?_
  rintro e w1 ⟨rfl, hg⟩
  have HG := Lib.hid ((Gr.alloc w _).trans hg)
  clear hg HI h
  go_wp2_with fail
  go_ret
  exact ⟨rfl, HG.out⟩
theorem idx_line (v : Value) (l : List Ln) (bf : Nat) (w : World) (hv : Rws 2 lnC v l w) (hl : l.length ≤ 9223372036854775806) (h : w.cell? ⟨bf, 0, none⟩ = some (.func (.func 61) #[] #[])) :
    Calls Tryz.prog 122 #[v, .func (.func 99) #[] #[.pointer (some ⟨bf, 0, none⟩)]] w fun e w' => ∃ z : Int, e = .returned (.int .i64 z) ∧ decide (0 ≤ z) = !(l.all lnB) ∧ Gr w w' := by
  obtain ⟨p, c, rfl⟩ := hv.shape
  have HV := Lib.hid hv
  have HH := Lib.hid h
  have H0 := Lib.hid (Gr.refl w)
  clear hv h
  go_enter Tryz.func122, Tryz.ntmps122
  go_wp2_with fail
  go_loopw [8] (fun v8 W => ∃ k : Nat, k ≤ l.length ∧ v8 = .int .i64 (k : Int) ∧ Hid (Gr w W) ∧ Hid ((l.take k).all lnB = true)) (fun v8 _ => l.length - (intOf v8).toNat)
  case atStart => exact ⟨0, Nat.zero_le _, rfl, H0, Lib.hid rfl⟩
  case round =>
    obtain ⟨k, hk, rfl, HG, HA⟩ := hrel
    by_cases hlt : k < l.length
    · have tk : decide (k < l.length) = true := decide_eq_true hlt
      obtain ⟨x, hx⟩ : ∃ x, l[k]? = some x := ⟨_, List.getElem?_eq_getElem hlt⟩
      obtain ⟨g, off, rfl, hlc, hc⟩ := (HV.out.gr HG.out).at_ hx
      have c0 := hc 0 _ rfl
      have c1 := hc 1 _ rfl
      rw [Nat.add_zero] at c0
      rw [← Nat.add_assoc] at c1
      have HC := Lib.hid (fun y (hg : Gr wr y) => allc_line x bf y ((HG.out.trans hg).cell HH.out))
      have hst : (l.take (k + 1)).all lnB = lnB x := by
        rw [List.take_add_one, hx, Option.toList_some, List.all_append, HA.out]; simp
      have HSt := Lib.hid hst
      have Hx := Lib.hid hx
      clear hc hx hst
      obtain ⟨t, m⟩ := x
      simp only at c0 c1 HC
      go_wp2_with fail
      refine (HC.out _ (by first | exact Gr.refl _ | exact Gr.drew _)).mono ?_
      rintro e w1 ⟨rfl, hg⟩
      have HG1 := Lib.hid (HG.out.trans hg)
      clear hg HC c0 c1
      cases hb : lnB (t, m) with
      | true =>
        rw [hb] at HSt
        have H1 : Hid ((l.take (k + 1)).all lnB = true) := HSt
        clear hb HSt HA
        go_wp2_with fail
        go_roundw
        case rel => exact ⟨k + 1, by omega, by go_num, HG1, H1⟩
        case measure => simp [intOf]; omega
      | false =>
        have HE : Hid (l.all lnB = false) := Lib.hid (by
          rw [Bool.eq_false_iff]
          intro h
          have := List.all_eq_true.1 h _ (List.mem_of_getElem? Hx.out)
          rw [hb] at this; cases this)
        clear hb HSt HA
        go_wp2_with fail
        go_ret
        exact ⟨_, rfl, by rw [HE.out]; exact decide_eq_true (by omega), HG1.out⟩
    · have tk : decide (k < l.length) = false := decide_eq_false hlt
      have HE : Hid (l.all lnB = true) := Lib.hid (by have := HA.out; rwa [List.take_of_length_le (by omega)] at this)
      go_wp2_with fail
      go_ret
      exact ⟨_, rfl, by rw [HE.out]; rfl, HG.out⟩
theorem contains_line (v : Value) (l : List Ln) (bf : Nat) (w : World) (hv : Rws 2 lnC v l w) (hl : l.length ≤ 9223372036854775806) (h : w.cell? ⟨bf, 0, none⟩ = some (.func (.func 61) #[] #[])) :
    Calls Tryz.prog 98 #[v, .func (.func 99) #[] #[.pointer (some ⟨bf, 0, none⟩)]] w fun e w' => e = .returned (.bool (!(l.all lnB))) ∧ Gr w w' := by
  have HI := Lib.hid (idx_line v l bf w hv hl h)
  clear hv h
  go_enter Tryz.func98, Tryz.ntmps98
  go_wp2_with fail
  refine HI.out.mono ?_
  rintro e w1 ⟨z, rfl, hz, hg⟩
  have HG := Lib.hid hg
  have HZ := Lib.hid hz
  clear hg HI hz
  go_wp2_with fail
  go_ret
  exact ⟨by rw [← HZ.out]; rfl, HG.out⟩
theorem all_line (v : Value) (l : List Ln) (w : World) (hv : Rws 2 lnC v l w) (hl : l.length ≤ 9223372036854775806) :
    Calls Tryz.prog 60 #[v, .func (.func 61) #[] #[]] w fun e w' => e = .returned (.bool (l.all lnB)) ∧ Gr w w' := by
  have hc : ∀ t, (w.alloc (.cells #[.func (.func 61) #[] #[]] t)).cell? ⟨w.heap.size, 0, none⟩ = some (.func (.func 61) #[] #[]) := fun t => by rw [cell_of_row _ _ _ _ _ _ (heap_alloc_new w _)]; rfl
  have HC := Lib.hid (fun t => contains_line v l w.heap.size _ (hv.gr (Gr.alloc w (.cells #[.func (.func 61) #[] #[]] t))) hl (hc t))
  clear hv hc
  generalize l.all lnB = b at HC ⊢
  go_enter Tryz.func60, Tryz.ntmps60
  go_wp2_with fail
  refine (HC.out _).mono ?_
  rintro e w1 ⟨rfl, hg⟩
  have HG := Lib.hid ((Gr.alloc w _).trans hg)
  clear hg HC
  go_wp2_with fail
  go_ret
  exact ⟨rfl, HG.out⟩
end
end Go.Proofs.YtakhomofckcckaaGreatDoor
