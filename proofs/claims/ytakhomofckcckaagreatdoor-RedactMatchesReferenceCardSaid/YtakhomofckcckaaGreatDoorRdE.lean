/- Whether leaves are a list, element by element. -/
import Derived.Test.YtakhomofckcckaaGreatDoorMK
namespace Go.Proofs.YtakhomofckcckaaGreatDoor
open Go Go.RowKit Go.Shelf
attribute [local go_sem] gAt gUpon
attribute [local simp] Gr.refl Gr.alloc

theorem idx_leaf (v : Value) (l : List Lf) (b1 b2 : Nat) (w : World) (hv : Rws 5 lfC v l w) (hl : l.length ≤ 9223372036854775806) (h : w.cell? ⟨b1, 0, none⟩ = some (.func (.func 42) #[] #[]) ∧ w.cell? ⟨b2, 0, none⟩ = some (.func (.func 72) #[] #[])) :
    Calls Tryz.prog 132 #[v, .func (.func 107) #[] #[.pointer (some ⟨b1, 0, none⟩), .pointer (some ⟨b2, 0, none⟩)]] w fun e w' => ∃ z : Int, e = .returned (.int .i64 z) ∧ decide (0 ≤ z) = !(l.all leafB) ∧ Gr w w' := by
  obtain ⟨p, c, rfl⟩ := hv.shape
  have HV := Lib.hid hv
  have HH := Lib.hid h
  have H0 := Lib.hid (Gr.refl w)
  clear hv h
  go_enter Tryz.func132, Tryz.ntmps132
  go_wp2_with fail
  go_loopw [8] (fun v8 W => ∃ k : Nat, k ≤ l.length ∧ v8 = .int .i64 (k : Int) ∧ Hid (Gr w W) ∧ Hid ((l.take k).all leafB = true)) (fun v8 _ => l.length - (intOf v8).toNat)
  case atStart => exact ⟨0, Nat.zero_le _, rfl, H0, Lib.hid rfl⟩
  case round =>
    obtain ⟨k, hk, rfl, HG, HA⟩ := hrel
    by_cases hlt : k < l.length
    · have tk : decide (k < l.length) = true := decide_eq_true hlt
      obtain ⟨x, hx⟩ : ∃ x, l[k]? = some x := ⟨_, List.getElem?_eq_getElem hlt⟩
      obtain ⟨g, off, rfl, hlc, hc⟩ := (HV.out.gr HG.out).at_ hx
      have c0 := hc 0 _ rfl
      have c1 := hc 1 _ rfl
      have c2 := hc 2 _ rfl
      have c3 := hc 3 _ rfl
      have c4 := hc 4 _ rfl
      rw [Nat.add_zero] at c0
      rw [← Nat.add_assoc] at c1 c2 c3 c4
      have HC := Lib.hid (fun y (hg : Gr wr y) => every1_any x b1 b2 y ((HG.out.trans hg).cell HH.out.1) ((HG.out.trans hg).cell HH.out.2))
      have hst : (l.take (k + 1)).all leafB = leafB x := by
        rw [List.take_add_one, hx, Option.toList_some, List.all_append, HA.out]; simp
      have HSt := Lib.hid hst
      have Hx := Lib.hid hx
      clear hc hx hst
      obtain ⟨r, c', s', v', t'⟩ := x
      simp only at c0 c1 c2 c3 c4 HC
      obtain ⟨b, hb⟩ : ∃ b, leafB ⟨r, c', s', v', t'⟩ = b := ⟨_, rfl⟩
      rw [hb] at HC HSt
      have Hb := Lib.hid hb
      clear hb
      go_wp2_with fail
      refine (HC.out _ (by first | exact Gr.refl _ | exact Gr.drew _)).mono ?_
      rintro e w1 ⟨rfl, hg⟩
      have HG1 := Lib.hid (HG.out.trans hg)
      clear hg HC c0 c1 c2 c3 c4
      cases b with
      | true =>
        have H1 : Hid ((l.take (k + 1)).all leafB = true) := HSt
        clear HSt HA
        go_wp2_with fail
        go_roundw
        case rel => exact ⟨k + 1, by omega, by go_num, HG1, H1⟩
        case measure => simp [intOf]; omega
      | false =>
        have HE : Hid (l.all leafB = false) := Lib.hid (by
          rw [Bool.eq_false_iff]
          intro h
          have := List.all_eq_true.1 h _ (List.mem_of_getElem? Hx.out)
          rw [Hb.out] at this; cases this)
        clear HSt HA
        go_wp2_with fail
        go_ret
        exact ⟨_, rfl, by rw [HE.out]; exact decide_eq_true (by omega), HG1.out⟩
    · have tk : decide (k < l.length) = false := decide_eq_false hlt
      have HE : Hid (l.all leafB = true) := Lib.hid (by have := HA.out; rwa [List.take_of_length_le (by omega)] at this)
      go_wp2_with fail
      go_ret
      exact ⟨_, rfl, by rw [HE.out]; rfl, HG.out⟩
theorem contains_leaf (v : Value) (l : List Lf) (b1 b2 : Nat) (w : World) (hv : Rws 5 lfC v l w) (hl : l.length ≤ 9223372036854775806) (h : w.cell? ⟨b1, 0, none⟩ = some (.func (.func 42) #[] #[]) ∧ w.cell? ⟨b2, 0, none⟩ = some (.func (.func 72) #[] #[])) :
    Calls Tryz.prog 106 #[v, .func (.func 107) #[] #[.pointer (some ⟨b1, 0, none⟩), .pointer (some ⟨b2, 0, none⟩)]] w fun e w' => e = .returned (.bool (!(l.all leafB))) ∧ Gr w w' := by
  have HI := Lib.hid (idx_leaf v l b1 b2 w hv hl h)
  clear hv h
  go_enter Tryz.func106, Tryz.ntmps106
  go_wp2_with fail
  refine HI.out.mono ?_
  rintro e w1 ⟨z, rfl, hz, hg⟩
  have HG := Lib.hid hg
  have HZ := Lib.hid hz
  clear hg HI hz
  go_wp2_with fail
  go_ret
  exact ⟨by rw [← HZ.out]; rfl, HG.out⟩
def listB (l : List Lf) : Bool := decide (l.length ≤ 64) && l.all leafB
theorem two_funcs (w : World) (f g : Value) (t t' : TypeId) : Gr w ((w.alloc (.cells #[f] t)).alloc (.cells #[g] t')) ∧ ((w.alloc (.cells #[f] t)).alloc (.cells #[g] t')).cell? ⟨w.heap.size, 0, none⟩ = some f ∧ ((w.alloc (.cells #[f] t)).alloc (.cells #[g] t')).cell? ⟨w.heap.size + 1, 0, none⟩ = some g := by
  have e1 := (Gr.alloc (w.alloc (.cells #[f] t)) (.cells #[g] t')).block (heap_alloc_new w (.cells #[f] t))
  have e2 := heap_alloc_new (w.alloc (.cells #[f] t)) (.cells #[g] t')
  rw [World.size_alloc] at e2
  exact ⟨(Gr.alloc _ _).trans (Gr.alloc _ _), by rw [cell_of_row _ _ _ _ _ _ e1]; rfl, by rw [cell_of_row _ _ _ _ _ _ e2]; rfl⟩
theorem every_any (v : Value) (l : List Lf) (w : World) (hv : Rws 5 lfC v l w) (hl : l.length ≤ 9223372036854775806) :
    Calls Tryz.prog 71 #[v, .func (.func 72) #[] #[], .func (.func 42) #[] #[]] w fun e w' => e = .returned (.bool (l.all leafB)) ∧ Gr w w' := by
  have HC := Lib.hid (fun t t' => contains_leaf v l (w.heap.size + 1) w.heap.size _ (hv.gr (two_funcs w (.func (.func 72) #[] #[]) (.func (.func 42) #[] #[]) t t').1) hl ⟨(two_funcs w _ _ t t').2.2, (two_funcs w _ _ t t').2.1⟩)
  clear hv
  generalize l.all leafB = b at HC ⊢
  go_enter Tryz.func71, Tryz.ntmps71
  go_wp2_with fail
  refine (HC.out _ _).mono ?_
  rintro e w1 ⟨rfl, hg⟩
  have HG := Lib.hid (((Gr.alloc w _).trans (Gr.alloc _ _)).trans hg)
  clear hg HC
  go_wp2_with fail
  go_ret
  exact ⟨rfl, HG.out⟩
theorem isList_any (v : Value) (l : List Lf) (w : World) (hv : Rws 5 lfC v l w) (hl : l.length ≤ 9223372036854775806) :
    Calls Tryz.prog 39 #[v] w fun e w' => e = .returned (.bool (listB l)) ∧ Gr w w' := by
  have HE := Lib.hid (every_any v l w hv hl)
  obtain ⟨p, c, rfl⟩ := hv.shape
  unfold listB
  generalize l.all leafB = b at HE ⊢
  clear hv
  by_cases h : l.length ≤ 64
  · have t1 : decide (l.length ≤ 64) = true := decide_eq_true h
    have t1' : decide ((l.length : Int) ≤ 64) = true := decide_eq_true (by omega)
    rw [t1, Bool.true_and]
    clear h
    go_enter Tryz.func39, Tryz.ntmps39
    go_wp2_with fail
    refine HE.out.mono ?_
    rintro e w1 ⟨rfl, hg⟩
    go_wp2_with fail
    go_ret
    exact ⟨rfl, hg⟩
  · have t1 : decide (l.length ≤ 64) = false := decide_eq_false h
    have t1' : decide ((l.length : Int) ≤ 64) = false := decide_eq_false (by omega)
    rw [t1, Bool.false_and]
    clear h
    go_enter Tryz.func39, Tryz.ntmps39
    go_wp2_with fail
    go_ret
    exact ⟨rfl, Gr.refl _⟩
end Go.Proofs.YtakhomofckcckaaGreatDoor
