/- The root of leaves, and Check. -/
import Derived.Test.YtakhomofckcckaaGreatDoorMM
namespace Go.Proofs.YtakhomofckcckaaGreatDoor
section
open Go Go.RowKit Go.Shelf
attribute [local go_sem] gAt gUpon
attribute [local simp] Gr.refl Gr.alloc

theorem strs_of_row {W : World} {base : Nat} {e : TypeId} {v : Value} {L : List ByteArray} (h : W.ownsRow base e 1 v L.length (L.map Value.string)) : StrsAt v L W := by
  rcases h.2 with ⟨h1, h2⟩ | ⟨g, c, cur, rfl, _, hg, h3, h4, _, ht⟩
  · exact .inl ⟨h1, List.eq_nil_of_length_eq_zero h2⟩
  · refine .inr ⟨g, 0, c, rfl, h3, h4, fun j x hj => ?_⟩
    rw [cell_of_row _ _ _ _ _ _ hg]
    have hu : (L.map Value.string)[j]? = some (.string x) := by rw [List.getElem?_map, hj]; rfl
    rw [← ht] at hu
    have hl := (List.getElem?_eq_some_iff.1 hu).1
    rw [List.getElem?_take_of_lt (by rw [List.length_take] at hl; omega)] at hu
    simpa using hu
/-- the root of leaves -/
def rtD (l : List Lf) : ByteArray := if listB l then nodeD (leafD (numB l.length)) (rootD (l.map valueD)) else ⟨#[]⟩
theorem leafB_shown {x : Lf} (h : leafB x = true) (hs : x.shown = true) : x.digest.size = 0 ∧ x.salt.size = 16 ∧ x.text.size ≤ 80 ∧ 0 ≤ x.mark ∧ x.mark ≤ 7 := by
  unfold leafB at h
  rw [if_pos hs] at h
  simp [lnB, lineB, withinB] at h
  obtain ⟨h1, h2, h3, h4, h5, h6⟩ := h
  exact ⟨by rw [h1]; rfl, h2, h3, h5, h6⟩
theorem leafB_small {x : Lf} (h : leafB x = true) : x.salt.size + x.text.size ≤ 140737488354000 := by
  cases hs : x.shown with
  | true => have := leafB_shown h hs; omega
  | false =>
    unfold leafB at h
    rw [if_neg (by rw [hs]; decide)] at h
    rw [Bool.and_eq_true, Bool.and_eq_true, Bool.and_eq_true, decide_eq_true_eq, decide_eq_true_eq, decide_eq_true_eq, decide_eq_true_eq] at h
    have h1 : x.text.size = 0 := by have := isEmpty_iff x.text; rw [h.1] at this; simpa using this.symm
    have h2 : x.salt.size = 0 := by have := isEmpty_iff x.salt; rw [h.2.2.1] at this; simpa using this.symm
    omega
theorem leafB_value {x : Lf} (h : leafB x = true) : (valueD x).size = 32 := by
  unfold valueD
  split
  · exact sha_size _
  · rename_i hs
    unfold leafB at h
    rw [if_neg hs] at h
    simp at h
    exact h.2.2.2
theorem rRoot_any (v : Value) (l : List Lf) (w : World) (hv : Rws 5 lfC v l w) (hl : l.length ≤ 9223372036854775806) (hT : Tab w) :
    Calls Tryz.prog 16 #[v] w fun e w' => e = .returned (.string (rtD l)) ∧ Gr w w' := by
  have HI := Lib.hid (isList_any v l w hv hl)
  cases hb : listB l with
  | false =>
    rw [hb] at HI
    obtain ⟨p, c, rfl⟩ := hv.shape
    rw [show rtD l = ⟨#[]⟩ by unfold rtD; rw [hb]; rfl]
    clear hv hT
    go_enter Tryz.func16, Tryz.ntmps16
    go_wp2_with fail
    refine HI.out.mono ?_
    rintro e w1 ⟨rfl, hg⟩
    go_wp2_with fail
    go_ret
    exact ⟨rfl, hg⟩
  | true =>
    rw [hb] at HI
    have hb' := hb
    unfold listB at hb'
    rw [Bool.and_eq_true, decide_eq_true_eq, List.all_eq_true] at hb'
    obtain ⟨h64, hall⟩ := hb'
    have hf : l.filter leafB = l := List.filter_eq_self.2 hall
    rw [show rtD l = nodeD (leafD (numB l.length)) (rootD (l.map valueD)) by unfold rtD; rw [hb]; rfl]
    obtain ⟨p, c, rfl⟩ := hv.shape
    have HV := Lib.hid hv
    have HT := Lib.hid hT
    have HN := Lib.hid (number_any l.length (by omega))
    have HLf := Lib.hid (fun y (h : Tab y) => leaf_any (numB l.length) y (by have := numB_size l.length; omega) h)
    have HRt := Lib.hid (fun u y (h : StrsAt u (l.map valueD) y) (ht : Tab y) => root_any u (l.map valueD) y h (by rw [List.length_map]; omega) (fun x hx => by obtain ⟨z, hz, rfl⟩ := List.mem_map.1 hx; rw [leafB_value (hall z hz)]; omega) ht)
    have HNd := Lib.hid (fun y (ht : Tab y) => node_any (leafD (numB l.length)) (rootD (l.map valueD)) y (by rw [leafD_size, rootD_size]; omega) ht)
    have HCol := Lib.hid (fun (w0 w1 : World) (hv : Rws 5 lfC (.slice p l.length c) l w0) (ht : Tab w0) (b1 b2 b3 : Nat) (c1 : w0.cell? ⟨b1, 0, none⟩ = some (.slice p l.length c)) (c2 : w0.cell? ⟨b2, 0, none⟩ = some (.func (.func 42) #[] #[])) (c3 : w0.cell? ⟨b3, 0, none⟩ = some (.func (.func 43) #[] #[])) (hg : Gr w0 w1) =>
      collectS_any 74 #[.pointer (some ⟨b1, 0, none⟩), .pointer (some ⟨b2, 0, none⟩), .pointer (some ⟨b3, 0, none⟩)] (enters_of Tryz.func74 (by kernel_rfl) rfl) valueD l l.length (by omega) w0 w1
        (by
          have := thoseS_stops 5 (by decide) 42 43 leafB valueD l (.slice p l.length c) b1 b2 b3 w0 hv (by omega) c1 c2 c3 (enters_of Tryz.func42 (by kernel_rfl) rfl) (enters_of Tryz.func43 (by kernel_rfl) rfl) (fun x W _ _ => isLeaf_any x W)
            (fun x W hx hp hW => value_any x W (ht.gr hW) (fun hs => by have := leafB_shown hp hs; omega) (leafB_small hp))
          rw [hf] at this; exact this) hg)
    clear hv hT hb hall hf
    generalize nodeD (leafD (numB l.length)) (rootD (l.map valueD)) = ND at HNd ⊢
    generalize rootD (l.map valueD) = RT at HRt HNd
    generalize leafD (numB l.length) = LF at HLf HNd
    generalize numB l.length = NB at HN HLf
    go_enter Tryz.func16, Tryz.ntmps16
    go_wp2_with fail
    refine HI.out.mono ?_
    rintro e w1 ⟨rfl, hg⟩
    have HG1 := Lib.hid hg
    clear hg HI
    go_wp2_with fail
    refine (thoseS_any p l.length c _ _ _).mono ?_
    rintro e w2 ⟨rfl, hg2, k1, k2, k3⟩
    have HG2 := Lib.hid (HG1.out.trans hg2)
    have HC := Lib.hid (HCol.out w2 w2 (HV.out.gr HG2.out) (HT.out.gr HG2.out) _ _ _ k1 k2 k3 (Gr.refl _))
    clear hg2 k1 k2 k3 HCol
    go_wp2_with fail
    refine HC.out.mono ?_
    rintro e w3 ⟨u, rfl, hrow, hg3⟩
    have HG3 := Lib.hid (HG2.out.trans (show Gr w2 w3 from hg3))
    have HS := Lib.hid (strs_of_row (L := l.map valueD) (by rw [List.length_map, List.map_map]; exact hrow))
    obtain ⟨pu, cu, he⟩ := HS.out.shape
    rw [List.length_map] at he
    subst he
    clear hg3 hrow HC
    go_wp2_with fail
    refine (HN.out _).mono ?_
    rintro e w4 ⟨rfl, hg4⟩
    have HG4 := Lib.hid (HG3.out.trans hg4)
    have HS4 := Lib.hid (HS.out.gr hg4)
    clear hg4 HN HS
    go_wp2_with fail
    refine (HLf.out _ (HT.out.gr HG4.out)).mono ?_
    rintro e w5 ⟨rfl, hg5⟩
    have HG5 := Lib.hid (HG4.out.trans hg5)
    have HS5 := Lib.hid (HS4.out.gr hg5)
    clear hg5 HLf HS4
    go_wp2_with fail
    refine (HRt.out _ _ HS5.out (HT.out.gr HG5.out)).mono ?_
    rintro e w6 ⟨rfl, hg6⟩
    have HG6 := Lib.hid (HG5.out.trans hg6)
    clear hg6 HRt HS5
    go_wp2_with fail
    refine (HNd.out _ (HT.out.gr HG6.out)).mono ?_
    rintro e w7 ⟨rfl, hg7⟩
    have HG7 := Lib.hid (HG6.out.trans hg7)
    clear hg7 HNd
    go_wp2_with fail
    go_ret
    exact ⟨rfl, HG7.out⟩
end
section
open Go Go.RowKit Go.Shelf
attribute [local go_sem] gAt gUpon
attribute [local simp] Gr.refl Gr.alloc

def chkD (root : ByteArray) (l : List Lf) : Bool := listB l && decide (rtD l = root)
theorem beq_str (a b : ByteArray) : (a.toList == b.toList) = decide (a = b) := by
  by_cases h : a = b
  · subst h; simp
  · rw [decide_eq_false h, beq_eq_false_iff_ne]
    intro e
    apply h
    rw [ByteArray.toList_eq, ByteArray.toList_eq] at e
    exact ByteArray.ext (Array.toList_inj.1 e)
theorem check_any (root : ByteArray) (v : Value) (l : List Lf) (w : World) (hv : Rws 5 lfC v l w) (hl : l.length ≤ 9223372036854775806) (hT : Tab w) :
    Calls Tryz.prog 17 #[.string root, v] w fun e w' => e = .returned (.bool (chkD root l)) ∧ Gr w w' := by
  have HI := Lib.hid (isList_any v l w hv hl)
  have HR := Lib.hid (fun y (hg : Gr w y) => rRoot_any v l y (hv.gr hg) hl (hT.gr hg))
  obtain ⟨p, c, rfl⟩ := hv.shape
  unfold chkD
  generalize rtD l = R at HR ⊢
  generalize listB l = b at HI ⊢
  clear hv hT
  cases b with
  | false =>
    go_enter Tryz.func17, Tryz.ntmps17
    go_wp2_with fail
    refine HI.out.mono ?_
    rintro e w1 ⟨rfl, hg⟩
    go_wp2_with fail
    go_ret
    exact ⟨rfl, hg⟩
  | true =>
    go_enter Tryz.func17, Tryz.ntmps17
    go_wp2_with fail
    refine HI.out.mono ?_
    rintro e w1 ⟨rfl, hg⟩
    have HG1 := Lib.hid hg
    clear hg HI
    go_wp2_with fail
    refine (HR.out _ HG1.out).mono ?_
    rintro e w2 ⟨rfl, hg2⟩
    have HG2 := Lib.hid (HG1.out.trans hg2)
    clear hg2 HR
    go_wp2_with fail
    all_goals (go_ret; refine ⟨?_, HG2.out⟩; simp [*, beq_str])
end
section
open Go Go.RowKit Go.Shelf
attribute [local go_sem] gAt gUpon
attribute [local simp] Gr.refl Gr.alloc

theorem thoseL_any (p : Option Addr) (n c fh fo : Nat) (w : World) :
    Calls Tryz.prog 50 #[.slice p n c, .func (.func fh) #[] #[], .func (.func fo) #[] #[]] w fun e w' => e = .returned (.func (.func 79) #[] #[.pointer (some ⟨w.heap.size, 0, none⟩), .pointer (some ⟨w.heap.size + 1, 0, none⟩), .pointer (some ⟨w.heap.size + 2, 0, none⟩)]) ∧ Gr w w' ∧
      w'.cell? ⟨w.heap.size, 0, none⟩ = some (.slice p n c) ∧ w'.cell? ⟨w.heap.size + 1, 0, none⟩ = some (.func (.func fh) #[] #[]) ∧ w'.cell? ⟨w.heap.size + 2, 0, none⟩ = some (.func (.func fo) #[] #[]) := by
  go_enter Tryz.func50, Tryz.ntmps50
  go_wp2_with fail
  go_ret
  have h12 := two_funcs w (.slice p n c) (.func (.func fh) #[] #[]) 31 80
  have e3 := heap_alloc_new ((w.alloc (.cells #[.slice p n c] 31)).alloc (.cells #[.func (.func fh) #[] #[]] 80)) (.cells #[.func (.func fo) #[] #[]] 90)
  rw [World.size_alloc, World.size_alloc] at e3
  have hga := Gr.alloc ((w.alloc (.cells #[.slice p n c] 31)).alloc (.cells #[.func (.func fh) #[] #[]] 80)) (.cells #[.func (.func fo) #[] #[]] 90)
  exact ⟨rfl, h12.1.trans hga, hga.cell h12.2.1, hga.cell h12.2.2, by rw [cell_of_row _ _ _ _ _ _ e3]; rfl⟩
end
end Go.Proofs.YtakhomofckcckaaGreatDoor
