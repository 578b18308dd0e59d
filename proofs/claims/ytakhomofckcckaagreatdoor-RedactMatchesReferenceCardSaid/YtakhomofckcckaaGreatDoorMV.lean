/- Hiding and the root; the fixed examples, in plain Lean. -/
import Derived.Test.YtakhomofckcckaaGreatDoorMO
namespace Go.Proofs.YtakhomofckcckaaGreatDoor
section
open Go Go.RowKit Go.Shelf

theorem valueD_hidden (d : ByteArray) : valueD ⟨false, ⟨#[]⟩, 0, ⟨#[]⟩, d⟩ = d := rfl
theorem leafB_hidden (d : ByteArray) (h : d.size = 32) : leafB ⟨false, ⟨#[]⟩, 0, ⟨#[]⟩, d⟩ = true := by
  unfold leafB
  rw [if_neg (by simp)]
  simp [h]
theorem hideX_ok (hid : List Int) (i : Nat) (x : Lf) (h : leafB x = true) : leafB (hideX hid i x) = true ∧ valueD (hideX hid i x) = valueD x := by
  unfold hideX
  split
  · exact ⟨leafB_hidden _ (leafB_value h), rfl⟩
  · exact ⟨h, rfl⟩
theorem listB_all {l : List Lf} (h : listB l = true) : l.length ≤ 64 ∧ ∀ x ∈ l, leafB x = true := by
  unfold listB at h
  rw [Bool.and_eq_true, decide_eq_true_eq, List.all_eq_true] at h
  exact h
theorem listB_mk {l : List Lf} (h1 : l.length ≤ 64) (h2 : ∀ x ∈ l, leafB x = true) : listB l = true := by
  unfold listB
  rw [Bool.and_eq_true, decide_eq_true_eq, List.all_eq_true]
  exact ⟨h1, h2⟩
theorem hideD_len {hid : List Int} {l : List Lf} (h : listB l = true) : (hideD hid l).length = l.length := by
  unfold hideD; rw [h]; simp
theorem hideD_get {hid : List Int} {l : List Lf} (h : listB l = true) (i : Nat) : (hideD hid l)[i]? = (l[i]?).map (hideX hid i) := by
  unfold hideD; rw [h]; simp
theorem hideD_list {hid : List Int} {l : List Lf} (h : listB l = true) : listB (hideD hid l) = true := by
  obtain ⟨h1, h2⟩ := listB_all h
  refine listB_mk (by rw [hideD_len h]; exact h1) (fun x hx => ?_)
  obtain ⟨i, hi⟩ := List.getElem?_of_mem hx
  rw [hideD_get h] at hi
  obtain ⟨y, hy, rfl⟩ := Option.map_eq_some_iff.1 hi
  exact (hideX_ok hid i y (h2 y (List.mem_of_getElem? hy))).1
theorem hideD_values {hid : List Int} {l : List Lf} (h : listB l = true) : (hideD hid l).map valueD = l.map valueD := by
  obtain ⟨h1, h2⟩ := listB_all h
  apply List.ext_getElem?
  intro i
  rw [List.getElem?_map, List.getElem?_map, hideD_get h, Option.map_map]
  cases hx : l[i]? with
  | none => rfl
  | some x => exact congrArg some (hideX_ok hid i x (h2 x (List.mem_of_getElem? hx))).2
/-- hiding does not change the root -/
theorem hideD_root {hid : List Int} {l : List Lf} (h : listB l = true) : rtD (hideD hid l) = rtD l := by
  unfold rtD
  rw [hideD_list h, h, hideD_values h, hideD_len h]
theorem leaves_list {secret : ByteArray} {ls : List Ln} (h1 : ls.length ≤ 64) (h2 : ls.all lnB = true) : listB (leavesD secret ls) = true := by
  refine listB_mk (by rw [leavesD_len]; exact h1) (fun x hx => ?_)
  obtain ⟨i, hi⟩ := List.getElem?_of_mem hx
  unfold leavesD at hi
  rw [List.getElem?_mapIdx] at hi
  obtain ⟨y, hy, rfl⟩ := Option.map_eq_some_iff.1 hi
  have hl := (List.getElem?_eq_some_iff.1 hy).1
  have hb := List.all_eq_true.1 h2 y (List.mem_of_getElem? hy)
  unfold leafB mkLf
  rw [if_pos rfl]
  have hs : (saltD secret (i : Int)).size = 16 := by
    unfold saltD
    rw [if_neg (by omega), ByteArray.size_extract, sha_size]; rfl
  simp only [hs]
  rw [show lnB (y.1, y.2) = lnB y from rfl, hb]
  rfl
theorem validB_lines {ls : List Ln} {cs : List Ce} {wd : Int} {bits : ByteArray} (h : validB ls cs wd bits = true) : ls.length ≤ 64 ∧ ls.all lnB = true := by
  unfold validB at h
  simp only [Bool.and_eq_true, decide_eq_true_eq] at h
  exact ⟨h.1, h.2.2.2.1⟩
theorem rtD_size {l : List Lf} (h : listB l = true) : (rtD l).size = 32 := by
  unfold rtD; rw [if_pos h]; exact nodeD_size _ _
def secretS : ByteArray := ⟨#[115, 101, 99, 114, 101, 116]⟩
def l3 : List Lf := leavesD secretS lines3
def c3 : List Lf := hideD [1] l3
def o3 : List Lf := match l3 with
  | x :: r => { x with mark := 1 } :: r
  | [] => []
theorem lines3_valid : validB lines3 [] 0 ⟨#[]⟩ = true := by decide +kernel
theorem bad_valid : validB [(⟨#[]⟩, 8)] [] 0 ⟨#[]⟩ = false := by decide +kernel
theorem l3_list : listB l3 = true := leaves_list (by decide) (by decide +kernel)
theorem c3_check : chkD (rtD l3) c3 = true := by
  unfold chkD c3
  rw [hideD_list l3_list, hideD_root l3_list]; simp
theorem c3_take : chkD (rtD l3) (c3.take 2) = false := by decide +kernel
theorem o3_check : chkD (rtD l3) o3 = false := by decide +kernel
theorem l3_lines : linesD l3 = lines3 := by decide +kernel
theorem c3_lines : linesD c3 = [(⟨#[97]⟩, 0), (⟨#[99]⟩, 0)] := by decide +kernel
theorem salt_x : saltD ⟨#[120]⟩ 0 ≠ saltD ⟨#[120]⟩ 1 := by decide +kernel
theorem c3_one : ∃ d, c3[1]? = some ⟨false, ⟨#[]⟩, 0, ⟨#[]⟩, d⟩ := by
  refine ⟨valueD (mkLf secretS 1 (⟨#[98]⟩, 2)), ?_⟩
  unfold c3
  rw [hideD_get l3_list]
  rfl
theorem hide_nil {l : List Lf} (h : listB l = true) : hideD [] l = l := by
  apply List.ext_getElem?
  intro i
  rw [hideD_get h]
  cases l[i]? <;> simp [hideX]
theorem c3_len : c3.length = 3 := by unfold c3; rw [hideD_len l3_list]; rfl
theorem l3_len : l3.length = 3 := rfl
theorem c3_list : listB c3 = true := hideD_list l3_list
theorem o3_flat : (l3.flatMap lfC).set 2 (.int .i64 1) = o3.flatMap lfC := rfl
theorem o3_len : o3.length = 3 := rfl
end
section
open Go Go.RowKit Go.Shelf
attribute [local go_sem] gAt gUpon
attribute [local simp] Gr.refl Gr.alloc

theorem hide_ok (v : Value) (l : List Lf) (hid : List Int) (u : Value) (w : World) (hv : Rws 5 lfC v l w) (h : listB l = true) (hu : Rws 1 inC u hid w) (hr : ∀ x ∈ hid, -9223372036854775808 ≤ x ∧ x ≤ 9223372036854775807) (hhl : hid.length ≤ 1000) (hT : Tab w) :
    Calls Tryz.prog 19 #[v, u] w fun e w' => ∃ z, e = .returned z ∧ Own w.heap.size 5 z l.length ((hideD hid l).flatMap lfC) w' ∧ Gr w w' := by
  have h1 := (listB_all h).1
  refine (hide_any v u l hid w hv (by omega) hu hr hhl hT).mono ?_
  rintro e w' ⟨z, rfl, ho, hg⟩
  rw [hideD_len h] at ho
  exact ⟨z, rfl, ho, hg⟩
/-- the cells of a list of leaves that one owns -/
theorem own_cells {B g off n cap : Nat} {l : List Lf} {w : World} (h : Own B 5 (.slice (some ⟨g, off, none⟩) n cap) n (l.flatMap lfC) w) (i : Nat) (x : Lf) (hx : l[i]? = some x) :
    w.cell? ⟨g, off + (i * 5 + 0), none⟩ = some (.bool x.shown) ∧ w.cell? ⟨g, off + (i * 5 + 1), none⟩ = some (.string x.text) ∧ w.cell? ⟨g, off + (i * 5 + 2), none⟩ = some (.int .i64 x.mark) ∧ w.cell? ⟨g, off + (i * 5 + 3), none⟩ = some (.string x.salt) ∧ w.cell? ⟨g, off + (i * 5 + 4), none⟩ = some (.string x.digest) := by
  have hk : ∀ j u, (lfC x)[j]? = some u → w.cell? ⟨g, off + (i * 5 + j), none⟩ = some u := fun j u hu => by
    have := rws_get lfC_len l i j x u hx hu
    rcases h.2 with ⟨h1, _⟩ | ⟨g', off', cap', h1, _, _, _, h5, _⟩
    · cases h1
    · injection h1 with h1 _ _
      injection h1 with h1
      injection h1 with e1 e2
      subst e1 e2
      exact h5 _ u this
  exact ⟨hk 0 _ rfl, hk 1 _ rfl, hk 2 _ rfl, hk 3 _ rfl, hk 4 _ rfl⟩
/-- a store of one cell into a slice of one's own -/
theorem Own.put1 {B s g off n cap : Nat} {xs : List Value} {w : World} (h : Own B s (.slice (some ⟨g, off, none⟩) n cap) n xs w) (j : Nat) (hj : j < xs.length) (u : Value) :
    Own B s (.slice (some ⟨g, off, none⟩) n cap) n (xs.set j u) (w.setCell ⟨g, off + j, none⟩ u) := by
  obtain ⟨hl, hr⟩ := h
  rcases hr with ⟨hr, _⟩ | ⟨g', off', cap', he, hB, hc, hm, hx, hw⟩
  · cases hr
  · injection he with he1 _ he2
    injection he1 with he1
    injection he1 with e1 e2
    subst e1 e2 he2
    have hle := Nat.mul_le_mul_right s hc
    have hsome := (hw j (by omega)).1
    refine ⟨by rw [List.length_set]; exact hl, .inr ⟨g, off, cap, rfl, hB, hc, hm, fun i v hi => ?_, fun i hi => ⟨?_, ?_⟩⟩⟩
    · by_cases hij : i = j
      · subst hij
        rw [List.getElem?_set_self hj] at hi
        cases hi
        exact World.cell?_setCells_in g [u] (off + i) w (fun k hk => by obtain rfl : k = 0 := (by simpa using hk); rw [Nat.add_zero]; exact hsome) 0 (by simp)
      · rw [List.getElem?_set_ne (by omega)] at hi
        have := World.cell?_setCells_out g [u] (off + j) w ⟨g, off + i, none⟩ (fun _ _ => by simp; omega)
        exact this.trans (hx i v hi)
    · exact World.isSome_setCells g [u] (off + j) w _ (hw i hi).1
    · have := World.frozen?_setCells g [u] (off + j) w ⟨g, off + i, none⟩
      exact this.trans (hw i hi).2
theorem Rws.take {α : Type} {s : Nat} {enc : α → List Value} {g off n c : Nat} {l : List α} {w : World} (h : Rws s enc (.slice (some ⟨g, off, none⟩) n c) l w) (k : Nat) (hk : k ≤ l.length) : Rws s enc (.slice (some ⟨g, off, none⟩) k c) (l.take k) w := by
  rcases h with ⟨rfl, p, c', he⟩ | ⟨g', off', c', he, h1, h2⟩
  · have : k = 0 := by simpa using hk
    subst this
    exact .inl ⟨rfl, _, _, rfl⟩
  · injection he with he1 he2 he3
    injection he1 with he1
    injection he1 with e1 e2
    subst e1 e2 he2 he3
    refine .inr ⟨g, off, c, by rw [List.length_take, Nat.min_eq_left hk], by rw [List.length_take]; omega, fun i x j u hx hu => ?_⟩
    refine h2 i x j u ?_ hu
    have hlt := (List.getElem?_eq_some_iff.1 hx).1
    rw [List.length_take] at hlt
    rw [List.getElem?_take_of_lt (by omega)] at hx
    exact hx
theorem inC_flat : ∀ l : List Int, (l.map fun x => Value.int .i64 x) = l.flatMap inC
  | [] => rfl
  | x :: l => by rw [List.map_cons, List.flatMap_cons, inC_flat l]; rfl
theorem rows_new {α : Type} {s : Nat} {enc : α → List Value} (hs : ∀ x, (enc x).length = s) (w : World) (l : List α) (t : TypeId) (n : Nat) (hn : n = l.length) : Rws s enc (.slice (some ⟨w.heap.size, 0, none⟩) n n) l (w.alloc (.cells (l.flatMap enc).toArray t)) := by
  subst hn
  refine .inr ⟨w.heap.size, 0, l.length, rfl, Nat.le_refl _, fun i x j u hx hu => ?_⟩
  have h := cells_new_at w (l.flatMap enc) t (i * s + j) u (rws_get hs l i j x u hx hu)
  rw [Addr.add_mid] at h
  exact h
theorem ints_new (w : World) (l : List Int) (n : Nat) (hn : n = l.length) : Rws 1 inC (.slice (some ⟨w.heap.size, 0, none⟩) n n) l (w.alloc (.cells (l.map fun x => Value.int .i64 x).toArray 3)) := by
  subst hn
  refine .inr ⟨w.heap.size, 0, l.length, rfl, Nat.le_refl _, fun i x j u hx hu => ?_⟩
  have h := cells_new_at w (l.map fun x => Value.int .i64 x) 3 (i * 1 + j) u (by
    have := rws_get (s := 1) (enc := inC) (fun _ => rfl) l i j x u hx hu
    rw [inC_flat]
    exact this)
  rw [Addr.add_mid] at h
  exact h
set_option maxRecDepth 100000 in
set_option maxHeartbeats 4000000 in
theorem sane_any (w : World) (hT : Tab w) :
    Calls Tryz.prog 7 #[] w fun e w' => e = .returned (.bool true) ∧ Gr w w' := by
  have HT := Lib.hid hT
  clear hT
  go_enter Tryz.func7, Tryz.ntmps7
  go_wp2_with fail
  refine (lines_any _).mono ?_
  rintro e w1 ⟨rfl, hr1, hg1⟩
  have HG1 := Lib.hid hg1
  have HR1 := Lib.hid hr1
  clear hg1 hr1
  go_wp2_with fail
  refine (leaves_ok _ _ lines3 [] 0 ⟨#[]⟩ secretS w1 ⟨HR1.out, .inl ⟨rfl, none, 0, rfl⟩⟩ lines3_valid (by decide) (HT.out.gr HG1.out)).mono ?_
  rintro e w2 ⟨u2, rfl, ho2, hg2⟩
  obtain ⟨g2, off2, c2, rfl, hB2, hl2, hm2⟩ := ho2.shape (by decide)
  have HG2 := Lib.hid (HG1.out.trans hg2)
  have HO2 : Hid (Own w1.heap.size 5 (.slice (some ⟨g2, off2, none⟩) l3.length c2) l3.length (l3.flatMap lfC) w2) := Lib.hid ho2
  have hlen : lines3.length = 3 := rfl
  rw [hlen] at *
  have hs1 : ∃ s1 : ByteArray, w2.cell? ⟨g2, off2 + (1 * 5 + 3), none⟩ = some (.string s1) ∧ s1.size = 16 := ⟨_, (own_cells (l := l3) ho2 1 (mkLf secretS 1 (⟨#[98]⟩, 2)) rfl).2.2.2.1, by decide +kernel⟩
  obtain ⟨s1, hs1, hs16⟩ := hs1
  have t16 : ((s1.size : Int) != 16) = false := by rw [hs16]; rfl
  have t16' : (s1.size != 16) = false := by rw [hs16]; rfl
  clear ho2 hg2 hlen
  have HW2 : Hid (Rws 5 lfC (.slice (some ⟨g2, off2, none⟩) 3 c2) l3 w2) := Lib.hid (own_rws lfC_len HO2.out)
  have HRoot := Lib.hid (fun y (hg : Gr w2 y) => rRoot_any (.slice (some ⟨g2, off2, none⟩) 3 c2) l3 y (HW2.out.gr hg) (by rw [l3_len]; omega) (HT.out.gr (HG2.out.trans hg)))
  have HC1 := Lib.hid c3_check
  have HC2 := Lib.hid c3_take
  have HC3 := Lib.hid o3_check
  have HSz := Lib.hid (rtD_size l3_list)
  generalize rtD l3 = R at HRoot HC1 HC2 HC3 HSz
  go_wp2_with fail
  refine (HRoot.out _ (Gr.refl _)).mono ?_
  rintro e w3 ⟨rfl, hg3⟩
  have HG3 := Lib.hid (HG2.out.trans hg3)
  have HW3 := Lib.hid (HW2.out.gr hg3)
  have HZ3 : Hid (w2.heap.size ≤ w3.heap.size) := Lib.hid hg3.size
  clear hg3 HRoot hs1 hs16 t16 t16'
  go_wp2_with fail
  refine (hide_ok (.slice (some ⟨g2, off2, none⟩) 3 c2) l3 [1] _ _ (HW3.out.gr (Gr.alloc _ _)) l3_list (ints_new w3 [1] 1 rfl) (by simp) (by simp) (HT.out.gr (HG3.out.trans (Gr.alloc _ _)))).mono ?_
  rintro e w4 ⟨z4, rfl, ho4, hg4⟩
  obtain ⟨g4, off4, c4, rfl, hB4, hl4, hm4⟩ := ho4.shape (by decide)
  have hgA := (Gr.alloc w3 (.cells #[.int .i64 1] 3)).trans hg4
  have HG4 := Lib.hid (HG3.out.trans hgA)
  have HW4 := Lib.hid (HW3.out.gr hgA)
  have HO4 : Hid (Own w3.heap.size 5 (.slice (some ⟨g4, off4, none⟩) 3 c4) 3 (c3.flatMap lfC) w4) := Lib.hid (ho4.mono (by simp))
  have hone := c3_one
  obtain ⟨d4, hone⟩ := hone
  obtain ⟨y0, -, -, y3, -⟩ := own_cells (l := c3) HO4.out 1 _ hone
  simp only at y0 y3
  rw [l3_len] at *
  have HZ4 : Hid (w3.heap.size ≤ w4.heap.size) := Lib.hid hgA.size
  clear ho4 hg4 hgA hone
  go_wp2_with fail
  refine (hide_ok (.slice (some ⟨g2, off2, none⟩) 3 c2) l3 [] (.slice none 0 0) _ HW4.out l3_list (.inl ⟨rfl, none, 0, rfl⟩) (by simp) (by simp) (HT.out.gr HG4.out)).mono ?_
  rintro e w5 ⟨z5, rfl, ho5, hg5⟩
  rw [hide_nil l3_list, l3_len] at ho5
  obtain ⟨g5, off5, c5, rfl, hB5, hl5, hm5⟩ := ho5.shape (by decide)
  have HG5 := Lib.hid (HG4.out.trans hg5)
  have HO5 := Lib.hid ho5
  have HW5 := Lib.hid (HW4.out.gr hg5)
  have HP5 : Hid (Rws 5 lfC (.slice (some ⟨g4, off4, none⟩) 3 c4) c3 w5) := Lib.hid (by
    have h := own_rws (l := c3) lfC_len (by rw [c3_len]; exact HO4.out)
    exact h.gr hg5)
  have h24 : g2 < g5 ∧ g4 < g5 := by
    have a1 := HO2.out.lt (by decide) (g := g2) rfl
    have a2 := HO4.out.lt (by decide) (g := g4) rfl
    have a3 := HZ3.out
    have a4 := HZ4.out
    omega
  have H24 := Lib.hid h24
  obtain ⟨-, -, z2, -, -⟩ := own_cells (l := l3) HO5.out 0 (mkLf secretS 0 (⟨#[97]⟩, 0)) rfl
  have z2 : w5.cell? ⟨g5, off5 + 1 + 1, none⟩ = some (.int .i64 0) := z2
  have f5 : w5.frozen? ⟨g5, off5 + 1 + 1, none⟩ = false := by
    rcases HO5.out.2 with ⟨h, _⟩ | ⟨g', off', cap', he, _, hc, _, _, hw⟩
    · cases h
    · cases he
      exact (hw 2 (by omega)).2
  clear ho5 hg5 y0 y3 h24
  go_upto_region 10 with fail
  have HO6 : Hid (Own w4.heap.size 5 (.slice (some ⟨g5, off5, none⟩) 3 c5) 3 (o3.flatMap lfC) (w5.setCell ⟨g5, off5 + 1 + 1, none⟩ (.int .i64 1))) := Lib.hid (by
    have h := HO5.out.put1 2 (by decide) (.int .i64 1)
    rw [o3_flat] at h
    exact h)
  have hch : Chg (some g5) w5 (w5.setCell ⟨g5, off5 + 1 + 1, none⟩ (.int .i64 1)) := setCells_chg g5 [.int .i64 1] (off5 + 1 + 1) w5
  have HW6 : Hid (Rws 5 lfC (.slice (some ⟨g2, off2, none⟩) 3 c2) l3 (w5.setCell ⟨g5, off5 + 1 + 1, none⟩ (.int .i64 1))) := Lib.hid (HW5.out.chg hch (fun g e1 e2 => by have := H24.out.1; simp only [Value.ownBlock, Option.some.injEq] at e1 e2; omega))
  have HP6 : Hid (Rws 5 lfC (.slice (some ⟨g4, off4, none⟩) 3 c4) c3 (w5.setCell ⟨g5, off5 + 1 + 1, none⟩ (.int .i64 1))) := Lib.hid (HP5.out.chg hch (fun g e1 e2 => by have := H24.out.2; simp only [Value.ownBlock, Option.some.injEq] at e1 e2; omega))
  have HG6 : Hid (Gr w (w5.setCell ⟨g5, off5 + 1 + 1, none⟩ (.int .i64 1))) := Lib.hid (gr_step HG5.out (Gr.refl _) hch (fun g e => by cases e; have := HG4.out.size; omega))
  have HQ6 : Hid (Rws 5 lfC (.slice (some ⟨g5, off5, none⟩) 3 c5) o3 (w5.setCell ⟨g5, off5 + 1 + 1, none⟩ (.int .i64 1))) := Lib.hid (own_rws (l := o3) lfC_len HO6.out)
  clear z2 f5 hch HO5 HO6 HW5 HP5
  generalize w5.setCell ⟨g5, off5 + 1 + 1, none⟩ (.int .i64 1) = w6 at HW6 HP6 HG6 HQ6 ⊢
  clear HG5 HO2 HO4 HW2 HW3 HW4 HG1 HG2 HG3 HG4 HR1
  go_wp2_with fail
  refine (leaves_bad _ _ [(⟨#[]⟩, 8)] [] 0 ⟨#[]⟩ ⟨#[]⟩ _ (doc_one ⟨#[]⟩ 8 w6) (by simp) (by simp) (by omega) (by decide) bad_valid).mono ?_
  rintro e w7 ⟨rfl, hg7⟩
  have hgA := (Gr.alloc w6 (.cells #[.string ⟨#[]⟩, .int .i64 8] 33)).trans hg7
  have HG7 := Lib.hid (HG6.out.trans hgA)
  have HW7 := Lib.hid (HW6.out.gr hgA)
  have HP7 := Lib.hid (HP6.out.gr hgA)
  have HQ7 := Lib.hid (HQ6.out.gr hgA)
  clear hg7 hgA HW6 HP6 HQ6 HG6
  go_wp2_with fail
  refine (rLines_any _ l3 _ HW7.out (by rw [l3_len]; omega)).mono ?_
  rintro e w8 ⟨u8, rfl, hr8, hg8⟩
  rw [l3_lines] at hr8
  have hu8 : Rws 2 lnC u8 lines3 w8 := rws_of_row (s := 2) (enc := lnC) (fun _ => rfl) hr8
  obtain ⟨p8, c8, rfl⟩ := hu8.shape
  have HU8 := Lib.hid hu8
  have HG8 := Lib.hid (HG7.out.trans hg8)
  have HP8 := Lib.hid (HP7.out.gr hg8)
  have HQ8 := Lib.hid (HQ7.out.gr hg8)
  clear hr8 hg8 hu8 HW7 HP7 HQ7 HG7
  go_wp2_with fail
  refine (lines_any _).mono ?_
  rintro e w9 ⟨rfl, hr9, hg9⟩
  have HU9 := Lib.hid (HU8.out.gr hg9)
  have HR9 := Lib.hid hr9
  have HG9 := Lib.hid (HG8.out.trans hg9)
  have HP9 := Lib.hid (HP8.out.gr hg9)
  have HQ9 := Lib.hid (HQ8.out.gr hg9)
  clear hr9 hg9 HU8 HP8 HQ8 HG8
  go_wp2_with fail
  refine (same_ln _ _ lines3 _ HU9.out HR9.out (by decide)).mono ?_
  rintro e w10 ⟨rfl, hg10⟩
  have HG10 := Lib.hid (HG9.out.trans hg10)
  have HP10 := Lib.hid (HP9.out.gr hg10)
  have HQ10 := Lib.hid (HQ9.out.gr hg10)
  clear hg10 HU9 HR9 HP9 HQ9 HG9
  go_wp2_with fail
  refine (rLines_any _ c3 _ HP10.out (by rw [c3_len]; omega)).mono ?_
  rintro e w11 ⟨u11, rfl, hr11, hg11⟩
  rw [c3_lines] at hr11
  have hu11 : Rws 2 lnC u11 [(⟨#[97]⟩, 0), (⟨#[99]⟩, 0)] w11 := rws_of_row (s := 2) (enc := lnC) (fun _ => rfl) hr11
  obtain ⟨p11, c11, rfl⟩ := hu11.shape
  have HU11 := Lib.hid hu11
  have HG11 := Lib.hid (HG10.out.trans hg11)
  have HP11 := Lib.hid (HP10.out.gr hg11)
  have HQ11 := Lib.hid (HQ10.out.gr hg11)
  clear hr11 hg11 hu11 HP10 HQ10 HG10
  have HS0 := Lib.hid (fun y (hT : Tab y) => salt_any ⟨#[120]⟩ 0 y (by decide) hT)
  have HS1 := Lib.hid (fun y (hT : Tab y) => salt_any ⟨#[120]⟩ 1 y (by decide) hT)
  have hAB := salt_x
  generalize saltD ⟨#[120]⟩ 0 = A at HS0 hAB
  generalize saltD ⟨#[120]⟩ 1 = B at HS1 hAB
  have hab : (A.toList == B.toList) = false := by rw [beq_str]; exact decide_eq_false hAB
  have hab' : (A.toList != B.toList) = true := by rw [bne, hab]; rfl
  have hr32 : ((R.size : Int) == 32) = true := by rw [HSz.out]; rfl
  have hr32' : (R.size == 32) = true := by rw [HSz.out]; rfl
  clear hAB
  go_wp2_with fail
  refine (same_ln _ _ [(⟨#[97]⟩, 0), (⟨#[99]⟩, 0)] _ (HU11.out.gr (Gr.alloc _ _)) (rows_new (s := 2) (enc := lnC) (fun _ => rfl) w11 [(⟨#[97]⟩, 0), (⟨#[99]⟩, 0)] 33 2 rfl) (by decide)).mono ?_
  rintro e w12 ⟨rfl, hg12⟩
  have hgA := (Gr.alloc w11 (.cells #[.string ⟨#[97]⟩, .int .i64 0, .string ⟨#[99]⟩, .int .i64 0] 33)).trans hg12
  have HG12 := Lib.hid (HG11.out.trans hgA)
  have HP12 := Lib.hid (HP11.out.gr hgA)
  have HQ12 := Lib.hid (HQ11.out.gr hgA)
  have HCk1 : Hid (∀ y, Gr w12 y → Calls Tryz.prog 17 #[.string R, .slice (some ⟨g4, off4, none⟩) 3 c4] y fun e w' => e = .returned (.bool true) ∧ Gr y w') := Lib.hid (fun y hg => by
    have h := check_any R _ c3 y (HP12.out.gr hg) (by rw [c3_len]; omega) (HT.out.gr (HG12.out.trans hg))
    rw [HC1.out] at h; exact h)
  have HCk2 : Hid (∀ y, Gr w12 y → Calls Tryz.prog 17 #[.string R, .slice (some ⟨g4, off4, none⟩) 2 c4] y fun e w' => e = .returned (.bool false) ∧ Gr y w') := Lib.hid (fun y hg => by
    have h := check_any R _ (c3.take 2) y ((HP12.out.gr hg).take 2 (by rw [c3_len]; omega)) (by rw [List.length_take, c3_len]; omega) (HT.out.gr (HG12.out.trans hg))
    rw [HC2.out] at h; exact h)
  have HCk3 : Hid (∀ y, Gr w12 y → Calls Tryz.prog 17 #[.string R, .slice (some ⟨g5, off5, none⟩) 3 c5] y fun e w' => e = .returned (.bool false) ∧ Gr y w') := Lib.hid (fun y hg => by
    have h := check_any R _ o3 y (HQ12.out.gr hg) (by rw [o3_len]; omega) (HT.out.gr (HG12.out.trans hg))
    rw [HC3.out] at h; exact h)
  clear hg12 hgA HU11 HP11 HQ11 HG11
  go_wp2_with fail
  refine (HCk1.out _ (Gr.refl _)).mono ?_
  rintro e w13 ⟨rfl, hg13⟩
  have HG13 := Lib.hid hg13
  clear hg13 HCk1
  go_wp2_with fail
  refine (HCk2.out _ HG13.out).mono ?_
  rintro e w14 ⟨rfl, hg14⟩
  have HG14 := Lib.hid (HG13.out.trans hg14)
  clear hg14 HCk2
  go_wp2_with fail
  refine (HCk3.out _ HG14.out).mono ?_
  rintro e w15 ⟨rfl, hg15⟩
  have HG15 := Lib.hid (HG14.out.trans hg15)
  clear hg15 HCk3
  go_wp2_with fail
  refine (salt_any ⟨#[]⟩ 64 _ (by decide) (HT.out.gr (HG12.out.trans HG15.out))).mono ?_
  rintro e w16 ⟨rfl, hg16⟩
  have HG16 := Lib.hid (HG15.out.trans hg16)
  rw [show saltD ⟨#[]⟩ 64 = ⟨#[]⟩ from rfl]
  clear hg16
  go_wp2_with fail
  refine (HS0.out _ (HT.out.gr (HG12.out.trans HG16.out))).mono ?_
  rintro e w17 ⟨rfl, hg17⟩
  have HG17 := Lib.hid (HG16.out.trans hg17)
  clear hg17
  go_wp2_with fail
  refine (HS1.out _ (HT.out.gr (HG12.out.trans HG17.out))).mono ?_
  rintro e w18 ⟨rfl, hg18⟩
  have HG18 := Lib.hid (HG17.out.trans hg18)
  clear hg18
  go_wp2_with fail
  go_ret
  exact ⟨rfl, HG12.out.trans HG18.out⟩
end
end Go.Proofs.YtakhomofckcckaaGreatDoor
