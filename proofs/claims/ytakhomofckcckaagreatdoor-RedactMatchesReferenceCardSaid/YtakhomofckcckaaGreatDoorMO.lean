/- Helpers of the statements: Same, SameLines, has, lines, made. -/
import Derived.Test.YtakhomofckcckaaGreatDoorMdB
namespace Go.Proofs.YtakhomofckcckaaGreatDoor
section
open Go Go.RowKit Go.Shelf
attribute [local go_sem] gAt gUpon
attribute [local simp] Gr.refl Gr.alloc

set_option maxRecDepth 100000 in
set_option maxHeartbeats 2000000 in
theorem same_lf (v u : Value) (l : List Lf) (w : World) (hv : Rws 5 lfC v l w) (hu : Rws 5 lfC u l w) (hl : l.length ≤ 1000) :
    Calls Tryz.prog 11 #[v, u] w fun e w' => e = .returned (.bool true) ∧ Gr w w' := by
  obtain ⟨p, c, rfl⟩ := hv.shape
  obtain ⟨p', c', rfl⟩ := hu.shape
  have HV := Lib.hid hv
  have HU := Lib.hid hu
  clear hv hu
  have hne : ((l.length : Int) != (l.length : Int)) = false := by simp
  go_enter Tryz.func11, Tryz.ntmps11
  go_wp2_with fail
  go_loopw [5] (fun v5 W => ∃ k : Nat, k ≤ l.length ∧ v5 = .int .i64 (k : Int) ∧ Hid (Gr w W)) (fun v5 _ => l.length - (intOf v5).toNat)
  case atStart => exact ⟨0, Nat.zero_le _, rfl, Lib.hid (Gr.refl _)⟩
  case round =>
    obtain ⟨k, hk, rfl, HG⟩ := hrel
    by_cases hlt : k < l.length
    · have ht : decide (k < l.length) = true := decide_eq_true hlt
      obtain ⟨x, hx⟩ : ∃ x, l[k]? = some x := ⟨_, List.getElem?_eq_getElem hlt⟩
      obtain ⟨g, off, rfl, hlc, hc⟩ := (HV.out.gr HG.out).at_ hx
      obtain ⟨g', off', rfl, hlc', hc'⟩ := (HU.out.gr HG.out).at_ hx
      obtain ⟨sh, t, m, sl, dg⟩ := x
      have hc0 := hc 0 _ rfl
      have hc1 := hc 1 _ rfl
      have hc2 := hc 2 _ rfl
      have hc3 := hc 3 _ rfl
      have hc4 := hc 4 _ rfl
      rw [Nat.add_zero] at hc0
      rw [← Nat.add_assoc] at hc1 hc2 hc3 hc4
      have kc0 := hc' 0 _ rfl
      have kc1 := hc' 1 _ rfl
      have kc2 := hc' 2 _ rfl
      have kc3 := hc' 3 _ rfl
      have kc4 := hc' 4 _ rfl
      rw [Nat.add_zero] at kc0
      rw [← Nat.add_assoc] at kc1 kc2 kc3 kc4
      simp only at hc0 hc1 hc2 hc3 hc4 kc0 kc1 kc2 kc3 kc4
      clear hc hc' hx HV HU
      go_upto_region 6 with fail
      go_quiet (fail)
      rename_i nq
      have hg5 : Gr wr (wr.drewN nq) := ⟨rfl, rfl, rfl, Nat.le_refl _, fun _ _ => rfl⟩
      generalize wr.drewN nq = w5 at hg5 ⊢
      have HG5 := Lib.hid (HG.out.trans hg5)
      clear hg5 HG hc0 kc0 hc1 kc1 hc2 kc2 hc3 kc3 hc4 kc4
      go_wp2_with fail
      go_roundw
      case rel => exact ⟨k + 1, by omega, by go_num, HG5⟩
      case measure => simp [intOf]; omega
    · have ht : decide (k < l.length) = false := decide_eq_false hlt
      go_wp2_with fail
      go_ret
      exact ⟨rfl, HG.out⟩
set_option maxRecDepth 100000 in
set_option maxHeartbeats 2000000 in
theorem same_ln (v u : Value) (l : List Ln) (w : World) (hv : Rws 2 lnC v l w) (hu : Rws 2 lnC u l w) (hl : l.length ≤ 1000) :
    Calls Tryz.prog 20 #[v, u] w fun e w' => e = .returned (.bool true) ∧ Gr w w' := by
  obtain ⟨p, c, rfl⟩ := hv.shape
  obtain ⟨p', c', rfl⟩ := hu.shape
  have HV := Lib.hid hv
  have HU := Lib.hid hu
  clear hv hu
  have hne : ((l.length : Int) != (l.length : Int)) = false := by simp
  go_enter Tryz.func20, Tryz.ntmps20
  go_wp2_with fail
  go_loopw [5] (fun v5 W => ∃ k : Nat, k ≤ l.length ∧ v5 = .int .i64 (k : Int) ∧ Hid (Gr w W)) (fun v5 _ => l.length - (intOf v5).toNat)
  case atStart => exact ⟨0, Nat.zero_le _, rfl, Lib.hid (Gr.refl _)⟩
  case round =>
    obtain ⟨k, hk, rfl, HG⟩ := hrel
    by_cases hlt : k < l.length
    · have ht : decide (k < l.length) = true := decide_eq_true hlt
      obtain ⟨x, hx⟩ : ∃ x, l[k]? = some x := ⟨_, List.getElem?_eq_getElem hlt⟩
      obtain ⟨g, off, rfl, hlc, hc⟩ := (HV.out.gr HG.out).at_ hx
      obtain ⟨g', off', rfl, hlc', hc'⟩ := (HU.out.gr HG.out).at_ hx
      obtain ⟨t, m⟩ := x
      have hc0 := hc 0 _ rfl
      have hc1 := hc 1 _ rfl
      rw [Nat.add_zero] at hc0
      rw [← Nat.add_assoc] at hc1
      have kc0 := hc' 0 _ rfl
      have kc1 := hc' 1 _ rfl
      rw [Nat.add_zero] at kc0
      rw [← Nat.add_assoc] at kc1
      simp only at hc0 hc1 kc0 kc1
      clear hc hc' hx HV HU
      go_upto_region 6 with fail
      go_quiet (fail)
      rename_i nq
      have hg5 : Gr wr (wr.drewN nq) := ⟨rfl, rfl, rfl, Nat.le_refl _, fun _ _ => rfl⟩
      generalize wr.drewN nq = w5 at hg5 ⊢
      have HG5 := Lib.hid (HG.out.trans hg5)
      clear hg5 HG hc0 kc0 hc1 kc1
      go_wp2_with fail
      go_roundw
      case rel => exact ⟨k + 1, by omega, by go_num, HG5⟩
      case measure => simp [intOf]; omega
    · have ht : decide (k < l.length) = false := decide_eq_false hlt
      go_wp2_with fail
      go_ret
      exact ⟨rfl, HG.out⟩
theorem mem_take {l : List Int} {k : Nat} {x n : Int} (h : l[k]? = some x) : (n ∈ l.take (k + 1)) ↔ (n ∈ l.take k ∨ n = x) := by
  rw [List.take_add_one, h]
  simp
/-- the lines of the chapter's examples -/
def lines3 : List Ln := [(⟨#[97]⟩, 0), (⟨#[98]⟩, 2), (⟨#[99]⟩, 0)]
theorem lines_any (w : World) : Calls Tryz.prog 28 #[] w fun e w' => e = .returned (.slice (some ⟨w.heap.size, 0, none⟩) 3 3) ∧ Rws 2 lnC (.slice (some ⟨w.heap.size, 0, none⟩) 3 3) lines3 w' ∧ Gr w w' := by
  go_enter Tryz.func28, Tryz.ntmps28
  go_wp2_with fail
  go_ret
  refine ⟨rfl, .inr ⟨w.heap.size, 0, 3, rfl, Nat.le_refl _, fun i x j u hx hu => ?_⟩, Gr.alloc _ _⟩
  have h := cells_new_at w (lines3.flatMap lnC) 33 (i * 2 + j) u (rws_get (s := 2) (enc := lnC) (fun _ => rfl) lines3 i j x u hx hu)
  rw [Addr.add_mid] at h
  exact h
/-- a case, as an argument -/
def caseV (v1 v2 : Value) (r0 r1 : Int) (s : ByteArray) : Value := .agg #[v1, v2, .int .i64 r0, .int .i64 r1, .string s]
structure CaseIn (v1 v2 : Value) (r0 r1 : Int) (w : World) : Prop where
  h : ∃ (L1 : List (Int × Int)) (L2 : List (Int × Int × Int)), Rws 2 p2C v1 L1 w ∧ Rws 3 p3C v2 L2 w ∧ L1.length ≤ 9223372036854775807 ∧ L2.length ≤ 9223372036854775807 ∧ (∀ x ∈ L1, I64 x.1 ∧ I64 x.2) ∧ (∀ x ∈ L2, I64 x.1 ∧ I64 x.2.1 ∧ I64 x.2.2)
  r : I64 r0 ∧ I64 r1
theorem CaseIn.gr {v1 v2 : Value} {r0 r1 : Int} {w x : World} (h : CaseIn v1 v2 r0 r1 w) (hg : Gr w x) : CaseIn v1 v2 r0 r1 x := by
  obtain ⟨⟨L1, L2, h1, h2, h3⟩, hr⟩ := h
  exact ⟨⟨L1, L2, h1.gr hg, h2.gr hg, h3⟩, hr⟩
/-- a valid document -/
def DocOk (vL vC : Value) (ls : List Ln) (cs : List Ce) (wd : Int) (bits : ByteArray) (w : World) : Prop := DocIn vL vC ls cs w ∧ validB ls cs wd bits = true ∧ ls.length ≤ 6
def MadeAt (w : World) (e : Ending) (w' : World) : Prop := ∃ vL vC ls cs wd bits, e = .returned (.agg #[vL, vC, .int .i64 wd, .string bits]) ∧ DocOk vL vC ls cs wd bits w' ∧ Gr w w' ∧ (∀ g, vL.ownBlock = some g → w.heap.size ≤ g) ∧ (∀ g, vC.ownBlock = some g → w.heap.size ≤ g)
theorem made6_case {v1 v2 : Value} {r0 r1 : Int} {w : World} (h : CaseIn v1 v2 r0 r1 w) : Calls Tryz.prog 29 #[v1, v2, .agg #[.int .i64 r0, .int .i64 r1]] w (MadeAt w) := by
  obtain ⟨⟨L1, L2, h1, h2, h3, h4, h5, h6⟩, hr⟩ := h
  exact (made6_any v1 v2 L1 L2 r0 r1 w h1 h2 h3 h4 h5 h6 hr).mono fun e w' ⟨vL, vC, ls, cs, wd, bits, he, hd, hv, hl, hg, hf⟩ => ⟨vL, vC, ls, cs, wd, bits, he, ⟨hd, hv, hl⟩, hg, hf⟩
/-- what made hands back -/
def MadeS (w : World) (e : Ending) (w' : World) : Prop := ∃ vL vC ls cs wd bits sc, e = .returned (.tuple #[.agg #[vL, vC, .int .i64 wd, .string bits], .string sc]) ∧ DocOk vL vC ls cs wd bits w' ∧ sc.size ≤ 100 ∧ Gr w w'
end
section
open Go Go.RowKit Go.Shelf
attribute [local go_sem] gAt gUpon
attribute [local simp] Gr.refl Gr.alloc

theorem DocOk.gr {vL vC : Value} {ls : List Ln} {cs : List Ce} {wd : Int} {bits : ByteArray} {w x : World} (h : DocOk vL vC ls cs wd bits w) (hg : Gr w x) : DocOk vL vC ls cs wd bits x := ⟨h.1.gr hg, h.2⟩
def DocV (v : Value) (w : World) : Prop := ∃ vL vC ls cs wd bits, v = .agg #[vL, vC, .int .i64 wd, .string bits] ∧ DocOk vL vC ls cs wd bits w
theorem stb_doc : Stb DocV := fun _ _ _ hg ⟨vL, vC, ls, cs, wd, bits, he, hd⟩ => ⟨vL, vC, ls, cs, wd, bits, he, hd.gr hg⟩
theorem frozen4 {W : World} {g : Nat} {a b c d : Value} {t : TypeId} (h : W.heap[g]? = some (.cells #[a, b, c, d] t (0, 0))) :
    W.frozen? ⟨g, 0, none⟩ = false ∧ W.frozen? ⟨g, 1, none⟩ = false ∧ W.frozen? ⟨g, 2, none⟩ = false ∧ W.frozen? ⟨g, 3, none⟩ = false :=
  ⟨frozen_of_row _ _ _ _ _ h, frozen_of_row _ _ _ _ _ h, frozen_of_row _ _ _ _ _ h, frozen_of_row _ _ _ _ _ h⟩
theorem Rws.chg {α : Type} {s : Nat} {enc : α → List Value} {v : Value} {l : List α} {w x : World} {b : Option Nat} (h : Rws s enc v l w) (hc : Chg b w x) (hb : ∀ g, v.ownBlock = some g → some g ≠ b) : Rws s enc v l x := by
  rcases h with h | ⟨g, off, cap, rfl, h1, h2⟩
  · exact .inl h
  · exact .inr ⟨g, off, cap, rfl, h1, fun i y j u hy hu => hc.cell (h2 i y j u hy hu) (hb g rfl)⟩
set_option maxRecDepth 100000 in
set_option maxHeartbeats 2000000 in
theorem made_any (v1 v2 : Value) (r0 r1 : Int) (s : ByteArray) (w : World) (h : CaseIn v1 v2 r0 r1 w) (hs : s.size ≤ 9223372036854775807) :
    Calls Tryz.prog 8 #[.agg #[v1, v2, .int .i64 r0, .int .i64 r1, .string s]] w (MadeS w) := by
  have HC := Lib.hid h
  obtain ⟨⟨L1, L2, h1, h2, -⟩, -⟩ := h
  obtain ⟨p1, c1, rfl⟩ := h1.shape
  obtain ⟨p2, c2, rfl⟩ := h2.shape
  clear h1 h2
  have hmn : min (s.size : Int) 100 = ((min s.size 100 : Nat) : Int) := by omega
  go_enter Tryz.func8, Tryz.ntmps8
  go_upto_region 1 with fail
  refine wp_gen (F := fun y => Gr w y ∧ y.heap[w.heap.size]? = some (.cells #[.slice p1 L1.length c1, .slice p2 L2.length c2, .int .i64 r0, .int .i64 r1, .string s] 30 (0, 0)) ∧ y.heap[w.heap.size + 1]? = some (.cells #[.slice none 0 0, .slice none 0 0, .int .i64 0, .string ⟨#[]⟩] 25 (0, 0))) ⟨Gr.trans (Gr.alloc _ _) (Gr.alloc _ _), (Gr.alloc _ _).block (heap_alloc_new w _), ?_⟩ ?_
  · have h := heap_alloc_new (w.alloc (.cells #[.slice p1 L1.length c1, .slice p2 L2.length c2, .int .i64 r0, .int .i64 r1, .string s] 30)) (.cells #[.slice none 0 0, .slice none 0 0, .int .i64 0, .string ⟨#[]⟩] 25)
    rw [World.size_alloc] at h
    exact h
  rintro wA ⟨hgA, hr5, hr4⟩
  obtain ⟨c0, c1', c2', c3, c4⟩ := row5 hr5
  have hle : min s.size 100 ≤ s.size := Nat.min_le_left _ _
  have HGA := Lib.hid hgA
  have HR4 := Lib.hid hr4
  clear hgA hr5 hr4
  refine wp_region_noPanic ?_
  refine wp_region_held_drew (S := (fun y => y.cell? ⟨w.heap.size, 0, none⟩ = some (.slice p1 L1.length c1) ∧ y.cell? ⟨w.heap.size, 1, none⟩ = some (.slice p2 L2.length c2) ∧ y.cell? ⟨w.heap.size, 2, none⟩ = some (.int .i64 r0) ∧ y.cell? ⟨w.heap.size, 3, none⟩ = some (.int .i64 r1) ∧ y.cell? ⟨w.heap.size, 4, none⟩ = some (.string s))) (by kernel_rfl) ⟨c0, c1', c2', c3, c4⟩ (fun hHeld => ?_)
  refine held_take 0 (v := ?_) rfl rfl (by kernel_rfl) (by kernel_rfl) (by kernel_rfl) (fun _ _ _ h => h) (by rfl) ?_ (by assumption) ?_
  rotate_left
  · (intro w hSw; (try dsimp only at hSw); go_simp; try with_reducible rfl)
  try simp only [Act.put, List.setIfInBounds_toArray, List.set_cons_zero, List.set_cons_succ]
  refine held_take 1 (v := ?_) rfl rfl (by kernel_rfl) (by kernel_rfl) (by kernel_rfl) (fun _ _ _ h => h) (by rfl) ?_ (by assumption) ?_
  rotate_left
  · (intro w hSw; (try dsimp only at hSw); go_simp; try with_reducible rfl)
  try simp only [Act.put, List.setIfInBounds_toArray, List.set_cons_zero, List.set_cons_succ]
  refine held_take 2 (v := ?_) rfl rfl (by kernel_rfl) (by kernel_rfl) (by kernel_rfl) (fun _ _ _ h => h) (by rfl) ?_ (by assumption) ?_
  rotate_left
  · (intro w hSw; (try dsimp only at hSw); go_simp; try with_reducible rfl)
  try simp only [Act.put, List.setIfInBounds_toArray, List.set_cons_zero, List.set_cons_succ]
  refine held_take 3 (v := ?_) rfl rfl (by kernel_rfl) (by kernel_rfl) (by kernel_rfl) (fun _ _ _ h => h) (by rfl) ?_ (by assumption) ?_
  rotate_left
  · (intro w hSw; (try dsimp only at hSw); go_simp; try with_reducible rfl)
  try simp only [Act.put, List.setIfInBounds_toArray, List.set_cons_zero, List.set_cons_succ]
  refine held_take 4 (v := ?_) rfl rfl (by kernel_rfl) (by kernel_rfl) (by kernel_rfl) (fun _ _ _ h => h) (by rfl) ?_ (by assumption) ?_
  rotate_left
  · (intro w hSw; (try dsimp only at hSw); go_simp; try with_reducible rfl)
  try simp only [Act.put, List.setIfInBounds_toArray, List.set_cons_zero, List.set_cons_succ]
  refine held_take 5 (v := ?_) rfl rfl (by kernel_rfl) (by kernel_rfl) (by kernel_rfl) (fun _ _ _ h => h) (by rfl) ?_ (by assumption) ?_
  rotate_left
  · (intro w hSw; (try dsimp only at hSw); go_simp; try with_reducible rfl)
  try simp only [Act.put, List.setIfInBounds_toArray, List.set_cons_zero, List.set_cons_succ]
  refine held_take 7 (v := ?_) rfl rfl (by kernel_rfl) (by kernel_rfl) (by kernel_rfl) (fun _ _ _ h => h) (by rfl) ?_ (by assumption) ?_
  rotate_left
  · (intro w hSw; (try dsimp only at hSw); go_simp; try with_reducible rfl)
  try simp only [Act.put, List.setIfInBounds_toArray, List.set_cons_zero, List.set_cons_succ]
  refine held_take 8 (v := ?_) rfl rfl (by kernel_rfl) (by kernel_rfl) (by kernel_rfl) (fun _ _ _ h => h) (by rfl) ?_ (by assumption) ?_
  rotate_left
  · (intro w hSw; (try dsimp only at hSw); go_simp; try with_reducible rfl)
  try simp only [Act.put, List.setIfInBounds_toArray, List.set_cons_zero, List.set_cons_succ]
  refine held_take 9 (v := ?_) rfl rfl (by kernel_rfl) (by kernel_rfl) (by kernel_rfl) (fun _ _ _ h => h) (by rfl) ?_ (by assumption) ?_
  rotate_left
  · (intro w hSw; (try dsimp only at hSw); go_simp; try with_reducible rfl)
  try simp only [Act.put, List.setIfInBounds_toArray, List.set_cons_zero, List.set_cons_succ]
  refine held_take 10 (v := ?_) rfl rfl (by kernel_rfl) (by kernel_rfl) (by kernel_rfl) (fun _ _ _ h => h) (by rfl) ?_ (by assumption) ?_
  rotate_left
  · (intro w hSw; (try dsimp only at hSw); go_simp; try with_reducible rfl)
  try simp only [Act.put, List.setIfInBounds_toArray, List.set_cons_zero, List.set_cons_succ]
  refine held_take 11 (v := ?_) rfl rfl (by kernel_rfl) (by kernel_rfl) (by kernel_rfl) (fun _ _ _ h => h) (by rfl) ?_ (by assumption) ?_
  rotate_left
  · (intro w hSw; (try dsimp only at hSw); go_simp; try with_reducible rfl)
  try simp only [Act.put, List.setIfInBounds_toArray, List.set_cons_zero, List.set_cons_succ]
  refine held_take 12 (v := ?_) rfl rfl (by kernel_rfl) (by kernel_rfl) (by kernel_rfl) (fun _ _ _ h => h) (by rfl) ?_ (by assumption) ?_
  rotate_left
  · (intro w hSw; (try dsimp only at hSw); go_simp; try with_reducible rfl)
  try simp only [Act.put, List.setIfInBounds_toArray, List.set_cons_zero, List.set_cons_succ]
  refine held_take 13 (v := ?_) rfl rfl (by kernel_rfl) (by kernel_rfl) (by kernel_rfl) (fun _ _ _ h => h) (by rfl) ?_ (by assumption) ?_
  rotate_left
  · (intro w hSw; (try dsimp only at hSw); go_simp; try with_reducible rfl)
  try simp only [Act.put, List.setIfInBounds_toArray, List.set_cons_zero, List.set_cons_succ]
  refine held_step 6 (by kernel_rfl) rfl rfl (by rfl) ?_
  go_simp
  refine (made6_case (HC.out.gr (HGA.out.trans (Gr.drew wA)))).mono ?_
  rintro e w8 ⟨vL, vC, ls, cs, wd, bits, rfl, hd, hg8, hfL, hfC⟩
  have hzA : w.heap.size + 1 < wA.drew.heap.size := (Array.getElem?_eq_some_iff.1 HR4.out).1
  have HFL := Lib.hid hfL
  have HFC := Lib.hid hfC
  have HZA := Lib.hid hzA
  clear hfL hfC hzA
  have hgg : Gr wA w8 := Gr.trans (Gr.drew wA) hg8
  have HG8 := Lib.hid (HGA.out.trans hgg)
  have HR8 := Lib.hid (hgg.block HR4.out)
  have HD8 := Lib.hid hd
  obtain ⟨pl, cl, rfl⟩ := hd.1.1.shape
  obtain ⟨pc, cc, rfl⟩ := hd.1.2.shape
  have d0 := hgg.cell c0
  have d1 := hgg.cell c1'
  have d2 := hgg.cell c2'
  have d3 := hgg.cell c3
  have d4 := hgg.cell c4
  clear hd hg8 hgg HR4 HGA hmn c0 c1' c2' c3 c4 hHeld
  refine ⟨_, rfl, Thn.mk ⟨d0, d1, d2, d3, d4⟩ (fun hHeld => ?_)⟩
  try simp only [Act.put, List.setIfInBounds_toArray, List.set_cons_zero, List.set_cons_succ]
  obtain ⟨k0, k1, k2, k3⟩ := row4 HR8.out
  obtain ⟨f0, f1, f2, f3⟩ := frozen4 HR8.out
  have hch : Chg (some (w.heap.size + 1)) w8 ((((w8.setCell ⟨w.heap.size + 1, 0, none⟩ (.slice pl ls.length cl)).setCell ⟨w.heap.size + 1, 1, none⟩ (.slice pc cs.length cc)).setCell ⟨w.heap.size + 1, 2, none⟩ (.int .i64 wd)).setCell ⟨w.heap.size + 1, 3, none⟩ (.string bits)) := setCells_chg (w.heap.size + 1) [.slice pl ls.length cl, .slice pc cs.length cc, .int .i64 wd, .string bits] 0 w8
  have HCh := Lib.hid hch
  have hrow := row_set4 (a' := .slice pl ls.length cl) (b' := .slice pc cs.length cc) (c' := .int .i64 wd) (d' := .string bits) HR8.out
  have HRow := Lib.hid hrow
  have hne : some w.heap.size ≠ some (w.heap.size + 1) := by simp
  clear hch hrow
  refine held_last 14 (by kernel_rfl) rfl rfl (by rfl) ?_
  go_simp
  refine Thn.mk ⟨HCh.out.cell d0 hne, HCh.out.cell d1 hne, HCh.out.cell d2 hne, HCh.out.cell d3 hne, HCh.out.cell d4 hne⟩ (fun hHeld => ?_)
  try simp only [Act.put, List.setIfInBounds_toArray, List.set_cons_zero, List.set_cons_succ]
  generalize (((w8.setCell ⟨w.heap.size + 1, 0, none⟩ (.slice pl ls.length cl)).setCell ⟨w.heap.size + 1, 1, none⟩ (.slice pc cs.length cc)).setCell ⟨w.heap.size + 1, 2, none⟩ (.int .i64 wd)).setCell ⟨w.heap.size + 1, 3, none⟩ (.string bits) = W9 at HCh HRow hHeld ⊢
  clear k0 k1 k2 k3 f0 f1 f2 f3 d0 d1 d2 d3 d4
  refine held_take 15 (v := ?_) rfl rfl (by kernel_rfl) (by kernel_rfl) (by kernel_rfl) (fun _ _ _ h => h) (by rfl) ?_ (by assumption) ?_
  rotate_left
  · (intro w hSw; (try dsimp only at hSw); go_simp; try with_reducible rfl)
  try simp only [Act.put, List.setIfInBounds_toArray, List.set_cons_zero, List.set_cons_succ]
  refine wpAnyH_done (by kernel_rfl) ?_ _
  refine NoPanic.normal ?_
  obtain ⟨m0, m1, m2, m3⟩ := row4 HRow.out
  go_wp2_with fail
  refine bodyPost_ret (v := .tuple #[.agg #[.slice pl ls.length cl, .slice pc cs.length cc, .int .i64 wd, .string bits], .string (s.extract 0 (min s.size 100))]) ?_ rfl ?_
  · simp [results, Tryz.results8, go_sem, m0, m1, m2, m3]
  · have HGc : Hid (Gr w W9) := Lib.hid (gr_step HG8.out (Gr.refl _) HCh.out (fun g e => by cases e; omega))
    refine ⟨_, _, ls, cs, wd, bits, _, rfl, ⟨⟨HD8.out.1.1.chg HCh.out (fun g e1 e2 => by have := HFL.out g e1; have := HZA.out; simp only [Option.some.injEq] at e2; omega), HD8.out.1.2.chg HCh.out (fun g e1 e2 => by have := HFC.out g e1; have := HZA.out; simp only [Option.some.injEq] at e2; omega)⟩, HD8.out.2⟩, ?_, HGc.out⟩
    rw [ByteArray.size_extract]
    omega
end
end Go.Proofs.YtakhomofckcckaaGreatDoor
