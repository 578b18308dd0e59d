/- The helpers pick. -/
import Derived.Test.YtaoggehdkddgeaaGreatDoorGRdZ
import Derived.Test.YtaoggehdkddgeaaGreatDoorGGrowF
import Derived.IntWalk
import Derived.Deep.CutBlock
import Derived.Deep.CutRange
import Derived.Test.YtaoggehdkddgeaaGreatDoorGCnC
import Derived.Test.YtaoggehdkddgeaaGreatDoorGenA
section
namespace Go.Proofs.YtaoggehdkddgeaaGreatDoor
section
open Go Go.RowKit Go.Shelf
attribute [local go_sem] gAt gUpon
attribute [local simp] Gr.refl Gr.alloc

theorem pick6_any (c : Int) (n : Nat) (w : World) (hc : I64 c) (hn : 0 < n) (hn2 : n ≤ 4611686018427387904) :
    Calls Tryz.prog 67 #[.int .i64 c, .int .i64 (n : Int)] w fun e w' => e = .returned (.int .i64 (pickD c n : Int)) ∧ w = w' := by
  unfold I64 at hc
  obtain ⟨hc1, hc2⟩ := hc
  by_cases h0 : c < 0
  · have t0 : decide (c < 0) = true := decide_eq_true h0
    obtain ⟨k, hk⟩ : ∃ k : Nat, -(c + 1) = (k : Int) := ⟨(-(c + 1)).toNat, by omega⟩
    have HP : Hid (pickD c n = k % n) := Lib.hid (by unfold pickD absD; rw [if_pos h0, hk]; simp)
    have ha : IntKind.i64.wrap (c + 1) = c + 1 := IntWalk.i64_in _ (by omega)
    have hneg : IntKind.i64.wrap (-(c + 1)) = (k : Int) := by rw [hk]; exact IntWalk.i64_in _ (by omega)
    have hne : ((n : Int) == 0) = false := by rw [beq_eq_false_iff_ne]; omega
    have hne2 : ¬ ((n : Int) = 0) := by omega
    have hne3 : ¬ (n = 0) := by omega
    clear h0
    go_enter Tryz.func67, Tryz.ntmps67
    go_wp2_with fail
    go_ret
    refine ⟨?_, rfl⟩
    rw [HP.out]
    simp
  · have t0 : decide (c < 0) = false := decide_eq_false h0
    obtain ⟨k, rfl⟩ : ∃ k : Nat, c = (k : Int) := ⟨c.toNat, by omega⟩
    have HP : Hid (pickD (k : Int) n = k % n) := Lib.hid (by unfold pickD absD; rw [if_neg h0]; simp)
    have hne : ((n : Int) == 0) = false := by rw [beq_eq_false_iff_ne]; omega
    have hne2 : ¬ ((n : Int) = 0) := by omega
    have hne3 : ¬ (n = 0) := by omega
    clear h0 hc1 hc2
    go_enter Tryz.func67, Tryz.ntmps67
    go_wp2_with fail
    go_ret
    refine ⟨?_, rfl⟩
    rw [HP.out]
    simp
end
section
open Go Go.RowKit Go.Shelf
attribute [local go_sem] gAt gUpon
attribute [local simp] Gr.refl Gr.alloc

def p2C (x : Int × Int) : List Value := [.int .i64 x.1, .int .i64 x.2]
def p3C (x : Int × Int × Int) : List Value := [.int .i64 x.1, .int .i64 x.2.1, .int .i64 x.2.2]
/-- the blocks of the call: the raster's numbers, the result, the document -/
def DocW (w : World) (vL vC : Value) (wd : Int) (bits : ByteArray) (r0 r1 : Int) (W : World) : Prop :=
  W.heap[w.heap.size]? = some (.cells #[.int .i64 r0, .int .i64 r1] 24 (0, 0)) ∧ W.heap[w.heap.size + 1]? = some (.cells #[.slice none 0 0, .slice none 0 0, .int .i64 0, .string ⟨#[]⟩] 35 (0, 0)) ∧
    W.heap[w.heap.size + 1 + 1]? = some (.cells #[vL, vC, .int .i64 wd, .string bits] 35 (0, 0)) ∧ Gr w W ∧ w.heap.size + 3 ≤ W.heap.size
theorem DocW.gr {w W X : World} {vL vC : Value} {wd : Int} {bits : ByteArray} {r0 r1 : Int} (h : DocW w vL vC wd bits r0 r1 W) (hg : Gr W X) : DocW w vL vC wd bits r0 r1 X :=
  ⟨hg.block h.1, hg.block h.2.1, hg.block h.2.2.1, h.2.2.2.1.trans hg, Nat.le_trans h.2.2.2.2 hg.size⟩
theorem DocW.chg {w W X : World} {vL vC : Value} {wd : Int} {bits : ByteArray} {r0 r1 : Int} {b : Option Nat} (h : DocW w vL vC wd bits r0 r1 W) (hc : Chg b W X) (hb : ∀ g, b = some g → w.heap.size + 3 ≤ g) : DocW w vL vC wd bits r0 r1 X :=
  ⟨hc.block h.1 (fun e => by have := hb _ e.symm; omega), hc.block h.2.1 (fun e => by have := hb _ e.symm; omega), hc.block h.2.2.1 (fun e => by have := hb _ e.symm; omega),
    gr_step h.2.2.2.1 (Gr.refl _) hc (fun g e => by have := hb g e; omega), Nat.le_trans h.2.2.2.2 hc.size⟩
theorem DocW.set {w W : World} {vL vC : Value} {wd : Int} {bits : ByteArray} {r0 r1 : Int} (h : DocW w vL vC wd bits r0 r1 W) :
    (∀ v, DocW w v vC wd bits r0 r1 (W.setCell ⟨w.heap.size + 1 + 1, 0, none⟩ v)) ∧ (∀ v, DocW w vL v wd bits r0 r1 (W.setCell ⟨w.heap.size + 1 + 1, 1, none⟩ v)) ∧
      (∀ x, DocW w vL vC x bits r0 r1 (W.setCell ⟨w.heap.size + 1 + 1, 2, none⟩ (.int .i64 x))) ∧ (∀ s, DocW w vL vC wd s r0 r1 (W.setCell ⟨w.heap.size + 1 + 1, 3, none⟩ (.string s))) := by
  obtain ⟨h1, h2, h3, h4, h5⟩ := h
  have hs : ∀ o v, Gr w (W.setCell ⟨w.heap.size + 1 + 1, o, none⟩ v) := fun o v => gr_step h4 (Gr.refl _) (setCells_chg (w.heap.size + 1 + 1) [v] o W) (fun g e => by cases e; omega)
  refine ⟨fun v => ⟨set_other h1 (by omega), set_other h2 (by omega), ?_, hs _ _, by simpa using h5⟩, fun v => ⟨set_other h1 (by omega), set_other h2 (by omega), ?_, hs _ _, by simpa using h5⟩, fun v => ⟨set_other h1 (by omega), set_other h2 (by omega), ?_, hs _ _, by simpa using h5⟩, fun v => ⟨set_other h1 (by omega), set_other h2 (by omega), ?_, hs _ _, by simpa using h5⟩⟩
  all_goals (rw [heap_setCell_same _ _ _ _ _ _ h3]; rfl)
theorem DocW.cells {w W : World} {vL vC : Value} {wd : Int} {bits : ByteArray} {r0 r1 : Int} (h : DocW w vL vC wd bits r0 r1 W) :
    W.cell? ⟨w.heap.size, 0, none⟩ = some (.int .i64 r0) ∧ W.cell? ⟨w.heap.size, 1, none⟩ = some (.int .i64 r1) ∧
      W.cell? ⟨w.heap.size + 1 + 1, 0, none⟩ = some vL ∧ W.cell? ⟨w.heap.size + 1 + 1, 1, none⟩ = some vC ∧ W.cell? ⟨w.heap.size + 1 + 1, 2, none⟩ = some (.int .i64 wd) ∧ W.cell? ⟨w.heap.size + 1 + 1, 3, none⟩ = some (.string bits) ∧
      W.frozen? ⟨w.heap.size + 1 + 1, 0, none⟩ = false ∧ W.frozen? ⟨w.heap.size + 1 + 1, 1, none⟩ = false ∧ W.frozen? ⟨w.heap.size + 1 + 1, 2, none⟩ = false ∧ W.frozen? ⟨w.heap.size + 1 + 1, 3, none⟩ = false := by
  obtain ⟨h1, h2, h3, _⟩ := h
  refine ⟨?_, ?_, ?_, ?_, ?_, ?_, frozen_of_row _ _ _ _ _ h3, frozen_of_row _ _ _ _ _ h3, frozen_of_row _ _ _ _ _ h3, frozen_of_row _ _ _ _ _ h3⟩
  · rw [cell_of_row _ _ _ _ _ _ h1]; rfl
  · rw [cell_of_row _ _ _ _ _ _ h1]; rfl
  all_goals (rw [cell_of_row _ _ _ _ _ _ h3]; rfl)
/-- behind the first loop -/
def Made1 (w : World) (r0 r1 : Int) (W : World) : Prop := ∃ (ls : List Ln) (vL : Value), (ls.length ≤ 6 ∧ ∀ x ∈ ls, lnB x = true) ∧ (∀ g, vL.ownBlock = some g → g < W.heap.size) ∧ Own (w.heap.size + 3) 2 vL ls.length (ls.flatMap lnC) W ∧ DocW w vL (.slice none 0 0) 0 ⟨#[]⟩ r0 r1 W
theorem Made1.mk {w : World} {r0 r1 : Int} {W : World} {ls : List Ln} {vL : Value} {k : Nat} (h1 : ls.length = k ∧ ∀ x ∈ ls, lnB x = true) (h2 : Own (w.heap.size + 3) 2 vL k (ls.flatMap lnC) W) (h3 : DocW w vL (.slice none 0 0) 0 ⟨#[]⟩ r0 r1 W) (hk : k ≤ 6) (hb : ∀ g, vL.ownBlock = some g → g < W.heap.size) : Made1 w r0 r1 W :=
  ⟨ls, vL, ⟨by omega, h1.2⟩, hb, by rw [h1.1]; exact h2, h3⟩
def CsOk (cs : List Ce) (k : Nat) : Prop := cs.length ≤ k ∧ (∀ x ∈ cs, ceB x = true ∧ x.row * 5 + x.col < (k : Int) ∧ 0 ≤ x.col ∧ x.col ≤ 4) ∧ cs.Pairwise fun a b => aheadB a b = true
theorem CsOk.push {cs : List Ce} {k : Nat} (h : CsOk cs k) (x : Ce) (hx : ceB x = true) (hk : x.row * 5 + x.col = (k : Int)) (h0 : 0 ≤ x.col ∧ x.col ≤ 4) (k' : Nat) (hk' : k < k') : CsOk (cs ++ [x]) k' := by
  obtain ⟨h1, h2, h3⟩ := h
  refine ⟨by simp; omega, fun y hy => ?_, ?_⟩
  · rcases List.mem_append.1 hy with hy | hy
    · obtain ⟨a, b, c⟩ := h2 y hy
      exact ⟨a, by omega, c⟩
    · obtain rfl := List.mem_singleton.1 hy
      exact ⟨hx, by omega, h0⟩
  · rw [List.pairwise_append]
    refine ⟨h3, List.pairwise_singleton _ _, fun y hy z hz => ?_⟩
    obtain rfl := List.mem_singleton.1 hz
    obtain ⟨_, b, c, d⟩ := h2 y hy
    unfold aheadB
    by_cases hr : y.row < z.row
    · simp [hr]
    · have e1 : y.row = z.row := by omega
      have e2 : y.col < z.col := by omega
      simp [e1, e2]
/-- behind the loop over cells -/
def Made2 (w : World) (r0 r1 : Int) (W : World) : Prop := ∃ (ls : List Ln) (vL : Value) (cs : List Ce) (vC : Value), (ls.length ≤ 6 ∧ ∀ x ∈ ls, lnB x = true) ∧ CsOk cs 27 ∧ Own (w.heap.size + 3) 2 vL ls.length (ls.flatMap lnC) W ∧ Own (w.heap.size + 3) 6 vC cs.length (cs.flatMap ceC) W ∧ DocW w vL vC 0 ⟨#[]⟩ r0 r1 W
/-- a cell that is being made -/
def CellAt (bx : Nat) (x : Ce) (W : World) : Prop := W.heap[bx]? = some (.cells #[.int .i64 x.row, .int .i64 x.col, .bool x.sum, .int .i64 x.value, .int .i64 x.top, .int .i64 x.left] 63 (0, 0))
theorem CellAt.cells {bx : Nat} {x : Ce} {W : World} (h : CellAt bx x W) : W.cell? ⟨bx, 0, none⟩ = some (.int .i64 x.row) ∧ W.cell? ⟨bx, 1, none⟩ = some (.int .i64 x.col) ∧ W.cell? ⟨bx, 2, none⟩ = some (.bool x.sum) ∧ W.cell? ⟨bx, 3, none⟩ = some (.int .i64 x.value) ∧ W.cell? ⟨bx, 4, none⟩ = some (.int .i64 x.top) ∧ W.cell? ⟨bx, 5, none⟩ = some (.int .i64 x.left) ∧
    W.frozen? ⟨bx, 2, none⟩ = false ∧ W.frozen? ⟨bx, 3, none⟩ = false ∧ W.frozen? ⟨bx, 4, none⟩ = false ∧ W.frozen? ⟨bx, 5, none⟩ = false := by
  refine ⟨?_, ?_, ?_, ?_, ?_, ?_, frozen_of_row _ _ _ _ _ h, frozen_of_row _ _ _ _ _ h, frozen_of_row _ _ _ _ _ h, frozen_of_row _ _ _ _ _ h⟩
  all_goals (rw [cell_of_row _ _ _ _ _ _ h]; rfl)
theorem CellAt.gr {bx : Nat} {x : Ce} {W X : World} (h : CellAt bx x W) (hg : Gr W X) : CellAt bx x X := hg.block h
/-- a cell that is good -/
def Good (bx k : Nat) (wB W : World) : Prop := Chg (some bx) wB W ∧ ∃ x : Ce, ceB x = true ∧ x.row * 5 + x.col = (k : Int) ∧ (0 ≤ x.col ∧ x.col ≤ 4) ∧ CellAt bx x W
theorem tdiv_i64 {a : Int} (h : I64 a) (n : Nat) (hn : 2 ≤ n) : I64 (a.tdiv (n : Int)) := by
  have h1 : (a.tdiv (n : Int)).natAbs = a.natAbs / (n : Int).natAbs := Int.natAbs_tdiv a (n : Int)
  have h2 : a.natAbs / (n : Int).natAbs ≤ a.natAbs / 2 := Nat.div_le_div_left (by omega) (by decide)
  unfold I64 at h ⊢
  generalize a.tdiv (n : Int) = z at h1 ⊢
  omega
theorem infoCe : (Tryz.prog.info? 63).map (fun i => (i.zero, i.size, i.bytes)) = some (some (.agg #[.int .i64 0, .int .i64 0, .bool false, .int .i64 0, .int .i64 0, .int .i64 0]), 6, 48) := by kernel_rfl
theorem one6 (a b : Int) (c : Bool) (d e f : Int) : ∀ u ∈ [Value.int .i64 a, .int .i64 b, .bool c, .int .i64 d, .int .i64 e, .int .i64 f], u.oneCell' = true := by
  intro u hu
  simp at hu
  rcases hu with rfl | rfl | rfl | rfl | rfl | rfl <;> rfl
theorem wrap_tdiv {a : Int} (h : I64 a) (n : Nat) (hn : 2 ≤ n) : wrap64 (a.tdiv (n : Int)) = a.tdiv (n : Int) := by
  have h1 := tdiv_i64 h n hn
  unfold I64 at h1
  generalize a.tdiv (n : Int) = z at h1 ⊢
  exact IntWalk.wrap64_in _ h1
def abc6 : ByteArray := ⟨#[97, 66, 32, 99, 32, 68]⟩
theorem abc6_print : ∀ r : _root_.Fin 6, printB ⟨#[abc6.data[r.1]'(by simp [abc6])]⟩ = true := by decide
theorem conv_byte (W : World) (b : UInt8) (z : Int) (hz : z = (b.toNat : Int)) :
    (convert 73 9 (.slice (some ⟨W.heap.size, 0, none⟩) 1 1)).run Tryz.prog (W.alloc (.cells #[.int .u8 z] 5)) = .ok (.string ⟨#[b]⟩) (W.alloc (.cells #[.int .u8 z] 5)) := by
  subst hz
  refine run_convert_bytes_back (P := Tryz.prog) _ 73 9 5 ⟨W.heap.size, 0, none⟩ 1 [b] Tryz.underlying73 Tryz.underlying5 Tryz.underlying9 ?_
  intro j hj
  obtain rfl : j = 0 := by simpa using hj
  exact cells_new_at W [.int .u8 (b.toNat : Int)] 5 0 _ rfl
theorem conv_byte_at (W : World) (g : Nat) (b : UInt8) (h : W.heap[g]? = some (.cells [Value.int .u8 (b.toNat : Int)].toArray 5 (0, 0))) :
    (convert 73 9 (.slice (some ⟨g, 0, none⟩) 1 1)).run Tryz.prog W = .ok (.string ⟨#[b]⟩) W := by
  refine run_convert_bytes_back (P := Tryz.prog) _ 73 9 5 ⟨g, 0, none⟩ 1 [b] Tryz.underlying73 Tryz.underlying5 Tryz.underlying9 ?_
  intro j hj
  obtain rfl : j = 0 := by simpa using hj
  exact row_at h 0 _ rfl
/-- behind the loop over cells: what stays -/
def Mid (w : World) (r0 r1 : Int) (ls : List Ln) (vL : Value) (cs : List Ce) (vC : Value) (wd : Int) (bits : ByteArray) (W : World) : Prop :=
  Own (w.heap.size + 3) 2 vL ls.length (ls.flatMap lnC) W ∧ Own (w.heap.size + 3) 6 vC cs.length (cs.flatMap ceC) W ∧ DocW w vL vC wd bits r0 r1 W
theorem Mid.gr {w : World} {r0 r1 : Int} {ls : List Ln} {vL : Value} {cs : List Ce} {vC : Value} {wd : Int} {bits : ByteArray} {W X : World} (h : Mid w r0 r1 ls vL cs vC wd bits W) (hg : Gr W X) : Mid w r0 r1 ls vL cs vC wd bits X :=
  ⟨h.1.gr hg, h.2.1.gr hg, h.2.2.gr hg⟩
theorem Mid.set2 {w : World} {r0 r1 : Int} {ls : List Ln} {vL : Value} {cs : List Ce} {vC : Value} {wd : Int} {bits : ByteArray} {W : World} (h : Mid w r0 r1 ls vL cs vC wd bits W) (x : Int) : Mid w r0 r1 ls vL cs vC x bits (W.setCell ⟨w.heap.size + 1 + 1, 2, none⟩ (.int .i64 x)) :=
  ⟨h.1.keep (setCells_chg (w.heap.size + 1 + 1) [.int .i64 x] 2 W) (.inr (fun e => by have := h.1.ge e; omega)), h.2.1.keep (setCells_chg (w.heap.size + 1 + 1) [.int .i64 x] 2 W) (.inr (fun e => by have := h.2.1.ge e; omega)), h.2.2.set.2.2.1 x⟩
theorem Mid.set3 {w : World} {r0 r1 : Int} {ls : List Ln} {vL : Value} {cs : List Ce} {vC : Value} {wd : Int} {bits : ByteArray} {W : World} (h : Mid w r0 r1 ls vL cs vC wd bits W) (x : ByteArray) : Mid w r0 r1 ls vL cs vC wd x (W.setCell ⟨w.heap.size + 1 + 1, 3, none⟩ (.string x)) :=
  ⟨h.1.keep (setCells_chg (w.heap.size + 1 + 1) [.string x] 3 W) (.inr (fun e => by have := h.1.ge e; omega)), h.2.1.keep (setCells_chg (w.heap.size + 1 + 1) [.string x] 3 W) (.inr (fun e => by have := h.2.1.ge e; omega)), h.2.2.set.2.2.2 x⟩
theorem shr_mod {mm i D : Nat} (h : mm / 2 ^ i % 2 = D) : ((mm : Int) / 2 ^ i).tmod 2 = (D : Int) := by
  have e : ((mm : Int) / 2 ^ i) = ((mm / 2 ^ i : Nat) : Int) := by simp
  rw [e, ← h]
  rfl
theorem inB_append (cs : List UInt8) (a b : ByteArray) : inB cs (a ++ b) = (inB cs a && inB cs b) := by
  unfold inB
  rw [show (a ++ b).data = a.data ++ b.data from by simp, Array.toList_append, List.all_append]
theorem bit_byte {D : Nat} (h : D < 2) : inB [48, 49] ⟨#[UInt8.ofNat (48 + D)]⟩ = true ∧ ((UInt8.ofNat (48 + D)).toNat : Int) = 48 + (D : Int) := by
  have h2 : D = 0 ∨ D = 1 := by omega
  rcases h2 with rfl | rfl <;> exact ⟨by decide, by decide⟩
theorem DocW.res {w W : World} {vL vC : Value} {wd : Int} {bits : ByteArray} {r0 r1 : Int} (h : DocW w vL vC wd bits r0 r1 W) :
    W.cell? ⟨w.heap.size + 1, 0, none⟩ = some (.slice none 0 0) ∧ W.cell? ⟨w.heap.size + 1, 1, none⟩ = some (.slice none 0 0) ∧ W.cell? ⟨w.heap.size + 1, 2, none⟩ = some (.int .i64 0) ∧ W.cell? ⟨w.heap.size + 1, 3, none⟩ = some (.string ⟨#[]⟩) ∧
      W.frozen? ⟨w.heap.size + 1, 0, none⟩ = false ∧ W.frozen? ⟨w.heap.size + 1, 1, none⟩ = false ∧ W.frozen? ⟨w.heap.size + 1, 2, none⟩ = false ∧ W.frozen? ⟨w.heap.size + 1, 3, none⟩ = false := by
  obtain ⟨_, h2, _⟩ := h
  refine ⟨?_, ?_, ?_, ?_, frozen_of_row _ _ _ _ _ h2, frozen_of_row _ _ _ _ _ h2, frozen_of_row _ _ _ _ _ h2, frozen_of_row _ _ _ _ _ h2⟩
  all_goals (rw [cell_of_row _ _ _ _ _ _ h2]; rfl)
theorem valid_made {ls : List Ln} {cs : List Ce} {wd hh : Nat} {bits : ByteArray} (hL : ls.length ≤ 6 ∧ ∀ x ∈ ls, lnB x = true) (hC : CsOk cs 27) (hw : wd < 6) (hh4 : hh < 4) (hs : bits.size = wd * (1 + hh)) (hb : inB [48, 49] bits = true) : validB ls cs (wd : Int) bits = true := by
  obtain ⟨h1, h2⟩ := hL
  obtain ⟨h3, h4, h5⟩ := hC
  unfold validB
  rw [asc_of_pairwise cs h5, raster_ok wd (1 + hh) bits (by omega) (by omega) (by omega) hs hb, List.all_eq_true.2 h2, List.all_eq_true.2 (fun x hx => (h4 x hx).1)]
  simp
  omega
theorem pow6_lt {m s : Nat} (h : m * 6 ^ s < 1000000) (h0 : 0 < m) (hs : s ≤ 8) : s ≤ 7 ∧ m / 6 * 6 ^ (s + 1) < 1000000 := by
  constructor
  · by_cases h8 : s = 8
    · subst h8
      have : 1 * 6 ^ 8 ≤ m * 6 ^ 8 := Nat.mul_le_mul_right _ h0
      omega
    · omega
  · have h2 : m / 6 * 6 ≤ m := Nat.div_mul_le_self m 6
    have h3 : m / 6 * 6 ^ (s + 1) = (m / 6 * 6) * 6 ^ s := by rw [Nat.pow_succ, Nat.mul_comm (6 ^ s) 6, Nat.mul_assoc]
    rw [h3]
    exact Nat.lt_of_le_of_lt (Nat.mul_le_mul_right _ h2) h
set_option maxRecDepth 100000 in
set_option maxHeartbeats 16000000 in
theorem made6_any (v1 v2 : Value) (L1 : List (Int × Int)) (L2 : List (Int × Int × Int)) (r0 r1 : Int) (w : World) (hv1 : Rws 2 p2C v1 L1 w) (hv2 : Rws 3 p3C v2 L2 w)
    (hn1 : L1.length ≤ 9223372036854775807) (hn2 : L2.length ≤ 9223372036854775807) (hr1 : ∀ x ∈ L1, I64 x.1 ∧ I64 x.2) (hr2 : ∀ x ∈ L2, I64 x.1 ∧ I64 x.2.1 ∧ I64 x.2.2) (hr : I64 r0 ∧ I64 r1) :
    Calls Tryz.prog 24 #[v1, v2, .agg #[.int .i64 r0, .int .i64 r1]] w fun e w' => ∃ vL vC ls cs wd bits, e = .returned (.agg #[vL, vC, .int .i64 wd, .string bits]) ∧ DocIn vL vC ls cs w' ∧ validB ls cs wd bits = true ∧ ls.length ≤ 6 ∧ Gr w w' ∧ (∀ g, vL.ownBlock = some g → w.heap.size ≤ g) ∧ (∀ g, vC.ownBlock = some g → w.heap.size ≤ g) := by
  have _u := hn1
  clear _u
  obtain ⟨p1, c1, rfl⟩ := hv1.shape
  obtain ⟨p2, c2, rfl⟩ := hv2.shape
  obtain ⟨iL, hiL, hzL, hszL, hbL⟩ := info_parts infoLn
  obtain ⟨iC, hiC, hzC, hszC, hbC⟩ := info_parts infoCe
  have HV1 := Lib.hid hv1
  have HV2 := Lib.hid hv2
  have HR1 := Lib.hid hr1
  have HR2 := Lib.hid hr2
  have HR := Lib.hid hr
  clear hv1 hv2 hr1 hr2 hr
  go_enter Tryz.func24, Tryz.ntmps24
  go_upto_region 2 with fail
  refine wp_gen (F := fun y => DocW w (.slice none 0 0) (.slice none 0 0) 0 ⟨#[]⟩ r0 r1 y) ?_ ?_
  · refine ⟨?_, ?_, ?_, ?_, ?_⟩
    · exact (Gr.trans (Gr.alloc _ _) (Gr.alloc _ _)).block (heap_alloc_new w _)
    · have h := heap_alloc_new (w.alloc (.cells #[.int .i64 r0, .int .i64 r1] 24)) (.cells #[.slice none 0 0, .slice none 0 0, .int .i64 0, .string ⟨#[]⟩] 35)
      rw [World.size_alloc] at h
      exact (Gr.alloc _ _).block h
    · have h := heap_alloc_new ((w.alloc (.cells #[.int .i64 r0, .int .i64 r1] 24)).alloc (.cells #[.slice none 0 0, .slice none 0 0, .int .i64 0, .string ⟨#[]⟩] 35)) (.cells #[.slice none 0 0, .slice none 0 0, .int .i64 0, .string ⟨#[]⟩] 35)
      rw [World.size_alloc, World.size_alloc] at h
      exact h
    · exact Gr.trans (Gr.alloc _ _) (Gr.trans (Gr.alloc _ _) (Gr.alloc _ _))
    · simp
  intro w0 hD0
  have HD0 := Lib.hid hD0
  clear hD0
  go_upto_block 0 with fail
  go_cut [8, 9, 10] from 17 to 56 (fun _ _ _ wx => Hid (Made1 w r0 r1 wx))
  case first =>
    rename_i JJ KK hJ hK
    go_wp2_with fail
    go_loopw [8] (fun v8 W => ∃ (k : Nat) (ls : List Ln) (vL : Value), k ≤ L1.length ∧ k ≤ 6 ∧ v8 = .int .i64 (k : Int) ∧ Hid (ls.length = k ∧ ∀ x ∈ ls, lnB x = true) ∧ Hid (Own (w.heap.size + 3) 2 vL k (ls.flatMap lnC) W) ∧ Hid (DocW w vL (.slice none 0 0) 0 ⟨#[]⟩ r0 r1 W) ∧ Hid (∀ g, vL.ownBlock = some g → g < W.heap.size)) (fun v8 _ => 6 - (intOf v8).toNat)
    case atStart => exact ⟨0, [], _, Nat.zero_le _, Nat.zero_le _, rfl, Lib.hid ⟨rfl, fun x h => by cases h⟩, Lib.hid (Own.nil _ _ _), HD0, Lib.hid (fun g h => by cases h)⟩
    case round =>
      obtain ⟨k, ls, vL, hk1, hk2, rfl, HL, HO, HD, HB⟩ := hrel
      by_cases hlt : k < L1.length
      · have ht : decide (k < L1.length) = true := decide_eq_true hlt
        by_cases hl6 : k < 6
        · have ht6 : decide (k < 6) = true := decide_eq_true hl6
          have ht6' : decide ((k : Int) < 6) = true := decide_eq_true (by omega)
          obtain ⟨x, hx⟩ : ∃ x, L1[k]? = some x := ⟨_, List.getElem?_eq_getElem hlt⟩
          obtain ⟨hx1, hx2⟩ := HR1.out x (List.mem_of_getElem? hx)
          obtain ⟨g, off, rfl, hlc, hc⟩ := (HV1.out.gr HD.out.2.2.2.1).at_ hx
          obtain ⟨x1, x2⟩ := x
          have hc0 := hc 0 _ rfl
          have hc1 := hc 1 _ rfl
          rw [Nat.add_zero] at hc0
          rw [← Nat.add_assoc] at hc1
          simp only at hx1 hx2 hc0 hc1
          have HP1 : Hid (∀ y, Calls Tryz.prog 67 #[.int .i64 x1, .int .i64 1000000] y fun e y' => e = .returned (.int .i64 (pickD x1 1000000 : Int)) ∧ y = y') := Lib.hid (fun y => pick6_any x1 1000000 y hx1 (by decide) (by decide))
          have HP2 : Hid (∀ y, Calls Tryz.prog 67 #[.int .i64 x2, .int .i64 8] y fun e y' => e = .returned (.int .i64 (pickD x2 8 : Int)) ∧ y = y') := Lib.hid (fun y => pick6_any x2 8 y hx2 (by decide) (by decide))
          have hm0 := pickD_lt x1 1000000 (by decide)
          have hm8 := pickD_lt x2 8 (by decide)
          generalize pickD x1 1000000 = m0 at HP1 hm0
          generalize pickD x2 8 = mk at HP2 hm8
          have HC1 := Lib.hid hc1
          clear hx hc hx1 hx2 hc1
          go_wp2_with fail
          refine (HP1.out _).mono ?_
          rintro e y ⟨rfl, rfl⟩
          clear hc0 HP1
          go_wp2_with fail
          obtain ⟨wa, hwa⟩ : ∃ wa, wa = wr := ⟨_, rfl⟩
          subst hwa
          go_loopw [9, 10] (fun v9 v10 W => ∃ (m : Nat) (s : ByteArray), v9 = .int .i64 (m : Int) ∧ v10 = .string s ∧ m < 1000000 ∧ s.size ≤ 8 ∧ Hid (m * 6 ^ s.size < 1000000 ∧ printB s = true) ∧ Hid (Gr wa W)) (fun v9 _ _ => (intOf v9).toNat)
          case atStart => exact ⟨m0, ⟨#[]⟩, rfl, rfl, hm0, Nat.zero_le _, Lib.hid ⟨by show m0 * 6 ^ 0 < 1000000; omega, rfl⟩, Lib.hid (Gr.refl _)⟩
          case round =>
            obtain ⟨m, s, rfl, rfl, hm, hs8, HM, HGq⟩ := hrel
            by_cases h0 : 0 < m
            · have t0 : decide (0 < m) = true := decide_eq_true h0
              have t0' : decide (0 < (m : Int)) = true := decide_eq_true (by omega)
              obtain ⟨r, hr⟩ : ∃ r, m % 6 = r := ⟨_, rfl⟩
              obtain ⟨q, hq⟩ : ∃ q, m / 6 = q := ⟨_, rfl⟩
              have hr6 : r < 6 := by omega
              have er : (m : Int) % 6 = (r : Int) := by omega
              have eq : (m : Int) / 6 = (q : Int) := by omega
              have hr6' : (r : Int) < 6 := by omega
              have hpr := abc6_print ⟨r, hr6⟩
              obtain ⟨h7, hlt6⟩ := pow6_lt HM.out.1 h0 hs8
              have hconv := conv_byte wr (({ data := #[97, 66, 32, 99, 32, 68] } : ByteArray)[r]'hr6) _ rfl
              have hpr' : printB ⟨#[({ data := #[97, 66, 32, 99, 32, 68] } : ByteArray)[r]'hr6]⟩ = true := hpr
              have hadd := add_run s ⟨#[({ data := #[97, 66, 32, 99, 32, 68] } : ByteArray)[r]'hr6]⟩ _ rfl (by show s.size + 1 ≤ _; omega)
              have HNx : Hid (q * 6 ^ (s ++ ⟨#[({ data := #[97, 66, 32, 99, 32, 68] } : ByteArray)[r]'hr6]⟩).size < 1000000 ∧ printB (s ++ ⟨#[({ data := #[97, 66, 32, 99, 32, 68] } : ByteArray)[r]'hr6]⟩) = true) := Lib.hid ⟨by
                rw [ByteArray.size_append, ← hq]; exact hlt6, by rw [printB_append, HM.out.2, hpr']; rfl⟩
              have HSz : Hid ((s ++ ⟨#[({ data := #[97, 66, 32, 99, 32, 68] } : ByteArray)[r]'hr6]⟩).size ≤ 8) := Lib.hid (by rw [ByteArray.size_append]; show s.size + 1 ≤ 8; omega)
              have HGn : Hid (Gr wa (wr.alloc (.cells #[.int .u8 ((({ data := #[97, 66, 32, 99, 32, 68] } : ByteArray)[r]'hr6).toNat : Int)] 5))) := Lib.hid (HGq.out.trans (Gr.alloc _ _))
              clear hr hpr hpr' hlt6 HGq HM hm0
              go_wp2_with fail
              go_roundw
              case rel => exact ⟨q, _, rfl, rfl, by omega, HSz.out, HNx, HGn⟩
              case measure => simp [intOf]; omega
            · have t0 : decide (0 < m) = false := decide_eq_false h0
              have t0' : decide (0 < (m : Int)) = false := decide_eq_false (by omega)
              have HDr := Lib.hid (HD.out.gr HGq.out)
              have HOr := Lib.hid (HO.out.gr HGq.out)
              obtain ⟨-, -, q0, -, -, -, -⟩ := HDr.out.cells
              have q1 : wr.cell? ⟨g, off + k * 2 + 1, none⟩ = some (.int .i64 x2) := HGq.out.cell HC1.out
              have HPs : Hid (printB s = true) := Lib.hid HM.out.2
              have s0 : ∀ n : GrS wr.drew, n.w.cell? ⟨w.heap.size + 1 + 1, 0, none⟩ = some vL := fun n => n.h.cell (w := wr.drew) q0
              have s1 : ∀ n : GrS wr.drew, n.w.cell? ⟨g, off + k * 2 + 1, none⟩ = some (.int .i64 x2) := fun n => n.h.cell (w := wr.drew) q1
              clear h0 HM HGq HD HO HC1 hm hm0 q0 q1
              go_upto_region 10 with fail
              refine region_grow 11 156 (by kernel_rfl) rfl (by kernel_rfl) rfl rfl ?_
              simp only [List.take_succ_cons, List.take_zero, List.drop_succ_cons, List.drop_zero]
              refine seg 8 rfl rfl rfl rfl ?_
              simp only [List.take_succ_cons, List.take_zero, List.drop_succ_cons, List.drop_zero]
              repeat (go_big_quiet_step (fail))
              refine wpQuiet_nil ?_
              intro _
              refine grow_det (v := .int .i64 (mk : Int)) rfl rfl rfl rfl rfl ?_ ?_
              · intro w1 hG
                go_simp
                refine (HP2.out w1).mono ?_
                rintro e w' ⟨rfl, rfl⟩
                exact ⟨rfl, Gr.refl _⟩
              simp only [Act.put, List.setIfInBounds_toArray, List.set_cons_zero, List.set_cons_succ]
              refine grow_det (v := .agg #[.string s, .int .i64 (mk : Int)]) rfl rfl rfl rfl rfl ?_ ?_
              · intro w1 hG
                go_simp
              simp only [Act.put, List.setIfInBounds_toArray, List.set_cons_zero, List.set_cons_succ]
              refine grow_open (NewEl [.string s, .int .i64 (mk : Int)] 61) rfl rfl rfl rfl (stb_el _ _) (fun w1 hG => ?_) ?_
              · go_simp
                exact newEl_alloc _ _ _
              refine grow_end1 rfl rfl (by decide) ?_
              rintro w8 u hG8 ⟨b2, rfl, hb2⟩
              simp only [Act.put, List.setIfInBounds_toArray, List.set_cons_zero, List.set_cons_succ]
              have hg78 : Gr wr w8 := Gr.trans (Gr.drew wr) hG8
              go_wp2_with ((with_reducible show wpList _ _ _ (⟨some 55, _, _, _, _, _⟩ :: _) _ _); refine wpList_append_Own rfl (.tmp 45) (.tmp 54) 32 rfl 61 iL (.agg #[.string ⟨#[]⟩, .int .i64 0]) 2 24 Tryz.underlying32 hiL hzL hszL hbL rfl (by decide) rfl (HOr.out.gr hg78) ⟨b2, 0, none⟩ 1 1 [.string s, .int .i64 (mk : Int)] rfl rfl ?hnewsD ?h1cD (by decide) ?b1D ?b2D ?hBD ?_)
              case hnewsD =>
                intro j u hj
                have h := row_at hb2 j u hj
                rw [Addr.add_mid, Nat.zero_add] at h
                exact h
              case h1cD => first | rfl | simp [Value.oneCell']
              case b1D => unfold maxLen; omega
              case b2D => omega
              case hBD => have := HDr.out.2.2.2.2; have := hg78.size; omega
              intro v7 w7 hown hchg hnb
              obtain ⟨p7, c7, rfl⟩ := hown.slice
              have HD7 := Lib.hid ((HDr.out.gr hg78).chg hchg (fun g hg => HOr.out.ge hg))
              obtain ⟨-, -, q0, -, -, -, f0, -⟩ := HD7.out.cells
              have HD8 := Lib.hid (HD7.out.set.1 (.slice p7 (k + 1) c7))
              have HO8 : Hid (Own (w.heap.size + 3) 2 (.slice p7 (k + 1) c7) (k + 1) ((ls ++ [((s, (mk : Int)) : Ln)]).flatMap lnC) (w7.setCell ⟨w.heap.size + 1 + 1, 0, none⟩ (.slice p7 (k + 1) c7))) := Lib.hid (by
                have h := hown.keep (setCells_chg (w.heap.size + 1 + 1) [.slice p7 (k + 1) c7] 0 w7) (.inr (fun e => by have := hown.ge e; omega))
                rw [List.flatMap_append]
                exact h)
              have HL8 : Hid ((ls ++ [((s, (mk : Int)) : Ln)]).length = k + 1 ∧ ∀ x ∈ ls ++ [((s, (mk : Int)) : Ln)], lnB x = true) := Lib.hid ⟨by rw [List.length_append, HL.out.1]; rfl, fun x hx => by
                rcases List.mem_append.1 hx with hx | hx
                · exact HL.out.2 x hx
                · obtain rfl := List.mem_singleton.1 hx
                  show lineB s (mk : Int) = true
                  rw [lineB_eq, HPs.out]
                  simp [withinB]
                  omega⟩
              have HB8 : Hid (∀ g, (Value.slice p7 (k + 1) c7).ownBlock = some g → g < (w7.setCell ⟨w.heap.size + 1 + 1, 0, none⟩ (.slice p7 (k + 1) c7)).heap.size) := Lib.hid (fun g hg => by rw [World.size_setCell]; exact hown.lt (by omega) hg)
              clear hown hchg hnb HDr HOr s0 s1 hb2 hG8 HL HPs
              go_wp2_with fail
              go_roundw
              case rel => exact ⟨k + 1, _, _, by omega, by omega, by go_num, HL8, HO8, HD8, HB8⟩
              case measure => simp [intOf]; omega
        · have ht6 : decide (k < 6) = false := decide_eq_false hl6
          have ht6' : decide ((k : Int) < 6) = false := decide_eq_false (by omega)
          go_wp2_with fail
          refine Met.intro (hJ _ _ ?_)
          repeat apply Exists.intro
          refine ⟨?_, rfl⟩
          exact Lib.hid (Made1.mk HL.out HO.out HD.out hk2 HB.out)
      · have ht : decide (k < L1.length) = false := decide_eq_false hlt
        go_wp2_with fail
        refine Met.intro (hJ _ _ ?_)
        repeat apply Exists.intro
        refine ⟨?_, rfl⟩
        exact Lib.hid (Made1.mk HL.out HO.out HD.out hk2 HB.out)
  obtain ⟨ls, vL, hL, hB, hO, hD⟩ := hcut.out
  have HL := Lib.hid hL
  have HO := Lib.hid hO
  have HD := Lib.hid hD
  have HB := Lib.hid hB
  clear hL hO hD hB hcut HV1 HR1 HD0 hn1
  have HBs := Lib.hid (show w.heap.size + 3 ≤ wc.heap.size from HD.out.2.2.2.2)
  go_upto_block 4 with fail
  obtain ⟨wb, hwb⟩ : ∃ wb, wb = wc := ⟨_, rfl⟩
  subst hwb
  go_cut [11, 12, 13] from 57 to 123 (fun _ _ _ wx => Hid (Made2 w r0 r1 wx))
  case first =>
    rename_i JJ KK hJ hK
    go_wp2_with fail
    go_loopw [11, 12] (fun v11 v12 W => ∃ (k i : Nat) (cs : List Ce) (vC : Value), v11 = .int .i64 (k : Int) ∧ v12 = .int .i64 (i : Int) ∧ i ≤ L2.length ∧ k ≤ 27 ∧ Hid (CsOk cs k) ∧ Hid (Own wb.heap.size 6 vC cs.length (cs.flatMap ceC) W) ∧ Hid (Own (w.heap.size + 3) 2 vL ls.length (ls.flatMap lnC) W) ∧ Hid (DocW w vL vC 0 ⟨#[]⟩ r0 r1 W) ∧ Hid (wb.heap.size ≤ W.heap.size) ∧ Hid (∀ g, vC.ownBlock = some g → g < W.heap.size)) (fun _ v12 _ => L2.length - (intOf v12).toNat)
    case atStart => exact ⟨0, 0, [], _, rfl, rfl, Nat.zero_le _, by decide, Lib.hid ⟨Nat.zero_le _, (fun x h => by cases h), List.Pairwise.nil⟩, Lib.hid (Own.nil _ _ _), HO, HD, Lib.hid (Nat.le_refl _), Lib.hid (fun g h => by cases h)⟩
    case round =>
      obtain ⟨k, i, cs, vC, rfl, rfl, hi, hk, HC, HOC, HOL, HDr, HSz, HBC⟩ := hrel
      have hout : ∀ (JJ : World → Prop), (Made2 w r0 r1 wr → JJ wr) → JJ wr := fun JJ h => h ⟨ls, vL, cs, vC, HL.out, ⟨by have := HC.out.1; omega, fun x hx => by obtain ⟨a, b, c⟩ := HC.out.2.1 x hx; exact ⟨a, by omega, c⟩, HC.out.2.2⟩, HOL.out, HOC.out.mono HBs.out, HDr.out⟩
      have HM2 : Hid (Made2 w r0 r1 wr) := Lib.hid (hout (Made2 w r0 r1) id)
      clear hout
      by_cases hlt : i < L2.length
      · have ht : decide (i < L2.length) = true := decide_eq_true hlt
        by_cases h25 : k < 25
        · have ht6 : decide (k < 25) = true := decide_eq_true h25
          have ht6' : decide ((k : Int) < 25) = true := decide_eq_true (by omega)
          obtain ⟨x, hx⟩ : ∃ x, L2[i]? = some x := ⟨_, List.getElem?_eq_getElem hlt⟩
          obtain ⟨hx1, hx2, hx3⟩ := HR2.out x (List.mem_of_getElem? hx)
          obtain ⟨g, off, rfl, hlc, hc⟩ := (HV2.out.gr HDr.out.2.2.2.1).at_ hx
          have HGw : Hid (g < w.heap.size) := Lib.hid (by
            obtain ⟨g', off', he, _, hc'⟩ := HV2.out.at_ hx
            cases he
            exact World.block_lt_of_cell? w _ (hc' 0 _ rfl))
          obtain ⟨a, b, c⟩ := x
          have hc0 := hc 0 _ rfl
          have hc1 := hc 1 _ rfl
          have hc2 := hc 2 _ rfl
          rw [Nat.add_zero] at hc0
          rw [← Nat.add_assoc] at hc1 hc2
          simp only at hx1 hx2 hx3 hc0 hc1 hc2
          obtain ⟨q, hq⟩ : ∃ q, k / 5 = q := ⟨_, rfl⟩
          obtain ⟨r, hr⟩ : ∃ r, k % 5 = r := ⟨_, rfl⟩
          have eq5 : (k : Int) / 5 = (q : Int) := by omega
          have er5 : (k : Int) % 5 = (r : Int) := by omega
          have hq4 : q ≤ 4 := by omega
          have hr4 : r ≤ 4 := by omega
          have HK5 : Hid (q * 5 + r = k) := Lib.hid (by omega)
          clear hx hc hq hr
          go_upto_region 16 with fail
          refine wp_gen (F := fun y => Gr wr y ∧ y.heap[wr.heap.size]? = some (.cells #[.int .i64 (q : Int), .int .i64 (r : Int), .bool false, .int .i64 0, .int .i64 0, .int .i64 0] 63 (0, 0))) ⟨Gr.alloc _ _, heap_alloc_new _ _⟩ ?_
          rintro wB ⟨hgB, hrB⟩
          have hCA : CellAt wr.heap.size ⟨(q : Int), (r : Int), false, 0, 0, 0⟩ wB := hrB
          have HCA := Lib.hid hCA
          have HBx : Hid (wb.heap.size ≤ wr.heap.size) := HSz
          have hgl : g < wr.heap.size := World.block_lt_of_cell? wr _ hc0
          have HGl := Lib.hid hgl
          have hc0 := hgB.cell hc0
          have HC0 : Hid (wB.cell? ⟨g, off + i * 3, none⟩ = some (.int .i64 a)) := Lib.hid hc0
          have HC1 : Hid (wB.cell? ⟨g, off + i * 3 + 1, none⟩ = some (.int .i64 b)) := Lib.hid (hgB.cell hc1)
          have HC2 : Hid (wB.cell? ⟨g, off + i * 3 + 2, none⟩ = some (.int .i64 c)) := Lib.hid (hgB.cell hc2)
          have HOCB := Lib.hid (HOC.out.gr hgB)
          have HOLB := Lib.hid (HOL.out.gr hgB)
          have HDB := Lib.hid (HDr.out.gr hgB)
          have HBxB : Hid (wr.heap.size < wB.heap.size) := Lib.hid (Array.getElem?_eq_some_iff.1 hrB).1
          clear hgB hrB hCA hc1 hc2 HOC HOL HDr hgl HM2 HSz
          generalize wr.heap.size = bx at HCA HBx HGl HBxB HBC ⊢
          obtain ⟨e0, e1, e2, e3, e4, e5, f2, f3, f4, f5⟩ := HCA.out.cells
          simp only at e0 e1 e2 e3 e4 e5
          have HPa : Hid (∀ y, Calls Tryz.prog 67 #[.int .i64 a, .int .i64 3] y fun e y' => e = .returned (.int .i64 (pickD a 3 : Int)) ∧ y = y') := Lib.hid (fun y => pick6_any a 3 y hx1 (by decide) (by decide))
          have HPb : Hid (∀ y, Calls Tryz.prog 67 #[.int .i64 b, .int .i64 201] y fun e y' => e = .returned (.int .i64 (pickD b 201 : Int)) ∧ y = y') := Lib.hid (fun y => pick6_any b 201 y hx2 (by decide) (by decide))
          have HPt : Hid (∀ y, Calls Tryz.prog 67 #[.int .i64 b, .int .i64 ((q + 1 : Nat) : Int)] y fun e y' => e = .returned (.int .i64 (pickD b (q + 1) : Int)) ∧ y = y') := Lib.hid (fun y => pick6_any b (q + 1) y hx2 (by omega) (by omega))
          have HPl : Hid (∀ y, Calls Tryz.prog 67 #[.int .i64 c, .int .i64 ((r + 1 : Nat) : Int)] y fun e y' => e = .returned (.int .i64 (pickD c (r + 1) : Int)) ∧ y = y') := Lib.hid (fun y => pick6_any c (r + 1) y hx3 (by omega) (by omega))
          have HPn : Hid (∀ y, Calls Tryz.prog 67 #[.int .i64 (wrap64 (a.tdiv 3)), .int .i64 3] y fun e y' => e = .returned (.int .i64 (pickD (a.tdiv 3) 3 : Int)) ∧ y = y') := Lib.hid (fun y => by rw [show wrap64 (a.tdiv 3) = a.tdiv 3 from wrap_tdiv hx1 3 (by decide)]; exact pick6_any (a.tdiv 3) 3 y (tdiv_i64 hx1 3 (by decide)) (by decide) (by decide))
          have hv201 := pickD_lt b 201 (by decide)
          have htq := pickD_lt b (q + 1) (by omega)
          have hlr := pickD_lt c (r + 1) (by omega)
          have hn3 := pickD_lt (a.tdiv 3) 3 (by decide)
          generalize pickD b 201 = vv at HPb hv201
          generalize pickD b (q + 1) = tt at HPt htq
          generalize pickD c (r + 1) = ll at HPl hlr
          generalize pickD (a.tdiv 3) 3 = nn at HPn hn3
          clear hx1 hx2 hx3
          go_wp2_with fail
          refine (HPa.out _).mono ?_
          rintro e y ⟨rfl, rfl⟩
          generalize pickD a 3 = pa
          have hpa : pa = 0 ∨ pa ≠ 0 := Decidable.em _
          rcases hpa with hp | hp
          case' inl =>
            have tp : ((pa : Int) == 0) = true := by rw [hp]; rfl
            have tp' : (pa == 0) = true := by rw [hp]; rfl
            clear hp
            have hc1 := HC1.out
            go_upto_region 18 with fail
            refine wp_gen (F := fun y => Chg (some bx) wB y ∧ CellAt bx ⟨(q : Int), (r : Int), true, 0, 0, 0⟩ y) ⟨chg_set (Chg.of_gr (Gr.refl wB)) (Gr.refl wB), by unfold CellAt; rw [heap_setCell_same _ _ _ _ _ _ HCA.out]; rfl⟩ ?_
            rintro w18 ⟨hch18, hA18⟩
            have HCh18 := Lib.hid hch18
            have HA18 := Lib.hid hA18
            obtain ⟨z0, z1, z2, z3, z4, z5, y2, y3, y4, y5⟩ := hA18.cells
            simp only at z0 z1 z2 z3 z4 z5
            have zx := hch18.cell HC1.out (fun e => by cases e; exact absurd HGl.out (Nat.lt_irrefl _))
            clear hch18 hA18 e0 e1 e2 e3 e4 e5 f2 f3 f4 f5 hc1 hc0
            have t18a : ∀ n : GrS w18.drew, n.w.cell? ⟨bx, 0, none⟩ = some (.int .i64 (q : Int)) := fun n => n.h.cell (w := w18.drew) z0
            have t18b : ∀ n : GrS w18.drew, n.w.cell? ⟨g, off + i * 3 + 1, none⟩ = some (.int .i64 b) := fun n => n.h.cell (w := w18.drew) zx
            have hadd : IntKind.i64.wrap ((q : Int) + 1) = ((q + 1 : Nat) : Int) := by rw [IntWalk.i64_in _ (by omega)]; simp
            clear z0 z1 z2 z3 z4 z5 y2 y3 y4 y5 zx
            refine region_grow 9 156 (by kernel_rfl) rfl (by kernel_rfl) rfl rfl ?_
            simp only [List.take_succ_cons, List.take_zero, List.drop_succ_cons, List.drop_zero]
            refine seg 8 rfl rfl rfl rfl ?_
            simp only [List.take_succ_cons, List.take_zero, List.drop_succ_cons, List.drop_zero]
            repeat (go_big_quiet_step (fail))
            refine wpQuiet_nil ?_
            intro _
            refine grow_det (v := .int .i64 (tt : Int)) rfl rfl rfl rfl rfl ?_ ?_
            · intro w1 hG
              go_simp
              refine (HPt.out w1).mono ?_
              rintro e w' ⟨rfl, rfl⟩
              exact ⟨rfl, Gr.refl _⟩
            simp only [Act.put, List.setIfInBounds_toArray, List.set_cons_zero, List.set_cons_succ]
            refine grow_end0 rfl rfl ?_
            intro w182 hG18
            have HG18 : Hid (Gr w18 w182) := Lib.hid (Gr.trans (Gr.drew w18) hG18)
            clear t18a t18b hadd hG18
            obtain ⟨z0, z1, z2, z3, z4, z5, y2, y3, y4, y5⟩ := (HA18.out.gr HG18.out).cells
            simp only at z0 z1 z2 z3 z4 z5
            go_upto_region 19 with fail
            refine wp_gen (F := fun y => Chg (some bx) wB y ∧ CellAt bx ⟨(q : Int), (r : Int), true, 0, (tt : Int), 0⟩ y) ⟨chg_set HCh18.out HG18.out, by unfold CellAt; rw [heap_setCell_same _ _ _ _ _ _ (HA18.out.gr HG18.out)]; rfl⟩ ?_
            clear z0 z1 z2 z3 z4 z5 y2 y3 y4 y5
            rintro w19 ⟨hch19, hA19⟩
            have HCh19 := Lib.hid hch19
            have HA19 := Lib.hid hA19
            obtain ⟨z0, z1, z2, z3, z4, z5, y2, y3, y4, y5⟩ := hA19.cells
            simp only at z0 z1 z2 z3 z4 z5
            have zx := hch19.cell HC2.out (fun e => by cases e; exact absurd HGl.out (Nat.lt_irrefl _))
            clear hch19 hA19 HCh18 HA18 HG18
            have t19a : ∀ n : GrS w19.drew, n.w.cell? ⟨bx, 1, none⟩ = some (.int .i64 (r : Int)) := fun n => n.h.cell (w := w19.drew) z1
            have t19b : ∀ n : GrS w19.drew, n.w.cell? ⟨g, off + i * 3 + 2, none⟩ = some (.int .i64 c) := fun n => n.h.cell (w := w19.drew) zx
            have hadd : IntKind.i64.wrap ((r : Int) + 1) = ((r + 1 : Nat) : Int) := by rw [IntWalk.i64_in _ (by omega)]; simp
            clear z0 z1 z2 z3 z4 z5 y2 y3 y4 y5 zx
            refine region_grow 9 156 (by kernel_rfl) rfl (by kernel_rfl) rfl rfl ?_
            simp only [List.take_succ_cons, List.take_zero, List.drop_succ_cons, List.drop_zero]
            refine seg 8 rfl rfl rfl rfl ?_
            simp only [List.take_succ_cons, List.take_zero, List.drop_succ_cons, List.drop_zero]
            repeat (go_big_quiet_step (fail))
            refine wpQuiet_nil ?_
            intro _
            refine grow_det (v := .int .i64 (ll : Int)) rfl rfl rfl rfl rfl ?_ ?_
            · intro w1 hG
              go_simp
              refine (HPl.out w1).mono ?_
              rintro e w' ⟨rfl, rfl⟩
              exact ⟨rfl, Gr.refl _⟩
            simp only [Act.put, List.setIfInBounds_toArray, List.set_cons_zero, List.set_cons_succ]
            refine grow_end0 rfl rfl ?_
            intro w192 hG19
            have HG19 : Hid (Gr w19 w192) := Lib.hid (Gr.trans (Gr.drew w19) hG19)
            clear t19a t19b hadd hG19
            obtain ⟨z0, z1, z2, z3, z4, z5, y2, y3, y4, y5⟩ := (HA19.out.gr HG19.out).cells
            simp only at z0 z1 z2 z3 z4 z5
            go_upto_region 21 with fail
            refine wp_gen (F := Good bx k wB) ?_ ?_
            · refine ⟨chg_set HCh19.out HG19.out, ⟨(q : Int), (r : Int), true, 0, (tt : Int), (ll : Int)⟩, ?_, ?_, ?_, ?_⟩
              · simp [ceB, withinB]; omega
              · have := HK5.out; simp only; omega
              · simp only; omega
              · unfold CellAt
                rw [heap_setCell_same _ _ _ _ _ _ (HA19.out.gr HG19.out)]; rfl
            clear z0 z1 z2 z3 z4 z5 y2 y3 y4 y5 HA19 HCh19 HG19
          case' inr =>
            have tp : ((pa : Int) == 0) = false := beq_eq_false_iff_ne.2 (by omega)
            have tp' : (pa == 0) = false := beq_eq_false_iff_ne.2 hp
            have hc1 := HC1.out
            clear hp
            go_wp2_with fail
            refine (HPb.out _).mono ?_
            rintro e y ⟨rfl, rfl⟩
            have hsub : IntKind.i64.wrap ((vv : Int) - 100) = (vv : Int) - 100 := IntWalk.i64_in _ (by omega)
            go_upto_region 21 with fail
            refine wp_gen (F := Good bx k wB) ?_ ?_
            · refine ⟨chg_set (Chg.of_gr (Gr.refl wB)) (Gr.refl wB), ⟨(q : Int), (r : Int), false, (vv : Int) - 100, 0, 0⟩, ?_, ?_, ?_, ?_⟩
              · simp [ceB, withinB]; omega
              · have := HK5.out; simp only; omega
              · simp only; omega
              · unfold CellAt
                rw [heap_setCell_same _ _ _ _ _ _ HCA.out]; rfl
            clear e0 e1 e2 e3 e4 e5 f2 f3 f4 f5 hc1 hc0 hsub
          all_goals
            (rintro W21 ⟨hchB, x, hx1, hx2, hx3, hxA⟩
             obtain ⟨e0, e1, e2, e3, e4, e5, -⟩ := hxA.cells
             have HDW := Lib.hid (HDB.out.chg hchB (fun g hg => by cases hg; exact Nat.le_trans HBs.out HBx.out))
             obtain ⟨-, -, -, q1, -, -, -, y1, -⟩ := HDW.out.cells
             have HOC21 := Lib.hid (HOCB.out.keep hchB (.inr (fun e => absurd (HBC.out _ e) (Nat.lt_irrefl _))))
             have HOL21 := Lib.hid (HOLB.out.keep hchB (.inr (fun e => absurd (Nat.lt_of_lt_of_le (HB.out _ e) HBx.out) (Nat.lt_irrefl _))))
             have HA21 : Hid (W21.cell? ⟨g, off + i * 3, none⟩ = some (.int .i64 a)) := Lib.hid (hchB.cell HC0.out (fun e => by cases e; exact absurd HGl.out (Nat.lt_irrefl _)))
             have HSz21 : Hid (wb.heap.size ≤ W21.heap.size) := Lib.hid (Nat.le_trans (Nat.le_trans HBx.out (Nat.le_of_lt HBxB.out)) hchB.size)
             have HCs := Lib.hid (fun k' hk' => HC.out.push x hx1 hx2 hx3 k' hk')
             obtain ⟨xr, xc, xs, xv, xt, xl⟩ := x
             simp only at e0 e1 e2 e3 e4 e5
             clear hchB hx1 hx2 hx3 hxA HDB HOCB HOLB HC0 HC1 HC2 HCA HPa HPb HPt HPl HBxB HK5
             go_upto_region 22 with ((with_reducible show wpList _ _ _ (⟨some 112, _, _, _, _, _⟩ :: _) _ _); refine wpList_append_Own rfl (.tmp 109) (.tmp 111) 33 rfl 63 iC (.agg #[.int .i64 0, .int .i64 0, .bool false, .int .i64 0, .int .i64 0, .int .i64 0]) 6 48 Tryz.underlying33 hiC hzC hszC hbC rfl (by decide) rfl (HOC21.out.gr (Gr.alloc W21 _)) ⟨W21.heap.size, 0, none⟩ 1 1 [.int .i64 xr, .int .i64 xc, .bool xs, .int .i64 xv, .int .i64 xt, .int .i64 xl] rfl rfl (cells_new_at W21 [.int .i64 xr, .int .i64 xc, .bool xs, .int .i64 xv, .int .i64 xt, .int .i64 xl] 63) (one6 xr xc xs xv xt xl) Nat.one_pos ?b1C ?b2C ?hBC ?_)
             case b1C => have := HC.out.1; unfold maxLen; omega
             case b2C => have := HC.out.1; omega
             case hBC => have := HSz21.out; simp; omega
             intro v7 w7 hown hchg hnb
             obtain ⟨p7, c7, rfl⟩ := hown.slice
             have HD7 := Lib.hid ((HDW.out.gr (Gr.alloc W21 (.cells #[.int .i64 xr, .int .i64 xc, .bool xs, .int .i64 xv, .int .i64 xt, .int .i64 xl] 63))).chg hchg (fun g hg => Nat.le_trans HBs.out (HOC21.out.ge hg)))
             have HA7 : Hid (w7.cell? ⟨g, off + i * 3, none⟩ = some (.int .i64 a)) := Lib.hid (hchg.cell ((Gr.alloc W21 _).cell HA21.out) (fun e => by have := HOC21.out.ge e.symm; have := HGw.out; have := HBs.out; simp only at *; omega))
             have HOL7 := Lib.hid ((HOL21.out.gr (Gr.alloc W21 (.cells #[.int .i64 xr, .int .i64 xc, .bool xs, .int .i64 xv, .int .i64 xt, .int .i64 xl] 63))).keep hchg (own_apart HOC21.out HB.out))
             have HD8 := Lib.hid (HD7.out.set.2.1 (.slice p7 (cs.length + 1) c7))
             have hst := setCells_chg (w.heap.size + 1 + 1) [.slice p7 (cs.length + 1) c7] 1 w7
             have HOC8 : Hid (Own wb.heap.size 6 (.slice p7 (cs.length + 1) c7) (cs ++ [(⟨xr, xc, xs, xv, xt, xl⟩ : Ce)]).length ((cs ++ [(⟨xr, xc, xs, xv, xt, xl⟩ : Ce)]).flatMap ceC) (w7.setCell ⟨w.heap.size + 1 + 1, 1, none⟩ (.slice p7 (cs.length + 1) c7))) := Lib.hid (by
               have h := hown.keep hst (.inr (fun e => by have := hown.ge e; have := HBs.out; omega))
               rw [List.flatMap_append, List.length_append]
               exact h)
             have HOL8 : Hid (Own (w.heap.size + 3) 2 vL ls.length (ls.flatMap lnC) (w7.setCell ⟨w.heap.size + 1 + 1, 1, none⟩ (.slice p7 (cs.length + 1) c7))) := Lib.hid (HOL7.out.keep hst (.inr (fun e => by have := HOL7.out.ge e; omega)))
             have HB8 : Hid (∀ g, (Value.slice p7 (cs.length + 1) c7).ownBlock = some g → g < (w7.setCell ⟨w.heap.size + 1 + 1, 1, none⟩ (.slice p7 (cs.length + 1) c7)).heap.size) := Lib.hid (fun g hg => by rw [World.size_setCell]; exact hown.lt (by omega) hg)
             have HA8 : Hid ((w7.setCell ⟨w.heap.size + 1 + 1, 1, none⟩ (.slice p7 (cs.length + 1) c7)).cell? ⟨g, off + i * 3, none⟩ = some (.int .i64 a)) := Lib.hid (hst.cell HA7.out (fun e => by have := HGw.out; simp only [Option.some.injEq] at e; omega))
             have HSz8 : Hid (wb.heap.size ≤ (w7.setCell ⟨w.heap.size + 1 + 1, 1, none⟩ (.slice p7 (cs.length + 1) c7)).heap.size) := Lib.hid (by
               rw [World.size_setCell]
               exact Nat.le_trans HSz21.out (Nat.le_trans (Gr.alloc W21 (.cells #[.int .i64 xr, .int .i64 xc, .bool xs, .int .i64 xv, .int .i64 xt, .int .i64 xl] 63)).size hchg.size))
             obtain ⟨-, -, -, q1, -, -, -, y1, -⟩ := HD7.out.cells
             clear hown hchg hnb hst HDW HOC21 HOL21 HOL7 HA21 HA7 HSz21
             go_upto_region 22 with fail
             generalize w7.setCell ⟨w.heap.size + 1 + 1, 1, none⟩ (.slice p7 (cs.length + 1) c7) = W8 at HD8 HOC8 HOL8 HB8 HA8 HSz8 ⊢
             have ha8 := HA8.out
             clear q1 y1 HD7
             go_wp2_with fail
             refine (HPn.out _).mono ?_
             rintro e y ⟨rfl, rfl⟩
             go_wp2_with fail
             go_roundw
             case rel => exact ⟨k + 1 + nn, i + 1, _, _, by go_num, by go_num, by omega, by omega, Lib.hid (HCs.out _ (by omega)), HOC8, HOL8, HD8, HSz8, HB8⟩
             case measure => simp [intOf]; omega)
        · have ht6 : decide (k < 25) = false := decide_eq_false h25
          have ht6' : decide ((k : Int) < 25) = false := decide_eq_false (by omega)
          go_wp2_with fail
          refine Met.intro (hJ _ _ ?_)
          repeat apply Exists.intro
          refine ⟨?_, rfl⟩
          exact HM2
      · have ht : decide (i < L2.length) = false := decide_eq_false hlt
        go_wp2_with fail
        refine Met.intro (hJ _ _ ?_)
        repeat apply Exists.intro
        refine ⟨?_, rfl⟩
        exact HM2
  obtain ⟨ls2, vL2, cs, vC, hL, hC, hOL, hOC, hD⟩ := hcut.out
  have HL := Lib.hid hL
  have HC := Lib.hid hC
  have HM : Hid (Mid w r0 r1 ls2 vL2 cs vC 0 ⟨#[]⟩ wc) := Lib.hid ⟨hOL, hOC, hD⟩
  clear hL hC hOL hOC hD hcut HV2 HR2 HO HD HB HBs hn2
  obtain ⟨hr0, hr1⟩ := HR.out
  have HPw : Hid (∀ y, Calls Tryz.prog 67 #[.int .i64 r0, .int .i64 6] y fun e y' => e = .returned (.int .i64 (pickD r0 6 : Int)) ∧ y = y') := Lib.hid (fun y => pick6_any r0 6 y hr0 (by decide) (by decide))
  have HPm : Hid (∀ y, Calls Tryz.prog 67 #[.int .i64 r1, .int .i64 1048576] y fun e y' => e = .returned (.int .i64 (pickD r1 1048576 : Int)) ∧ y = y') := Lib.hid (fun y => pick6_any r1 1048576 y hr1 (by decide) (by decide))
  have HPh : Hid (∀ y, Calls Tryz.prog 67 #[.int .i64 (wrap64 (r0.tdiv 6)), .int .i64 4] y fun e y' => e = .returned (.int .i64 (pickD (r0.tdiv 6) 4 : Int)) ∧ y = y') := Lib.hid (fun y => by rw [show wrap64 (r0.tdiv 6) = r0.tdiv 6 from wrap_tdiv hr0 6 (by decide)]; exact pick6_any (r0.tdiv 6) 4 y (tdiv_i64 hr0 6 (by decide)) (by decide) (by decide))
  have hw6 := pickD_lt r0 6 (by decide)
  have hm20 := pickD_lt r1 1048576 (by decide)
  have hh4 := pickD_lt (r0.tdiv 6) 4 (by decide)
  generalize pickD r0 6 = wd at HPw hw6
  generalize pickD r1 1048576 = mm at HPm hm20
  generalize pickD (r0.tdiv 6) 4 = hh at HPh hh4
  clear hr0 hr1 HR
  obtain ⟨q0, q1, -, -, q2, -, -, -, f2, -⟩ := HM.out.2.2.cells
  go_wp2_with fail
  refine (HPw.out _).mono ?_
  rintro e y ⟨rfl, rfl⟩
  go_upto_region 24 with fail
  refine wp_gen (F := Mid w r0 r1 ls2 vL2 cs vC (wd : Int) ⟨#[]⟩) (HM.out.set2 _) ?_
  clear q0 q1 q2 f2 HM HPw
  intro w24 hM24
  have HM := Lib.hid hM24
  obtain ⟨q0, q1, -, -, -, -, -, -, -, -⟩ := hM24.2.2.cells
  clear hM24
  go_wp2_with fail
  refine (HPm.out _).mono ?_
  rintro e y ⟨rfl, rfl⟩
  clear q0 q1 HPm
  go_wp2_with fail
  obtain ⟨T, hT⟩ : ∃ T, wd * (1 + hh) = T := ⟨_, rfl⟩
  have hT20 : T ≤ 20 := by rw [← hT]; exact Nat.mul_le_mul (show wd ≤ 5 by omega) (show 1 + hh ≤ 4 by omega)
  have hw1 : IntKind.i64.wrap (1 + (hh : Int)) = ((1 + hh : Nat) : Int) := by rw [IntWalk.i64_in _ (by omega)]; simp
  have hw2 : IntKind.i64.wrap ((wd : Int) * ((1 + hh : Nat) : Int)) = (T : Int) := by
    have e : (wd : Int) * ((1 + hh : Nat) : Int) = (T : Int) := by rw [← hT]; simp
    rw [e]; exact IntWalk.i64_in _ (by omega)
  have HW1 := Lib.hid hw1
  have HW2 := Lib.hid hw2
  have HT := Lib.hid hT
  clear hw1 hw2 hT
  go_loopw [15] (fun v15 W => ∃ (i : Nat) (bits : ByteArray), v15 = .int .i64 (i : Int) ∧ i ≤ T ∧ bits.size = i ∧ Hid (inB [48, 49] bits = true) ∧ Hid (Mid w r0 r1 ls2 vL2 cs vC (wd : Int) bits W)) (fun v15 _ => T - (intOf v15).toNat)
  case atStart => exact ⟨0, ⟨#[]⟩, rfl, Nat.zero_le _, rfl, Lib.hid rfl, HM⟩
  case round =>
    obtain ⟨i, bits, rfl, hiT, hbs, HB01, HMr⟩ := hrel
    obtain ⟨q0, -, -, -, q2, -, -, -, -, -⟩ := HMr.out.2.2.cells
    have s0 : ∀ n : GrS wr.drew, n.w.cell? ⟨w.heap.size, 0, none⟩ = some (.int .i64 r0) := fun n => n.h.cell (w := wr.drew) q0
    have s1 : ∀ n : GrS wr.drew, n.w.cell? ⟨w.heap.size + 1 + 1, 2, none⟩ = some (.int .i64 (wd : Int)) := fun n => n.h.cell (w := wr.drew) q2
    obtain ⟨bl, hbl⟩ : ∃ bl, decide ((i : Int) < (T : Int)) = bl := ⟨_, rfl⟩
    have HBL := Lib.hid hbl
    clear q0 q2 hbl
    go_upto_region 26 with fail
    refine region_grow 10 156 (by kernel_rfl) rfl (by kernel_rfl) rfl rfl ?_
    simp only [List.take_succ_cons, List.take_zero, List.drop_succ_cons, List.drop_zero]
    refine seg 6 rfl rfl rfl rfl ?_
    simp only [List.take_succ_cons, List.take_zero, List.drop_succ_cons, List.drop_zero]
    repeat (go_big_quiet_step (fail))
    refine wpQuiet_nil ?_
    intro _
    refine grow_det (v := .int .i64 (hh : Int)) rfl rfl rfl rfl rfl ?_ ?_
    · intro w1 hG
      go_simp
      refine (HPh.out w1).mono ?_
      rintro e w' ⟨rfl, rfl⟩
      exact ⟨rfl, Gr.refl _⟩
    simp only [Act.put, List.setIfInBounds_toArray, List.set_cons_zero, List.set_cons_succ]
    refine grow_det (v := .int .i64 ((1 + hh : Nat) : Int)) rfl rfl rfl rfl rfl ?_ ?_
    · intro w1 hG
      go_simp
      exact IntWalk.i64_in _ (by omega)
    simp only [Act.put, List.setIfInBounds_toArray, List.set_cons_zero, List.set_cons_succ]
    refine grow_det (v := .int .i64 (T : Int)) rfl rfl rfl rfl rfl ?_ ?_
    · intro w1 hG
      go_simp
      simpa using HW2.out
    simp only [Act.put, List.setIfInBounds_toArray, List.set_cons_zero, List.set_cons_succ]
    refine grow_det (v := .bool bl) rfl rfl rfl rfl rfl ?_ ?_
    · intro w1 hG
      go_simp
      simpa using HBL.out
    simp only [Act.put, List.setIfInBounds_toArray, List.set_cons_zero, List.set_cons_succ]
    refine grow_end0 rfl rfl ?_
    intro w26 hG26
    have HM26 := Lib.hid (HMr.out.gr (Gr.trans (Gr.drew wr) hG26))
    clear s0 s1 hG26 HMr
    by_cases hlt : i < T
    · have hb : bl = true := by rw [← HBL.out]; exact decide_eq_true (by omega)
      subst hb
      obtain ⟨-, -, -, -, -, q3, -, -, -, -⟩ := HM26.out.2.2.cells
      have s3 : ∀ n : GrS w26.drew, n.w.cell? ⟨w.heap.size + 1 + 1, 3, none⟩ = some (.string bits) := fun n => n.h.cell (w := w26.drew) q3
      obtain ⟨D, hD⟩ : ∃ D, mm / 2 ^ i % 2 = D := ⟨_, rfl⟩
      have hD2 : D < 2 := by rw [← hD]; exact Nat.mod_lt _ (by decide)
      have HDd := Lib.hid hD
      obtain ⟨hb01, hbn⟩ := bit_byte hD2
      generalize UInt8.ofNat (48 + D) = b at hb01 hbn
      have HB1 := Lib.hid hb01
      have HBn := Lib.hid hbn
      have hi20 : i < 20 := by omega
      clear q3 hD hb01 hbn
      go_upto_region 28 with fail
      refine region_grow 11 156 (by kernel_rfl) rfl (by kernel_rfl) rfl rfl ?_
      simp only [List.take_succ_cons, List.take_zero, List.drop_succ_cons, List.drop_zero]
      refine seg 4 rfl rfl rfl rfl ?_
      simp only [List.take_succ_cons, List.take_zero, List.drop_succ_cons, List.drop_zero]
      repeat (go_big_quiet_step (fail))
      refine wpQuiet_nil ?_
      intro _
      refine grow_det (v := .int .i64 ((mm / 2 ^ i : Nat) : Int)) rfl rfl rfl rfl rfl ?_ ?_
      · intro w1 hG
        go_simp
      simp only [Act.put, List.setIfInBounds_toArray, List.set_cons_zero, List.set_cons_succ]
      refine grow_det (v := .int .i64 (D : Int)) rfl rfl rfl rfl rfl ?_ ?_
      · intro w1 hG
        go_simp
        exact shr_mod HDd.out
      simp only [Act.put, List.setIfInBounds_toArray, List.set_cons_zero, List.set_cons_succ]
      refine grow_det (v := .int .i64 ((48 + D : Nat) : Int)) rfl rfl rfl rfl rfl ?_ ?_
      · intro w1 hG
        go_simp
        exact IntWalk.i64_in _ (by omega)
      simp only [Act.put, List.setIfInBounds_toArray, List.set_cons_zero, List.set_cons_succ]
      refine grow_det (v := .int .u8 (b.toNat : Int)) rfl rfl rfl rfl rfl ?_ ?_
      · intro w1 hG
        go_simp
        rw [HBn.out]
        exact u8_wrap (by omega) (by omega)
      simp only [Act.put, List.setIfInBounds_toArray, List.set_cons_zero, List.set_cons_succ]
      refine grow_open (NewEl [.int .u8 (b.toNat : Int)] 5) rfl rfl rfl rfl (stb_el _ _) (fun w1 hG => ?_) ?_
      · go_simp
        exact newEl_alloc _ _ _
      refine grow_det1 151 (v := .string ⟨#[b]⟩) rfl (by decide) rfl rfl rfl (by decide) rfl rfl rfl ?_ ?_
      · rintro w1 u hG ⟨b3, rfl, hb3⟩
        have hcv := conv_byte_at w1 b3 (b) hb3
        go_simp
      simp only [Act.put, List.setIfInBounds_toArray, List.set_cons_zero, List.set_cons_succ]
      refine grow_det (v := .string (bits ++ ⟨#[b]⟩)) rfl rfl rfl rfl rfl ?_ ?_
      · intro w1 hG
        have hadd := add_run bits ⟨#[b]⟩ _ rfl (by rw [hbs]; show i + 1 ≤ _; omega)
        go_simp
      simp only [Act.put, List.setIfInBounds_toArray, List.set_cons_zero, List.set_cons_succ]
      refine grow_end1 rfl rfl (by decide) ?_
      rintro w28 u hG28 -
      simp only [Act.put, List.setIfInBounds_toArray, List.set_cons_zero, List.set_cons_succ]
      have HM28 := Lib.hid (HM26.out.gr (Gr.trans (Gr.drew w26) hG28))
      have HMn := Lib.hid (HM28.out.set3 (bits ++ ⟨#[b]⟩))
      obtain ⟨-, -, -, -, -, q3, -, -, -, f3⟩ := HM28.out.2.2.cells
      have HBn2 : Hid (inB [48, 49] (bits ++ ⟨#[b]⟩) = true) := Lib.hid (by rw [inB_append, HB01.out, HB1.out]; rfl)
      have HSn : Hid ((bits ++ ⟨#[b]⟩ : ByteArray).size = i + 1) := Lib.hid (by rw [ByteArray.size_append, hbs]; rfl)
      clear s3 hG28 HM26 HM28
      go_wp2_with fail
      go_roundw
      case rel => exact ⟨i + 1, _, by go_num, by omega, HSn.out, HBn2, HMn⟩
      case measure => simp [intOf]; omega
    · have hb : bl = false := by rw [← HBL.out]; exact decide_eq_false (by omega)
      subst hb
      have hiE : i = T := by omega
      subst hiE
      go_upto_region 29 with fail
      obtain ⟨-, -, q0, q1, q2, q3, -⟩ := HM26.out.2.2.cells
      obtain ⟨p0, p1', p2', p3, f0, f1, f2, f3⟩ := HM26.out.2.2.res
      obtain ⟨pl, cl, hsl⟩ := HM26.out.1.slice
      obtain ⟨pc, cc, hsc⟩ := HM26.out.2.1.slice
      subst hsl hsc
      go_wp2_with fail
      have hrow := row_set4 (a' := .slice pl ls2.length cl) (b' := .slice pc cs.length cc) (c' := .int .i64 (wd : Int)) (d' := .string bits) HM26.out.2.2.2.1
      have hch : Chg (some (w.heap.size + 1)) w26 ((((w26.setCell ⟨w.heap.size + 1, 0, none⟩ (.slice pl ls2.length cl)).setCell ⟨w.heap.size + 1, 1, none⟩ (.slice pc cs.length cc)).setCell ⟨w.heap.size + 1, 2, none⟩ (.int .i64 (wd : Int))).setCell ⟨w.heap.size + 1, 3, none⟩ (.string bits)) := setCells_chg (w.heap.size + 1) [.slice pl ls2.length cl, .slice pc cs.length cc, .int .i64 (wd : Int), .string bits] 0 w26
      refine bodyPost_ret (results_cell_row rfl _ _ (w.heap.size + 1) 35 _ (0, 0) _ rfl hrow Tryz.underlying35 rfl (by kernel_rfl)) rfl ?_
      refine ⟨_, _, ls2, cs, (wd : Int), bits, rfl, ⟨own_rws (s := 2) (enc := lnC) (fun _ => rfl) (HM26.out.1.keep hch (.inr (fun e => by have := HM26.out.1.ge e; omega))), own_rws (s := 6) (enc := ceC) (fun _ => rfl) (HM26.out.2.1.keep hch (.inr (fun e => by have := HM26.out.2.1.ge e; omega)))⟩, ?_, HL.out.1, gr_step HM26.out.2.2.2.2.2.1 (Gr.refl _) hch (fun g e => by cases e; omega), (fun g e => by have := HM26.out.1.ge e; omega), (fun g e => by have := HM26.out.2.1.ge e; omega)⟩
      exact valid_made HL.out HC.out hw6 hh4 (by rw [hbs]; exact HT.out.symm) HB01.out
end
end Go.Proofs.YtaoggehdkddgeaaGreatDoor
end
section
namespace Go.Proofs.YtaoggehdkddgeaaGreatDoor
open Go Go.RowKit Go.Shelf
attribute [local go_sem] gAt gUpon
attribute [local simp] Gr.refl Gr.alloc

structure CaseIn (v1 v2 : Value) (r0 r1 : Int) (w : World) : Prop where
  h : ∃ (L1 : List (Int × Int)) (L2 : List (Int × Int × Int)), Rws 2 p2C v1 L1 w ∧ Rws 3 p3C v2 L2 w ∧ L1.length ≤ 9223372036854775807 ∧ L2.length ≤ 9223372036854775807 ∧ (∀ x ∈ L1, I64 x.1 ∧ I64 x.2) ∧ (∀ x ∈ L2, I64 x.1 ∧ I64 x.2.1 ∧ I64 x.2.2)
  r : I64 r0 ∧ I64 r1
theorem CaseIn.gr {v1 v2 : Value} {r0 r1 : Int} {w x : World} (h : CaseIn v1 v2 r0 r1 w) (hg : Gr w x) : CaseIn v1 v2 r0 r1 x := by
  obtain ⟨⟨L1, L2, h1, h2, h3⟩, hr⟩ := h
  exact ⟨⟨L1, L2, h1.gr hg, h2.gr hg, h3⟩, hr⟩
/-- a valid document -/
def DocOk (vL vC : Value) (ls : List Ln) (cs : List Ce) (wd : Int) (bits : ByteArray) (w : World) : Prop := DocIn vL vC ls cs w ∧ validB ls cs wd bits = true
def MadeAt (w : World) (e : Ending) (w' : World) : Prop := ∃ vL vC ls cs wd bits, e = .returned (.agg #[vL, vC, .int .i64 wd, .string bits]) ∧ DocOk vL vC ls cs wd bits w' ∧ Gr w w'
theorem madeT_any (v1 v2 : Value) (r0 r1 : Int) (w : World) (h : CaseIn v1 v2 r0 r1 w) : Calls Tryz.prog 6 #[.agg #[v1, v2, .int .i64 r0, .int .i64 r1]] w (MadeAt w) := by
  obtain ⟨⟨L1, L2, h1, h2, h3, h4, h5, h6⟩, hr⟩ := h
  have HMd := Lib.hid (fun y (hg : Gr w y) => made6_any v1 v2 L1 L2 r0 r1 y (h1.gr hg) (h2.gr hg) h3 h4 h5 h6 hr)
  obtain ⟨p1, c1, rfl⟩ := h1.shape
  obtain ⟨p2, c2, rfl⟩ := h2.shape
  clear h1 h2 h3 h4 h5 h6 hr
  go_enter Tryz.func6, Tryz.ntmps6
  go_upto_region 1 with fail
  refine wp_gen (F := fun y => Gr w y ∧ y.heap[w.heap.size]? = some (.cells #[.slice p1 L1.length c1, .slice p2 L2.length c2, .int .i64 r0, .int .i64 r1] 26 (0, 0)) ∧ y.heap[w.heap.size + 1]? = some (.cells #[.slice none 0 0, .slice none 0 0, .int .i64 0, .string ⟨#[]⟩] 35 (0, 0))) ⟨Gr.trans (Gr.alloc _ _) (Gr.alloc _ _), (Gr.alloc _ _).block (heap_alloc_new w _), ?_⟩ ?_
  · have h := heap_alloc_new (w.alloc (.cells #[.slice p1 L1.length c1, .slice p2 L2.length c2, .int .i64 r0, .int .i64 r1] 26)) (.cells #[.slice none 0 0, .slice none 0 0, .int .i64 0, .string ⟨#[]⟩] 35)
    rw [World.size_alloc] at h
    exact h
  rintro wA ⟨hgA, hr1, hr2⟩
  obtain ⟨b1, hb1⟩ : ∃ z, w.heap.size = z := ⟨_, rfl⟩
  rw [hb1] at hr1 hr2
  simp only [hb1]
  obtain ⟨b2, hb2⟩ : ∃ z, b1 + 1 = z := ⟨_, rfl⟩
  rw [hb2] at hr2
  simp only [hb2]
  have Hb : Hid (w.heap.size = b1 ∧ b1 + 1 = b2) := Lib.hid ⟨hb1, hb2⟩
  have HG1 := Lib.hid hgA
  have HR1 := Lib.hid hr1
  have HR2 := Lib.hid hr2
  clear hgA hr1 hr2 hb1 hb2
  obtain ⟨k0, k1, k2, k3⟩ := row4 HR1.out
  go_wp2_with fail
  clear k0 k1 k2 k3
  refine (HMd.out wA HG1.out).mono ?_
  rintro e w2 ⟨vL, vC, ls, cs, wd, bits, rfl, hd, hv, hl, hg, hf1, hf2⟩
  obtain ⟨pL, cL, rfl⟩ := hd.1.shape
  obtain ⟨pC, cC, rfl⟩ := hd.2.shape
  have hlt : b2 < wA.heap.size := (Array.getElem?_eq_some_iff.1 HR2.out).1
  have HR22 := Lib.hid (hg.block HR2.out)
  have HG2 := Lib.hid (HG1.out.trans hg)
  have HD := Lib.hid hd
  have HV := Lib.hid hv
  have HF1 : Hid (∀ g, (Value.slice pL ls.length cL).ownBlock = some g → b2 < g) := Lib.hid (fun g h => Nat.lt_of_lt_of_le hlt (hf1 g h))
  have HF2 : Hid (∀ g, (Value.slice pC cs.length cC).ownBlock = some g → b2 < g) := Lib.hid (fun g h => Nat.lt_of_lt_of_le hlt (hf2 g h))
  clear hd hv hl hg hf1 hf2 hlt HR2 HG1 HMd
  obtain ⟨m0, m1, m2, m3⟩ := row4 HR22.out
  have f0 : w2.frozen? ⟨b2, 0, none⟩ = false := frozen_of_row _ _ _ _ _ HR22.out
  have f1 : w2.frozen? ⟨b2, 1, none⟩ = false := frozen_of_row _ _ _ _ _ HR22.out
  have f2 : w2.frozen? ⟨b2, 2, none⟩ = false := frozen_of_row _ _ _ _ _ HR22.out
  have f3 : w2.frozen? ⟨b2, 3, none⟩ = false := frozen_of_row _ _ _ _ _ HR22.out
  go_wp2_with fail
  have hch := setCells_chg b2 [.slice pL ls.length cL, .slice pC cs.length cC, .int .i64 wd, .string bits] 0 w2
  have hrow := row_set4 (a' := .slice pL ls.length cL) (b' := .slice pC cs.length cC) (c' := .int .i64 wd) (d' := .string bits) HR22.out
  clear m0 m1 m2 m3 f0 f1 f2 f3
  obtain ⟨m0, m1, m2, m3⟩ := row4 hrow
  dsimp only [World.setCells, Nat.zero_add, Nat.reduceAdd] at hch
  refine bodyPost_ret (v := .agg #[.slice pL ls.length cL, .slice pC cs.length cC, .int .i64 wd, .string bits]) ?_ rfl ⟨_, _, ls, cs, wd, bits, rfl, ⟨⟨HD.out.1.chg hch (fun g h => by have := HF1.out g h; simp; omega), HD.out.2.chg hch (fun g h => by have := HF2.out g h; simp; omega)⟩, HV.out⟩, gr_step HG2.out (Gr.refl _) hch (fun g e => by cases e; have := Hb.out; omega)⟩
  simp [results, Tryz.results6, go_sem, m0, m1, m2, m3]
end Go.Proofs.YtaoggehdkddgeaaGreatDoor
end
