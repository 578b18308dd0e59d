/- The crash's filter: DeleteFunc over the numbers that survive, with the closure that reads the disk. -/
import Derived.Test.YtmkdnfiiehgcaaaDsH
namespace Go.Proofs.Ytmkdnfiiehgcaaa
open Go.RowKit Go.Shelf Go.Sort

theorem drop_gives (i : Int) (gd m : Nat) (p : Option Addr) (c B : Nat) (W : World) (h0 : W.cell? ⟨B, 0, none⟩ = some (.pointer (some ⟨gd, 0, none⟩))) (h4 : W.cell? ⟨gd, 4, none⟩ = some (.slice p m c)) :
    FnGives Try.prog 42 #[.pointer (some ⟨B, 0, none⟩)] #[.int .i64 i] (.bool (decide (i < 0) || decide ((m : Int) ≤ i))) W := by
  show Calls Try.prog 42 #[.int .i64 i, .pointer (some ⟨B, 0, none⟩)] W _
  by_cases hi : i < 0
  · have t1 : decide (i < 0) = true := decide_eq_true hi
    go_enter Try.func42, Try.ntmps42
    go_wp2
    go_ret
    exact ⟨by simp [t1], 0, rfl⟩
  · have t1 : decide (i < 0) = false := decide_eq_false hi
    go_enter Try.func42, Try.ntmps42
    go_wp2
    go_ret
    exact ⟨by simp [t1], 0, rfl⟩
theorem drop_any {B0 n : Nat} {u : Value} {zs : List Int} {w : World} {gd m : Nat} {p : Option Addr} {c B : Nat} (h : Own B0 1 u n (iC zs) w) (hn : n ≤ 1000000) (hB : B < B0) (hg : gd < B0) (hBw : B < w.heap.size) (hgw : gd < w.heap.size)
    (h0 : w.cell? ⟨B, 0, none⟩ = some (.pointer (some ⟨gd, 0, none⟩))) (h4 : w.cell? ⟨gd, 4, none⟩ = some (.slice p m c)) :
    Calls Try.prog 41 #[u, .func (.func 42) #[] #[.pointer (some ⟨B, 0, none⟩)]] w fun e w' => ∃ u', e = .returned u' ∧
      Own B0 1 u' (zs.filter fun i => !(decide (i < 0) || decide ((m : Int) ≤ i))).length (iC (zs.filter fun i => !(decide (i < 0) || decide ((m : Int) ≤ i)))) w' ∧ Chg u.ownBlock w w' := by
  have hl := h.1
  rw [iC_length, Nat.mul_one] at hl
  by_cases hn0 : n = 0
  · subst hn0
    have hz : zs = [] := List.eq_nil_of_length_eq_zero hl
    subst hz
    obtain ⟨p', c', rfl⟩ := h.slice2
    have HI := Lib.hid (Try.slices_IndexFunc_empty (α := Int) p' c' (.func (.func 42) #[] #[.pointer (some ⟨B, 0, none⟩)]) w)
    have HO := Lib.hid h
    clear h h0 h4
    go_enter Try.func41, Try.ntmps41
    go_wp2_with fail
    refine HI.out.mono ?_
    rintro e w1 ⟨rfl, rfl⟩
    go_wp2_with fail
    go_ret
    exact ⟨_, rfl, HO.out, Chg.of_gr (Gr.refl _)⟩
  · rcases h.2 with ⟨_, h1⟩ | ⟨g, off, cap, rfl, hb, hc, hm, hx, hw⟩
    · exact absurd h1 hn0
    · have eg : ∀ args w, (callFunc 42 args).run Try.prog w = .ok (.enter 42 args) w := enters_of Try.func42 (by kernel_rfl) rfl
      have hp : PredAt Try.prog 42 #[.pointer (some ⟨B, 0, none⟩)] (Value.int .i64) (fun i => decide (i < 0) || decide ((m : Int) ≤ i)) w :=
        fun W x hb => drop_gives x gd m p c B W ((hb.cell (p := ⟨B, 0, none⟩) hBw).trans h0) ((hb.cell (p := ⟨gd, 4, none⟩) hgw).trans h4)
      have hoc : ∀ (a : Addr) (q : Nat) (os : Array Obj) (dk : Array Int), a.block < w.heap.size → a.block ≠ g → (sortWorld (Value.int .i64) w g off q dk os).cell? a = w.cell? a := fun a q os dk h1 h2 => by
        unfold sortWorld
        rw [cell?_grow _ _ _ (by rw [size_putRow]; exact h1), cell?_putRow_other _ _ g off _ _ (Or.inl h2)]
        rfl
      have hpo : PredOver Try.prog 42 #[.pointer (some ⟨B, 0, none⟩)] (Value.int .i64) (fun i => decide (i < 0) || decide ((m : Int) ≤ i)) g off zs.toArray.size w :=
        fun q os dk x _ => drop_gives x gd m p c B _ ((hoc ⟨B, 0, none⟩ q os dk hBw (by show B ≠ g; omega)).trans h0) ((hoc ⟨gd, 4, none⟩ q os dk hgw (by show gd ≠ g; omega)).trans h4)
      have hs := Try.slices_DeleteFunc (Value.int .i64) (fun _ => rfl) (fun i => decide (i < 0) || decide ((m : Int) ≤ i)) 42 #[.pointer (some ⟨B, 0, none⟩)] eg 0 Try.zeroValue3 g off cap zs.toArray w hp hpo (own_holds h) (by simp; omega) (by simp; omega)
      have hsz : zs.toArray.size = n := by simp; omega
      rw [hsz] at hs
      refine hs.mono ?_
      rintro e w' ⟨rfl, q, rfl⟩
      have hfl : (zs.filter fun i => !(decide (i < 0) || decide ((m : Int) ≤ i))).length ≤ n := by rw [← hl]; exact List.length_filter_le _ _
      generalize he : (zs.filter fun i => !(decide (i < 0) || decide ((m : Int) ≤ i))) = ys at hfl ⊢
      have := own_row_put (q := q) (os := #[]) h (ys := ys ++ List.replicate (n - ys.length) 0) (by simp; omega)
      rw [grow_empty] at this
      obtain ⟨h1, h2⟩ := this
      have h3 := own_first h1 (m := ys.length) (by omega)
      have e : (iC (ys ++ List.replicate (n - ys.length) 0)).take ys.length = iC ys := by
        simp [iC]
      rw [e] at h3
      exact ⟨_, rfl, h3, h2⟩
end Go.Proofs.Ytmkdnfiiehgcaaa
