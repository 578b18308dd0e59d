/- A map from int to bool that the call makes: stores of true, and look-ups. -/
import Derived.Maps.Own
import Derived.Maps.OwnOps
import Derived.Maps.Views
import Derived.WalkArith
import Derived.Test.YtakhomofckcckaaGreatDoorOwn
import Derived.Test.YtakhomofckcckaaGreatDoorMA
namespace Go.Proofs.YtakhomofckcckaaGreatDoor
open Go Go.RowKit
open Go.Maps (Keyed)

theorem bool_inv {H : Type} {P : Program} {e : TypeId} (he : P.underlying e = some .bool) {v : Value} {z : DataW H × List MemPlace} (h : plainElem P e v = some z) : ∃ c, v = .bool c ∧ z = (.lit (.bool c), []) := by
  unfold plainElem at h
  rw [he] at h
  cases v <;> simp at h
  exact ⟨_, rfl, h.symm⟩
def awayD (l : List Int) : DataW Unit := l.foldl (fun m i => m.put (.int .i64 i) (.lit (.bool true))) (.map [])
theorem away_fold (i : Int) : ∀ (l : List Int) (m : DataW Unit), Maps.IsMap m → (l.foldl (fun m i => m.put (.int .i64 i) (.lit (.bool true))) m).atKey (.int .i64 i) (.lit (.bool false)) = if i ∈ l then .lit (.bool true) else m.atKey (.int .i64 i) (.lit (.bool false))
  | [], m, _ => by simp
  | x :: l, m, h => by
    rw [List.foldl_cons, away_fold i l _ (h.put _ _)]
    by_cases hl : i ∈ l
    · rw [if_pos hl, if_pos (List.mem_cons_of_mem _ hl)]
    · rw [if_neg hl]
      by_cases hx : i = x
      · subst hx
        rw [if_pos (List.mem_cons_self ..)]
        exact Maps.atKey_put_same h (by simp [WideAt.IsKeyLit]) _ _
      · rw [if_neg (by simp [hl, hx])]
        exact Maps.atKey_put_other (by simp [hx]) _ _
theorem away_at (l : List Int) (i : Int) : (awayD l).atKey (.int .i64 i) (.lit (.bool false)) = .lit (.bool (decide (i ∈ l))) := by
  unfold awayD
  rw [away_fold i l _ Maps.isMap_empty]
  by_cases h : i ∈ l
  · rw [if_pos h, decide_eq_true h]
  · rw [if_neg h, decide_eq_false h]; rfl
def AwayAt (b : Nat) (l : List Int) (w : World) : Prop := w.ownsMap Tryz.prog 3 (plainElem Tryz.prog 4) b l.length (awayD l)
theorem AwayAt.made (w : World) : AwayAt w.heap.size [] (w.alloc (.map #[] 0)) := World.ownsMap_made w _ _ _
theorem AwayAt.gr {b : Nat} {l : List Int} {w x : World} (h : AwayAt b l w) (hg : Gr w x) : AwayAt b l x := by
  obtain ⟨es, clock, h1, h2⟩ := h
  exact ⟨es, clock, hg.block h1, h2⟩
theorem AwayAt.keep {b : Nat} {l : List Int} {w x : World} {g : Option Nat} (h : AwayAt b l w) (hc : Chg g w x) (hb : some b ≠ g) : AwayAt b l x := by
  obtain ⟨es, clock, h1, h2⟩ := h
  exact ⟨es, clock, hc.block h1 hb, h2⟩
theorem AwayAt.look {b : Nat} {l : List Int} {w : World} (h : AwayAt b l w) (i : Int) (hi : -9223372036854775808 ≤ i ∧ i ≤ 9223372036854775807) :
    (Instr.lookup 85 (.map (some b)) (.int .i64 i) false).run Tryz.prog w = .ok (.bool (decide (i ∈ l))) w := by
  obtain ⟨v, ps, hrun, hv⟩ := World.ownsMap.lookup h (Maps.int_keyed Tryz.underlying3) Tryz.underlying85 (z := .bool false) (by kernel_rfl) (plainElem_bool Tryz.underlying4 false) (Maps.keyOf_int_mk Tryz.underlying3 (WalkArith.wf_i64 hi))
  obtain ⟨c, rfl, hc⟩ := bool_inv Tryz.underlying4 hv
  rw [away_at] at hc
  simp only [Prod.mk.injEq, DataW.lit.injEq, Lit.bool.injEq] at hc
  rw [hrun, hc.1]
theorem AwayAt.put {b : Nat} {l : List Int} {w : World} (h : AwayAt b l w) (i : Int) (hi : -9223372036854775808 ≤ i ∧ i ≤ 9223372036854775807) (hl : l.length < maxLen) :
    ∃ w', (Instr.mapUpdate 85 (.map (some b)) (.int .i64 i) (.bool true)).run Tryz.prog w = .ok () w' ∧ AwayAt b (l ++ [i]) w' ∧ Chg (some b) w w' := by
  obtain ⟨w', hrun, h1, h2⟩ := World.ownsMap.update h (Maps.int_keyed Tryz.underlying3) Tryz.underlying85 hl (Maps.keyOf_int_mk Tryz.underlying3 (WalkArith.wf_i64 hi)) (plainElem_bool Tryz.underlying4 true)
  refine ⟨w', hrun, ?_, Chg.of_grownBy h2⟩
  unfold AwayAt
  rw [show awayD (l ++ [i]) = (awayD l).put (.int .i64 i) (.lit (.bool true)) by simp [awayD], List.length_append]
  exact h1
end Go.Proofs.YtakhomofckcckaaGreatDoor
