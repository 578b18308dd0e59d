/- Slices of numbers that a call owns: what the library's sort, Compact and DeleteFunc ask of them and leave. No program in sight. -/
import Derived.Test.YtmkdnfiiehgcaaaDkG
import Derived.Lib.RowBridge
import Derived.Sort.Grow
namespace Go.Proofs.Ytmkdnfiiehgcaaa
open Go Go.RowKit Go.Sort

theorem gr_drewN (w : World) (q : Nat) : Gr w (w.drewN q) := ⟨rfl, rfl, rfl, Nat.le_refl _, fun _ _ => rfl⟩
/-- numbers as cells -/
def iC (l : List Int) : List Value := l.map (Value.int .i64)
theorem iC_length (l : List Int) : (iC l).length = l.length := by simp [iC]
theorem own_holds {B : Nat} {g off n cap : Nat} {zs : List Int} {w : World} (h : Own B 1 (.slice (some ⟨g, off, none⟩) n cap) n (iC zs) w) : Holds (Value.int .i64) w g off zs.toArray := by
  obtain ⟨hl, h⟩ := h
  rw [iC_length, Nat.mul_one] at hl
  rcases h with ⟨h, _⟩ | ⟨g', off', cap', he, hB, hn, hcm, hx, hw⟩
  · cases h
  · injection he with e1 e2 e3
    injection e1 with e1
    injection e1 with e4 e5
    subst e4 e5 e3
    intro j hj
    have hj' : j < zs.length := by simpa using hj
    refine ⟨hx j _ ?_, (hw j (by omega)).2⟩
    simp [iC, hj']
theorem gr_grow (w : World) (os : Array Obj) : Gr w (grow w os) :=
  ⟨rfl, rfl, rfl, by simp [grow], fun k hk => by simp [grow, Array.getElem?_append, hk]⟩
/-- the cells of an owned slice, stored anew -/
theorem own_put {B : Nat} {g off n cap : Nat} {xs ys : List Value} {w : World} (h : Own B 1 (.slice (some ⟨g, off, none⟩) n cap) n xs w) (hy : ys.length = n) (q : Nat) :
    Own B 1 (.slice (some ⟨g, off, none⟩) n cap) n ys ((w.drewN q).setCells g off ys) ∧ Chg (some g) w ((w.drewN q).setCells g off ys) := by
  obtain ⟨hl, h⟩ := h
  have hch : Chg (some g) w ((w.drewN q).setCells g off ys) := (Chg.of_gr (gr_drewN w q)).trans (setCells_chg g _ off _)
  rcases h with ⟨h, _⟩ | ⟨g', off', cap', he, hB, hn, hcm, hx, hw⟩
  · cases h
  · injection he with e1 e2 e3
    injection e1 with e1
    injection e1 with e4 e5
    subst e4 e5 e3
    have hsome : ∀ j, j < ys.length → ((w.drewN q).cell? ⟨g, off + j, none⟩).isSome = true := fun j hj => (hw j (by omega)).1
    refine ⟨⟨by omega, .inr ⟨g, off, cap, rfl, hB, hn, hcm, ?_, ?_⟩⟩, hch⟩
    · intro j u hj
      have hjl := (List.getElem?_eq_some_iff.1 hj).1
      rw [World.cell?_setCells_in g ys off (w.drewN q) hsome j hjl]
      exact congrArg some (List.getElem?_eq_some_iff.1 hj).2
    · intro j hj
      refine ⟨World.isSome_setCells g _ _ _ _ (hw j hj).1, ?_⟩
      rw [World.frozen?_setCells]; exact (hw j hj).2
/-- an owned slice cut to its first elements -/
theorem own_first {B : Nat} {g off n m cap : Nat} {xs : List Value} {w : World} (h : Own B 1 (.slice (some ⟨g, off, none⟩) n cap) n xs w) (hm : m ≤ n) : Own B 1 (.slice (some ⟨g, off, none⟩) m cap) m (xs.take m) w := by
  obtain ⟨hl, h⟩ := h
  rcases h with ⟨h, _⟩ | ⟨g', off', cap', he, hB, hn, hcm, hx, hw⟩
  · cases h
  · injection he with e1 e2 e3
    injection e1 with e1
    injection e1 with e4 e5
    subst e4 e5 e3
    refine ⟨by rw [List.length_take]; omega, .inr ⟨g, off, cap, rfl, hB, by omega, hcm, fun j u hj => ?_, hw⟩⟩
    rw [List.getElem?_take] at hj
    split at hj
    · exact hx j u hj
    · cases hj
/-- behind a call that speaks in the sort's words: whole row stored anew, new blocks behind it -/
theorem own_row_put {B : Nat} {g off n cap q : Nat} {zs ys : List Int} {w : World} {os : Array Obj} (h : Own B 1 (.slice (some ⟨g, off, none⟩) n cap) n (iC zs) w) (hy : ys.length = n) :
    Own B 1 (.slice (some ⟨g, off, none⟩) n cap) n (iC ys) (grow (putRow (Value.int .i64) (Sort.ahead w q) g off ys.toArray) os) ∧ Chg (some g) w (grow (putRow (Value.int .i64) (Sort.ahead w q) g off ys.toArray) os) := by
  have hl := h.1
  rw [iC_length, Nat.mul_one] at hl
  rw [Go.Lib.putRow_eq_setCells (Value.int .i64) w g off zs.toArray ys q (own_holds h) (by simp; omega)]
  obtain ⟨h1, h2⟩ := own_put h (ys := iC ys) (by rw [iC_length]; exact hy) q
  exact ⟨h1.gr (gr_grow _ _), h2.trans (Chg.of_gr (gr_grow _ _))⟩
end Go.Proofs.Ytmkdnfiiehgcaaa
