/- The properties' map of functions. -/
import Derived.Test.YtakhomofckcckaaGreatDoorTxB
import Derived.Maps.Own
import Derived.Maps.OwnOps
import Derived.Maps.Views
import Derived.WalkArith
namespace Go.Proofs.YtakhomofckcckaaGreatDoor
open Go Go.RowKit Go.Shelf
open Go.Maps (Keyed)
attribute [local go_sem] gAt gUpon
attribute [local simp] Gr.refl Gr.alloc

/-- a function's number -/
def Rf : Value → Option (DataW Unit × List MemPlace)
  | .func (.func f) a b => if a.size = 0 ∧ b.size = 0 then some (.lit (.int .i64 (f : Int)), []) else none
  | _ => none
theorem Rf_inv {v : Value} {f : Nat} {ps : List MemPlace} (h : Rf v = some (.lit (.int .i64 (f : Int)), ps)) : v = .func (.func f) #[] #[] := by
  unfold Rf at h
  split at h
  · rename_i f' a b
    split at h
    · rename_i hab
      simp only [Option.some.injEq, Prod.mk.injEq, DataW.lit.injEq, Lit.int.injEq, true_and] at h
      obtain ⟨h1, _⟩ := h
      have h2 : f' = f := by exact_mod_cast h1
      rw [h2, Array.eq_empty_of_size_eq_zero hab.1, Array.eq_empty_of_size_eq_zero hab.2]
    · cases h
  · cases h
def fN (f : Nat) : DataW Unit := .lit (.int .i64 (f : Int))
def kN (k : Int) : Lit := .int .i64 k
def propsD : DataW Unit := ((((((((DataW.map []).put (kN 1) (fN 85)).put (kN 2) (fN 88)).put (kN 3) (fN 89)).put (kN 4) (fN 91)).put (kN 5) (fN 92)).put (kN 6) (fN 94)).put (kN 7) (fN 96)).put (kN 8) (fN 97)
def FunAt (g : Nat) (w : World) : Prop := w.ownsMap Tryz.prog 3 Rf g 8 propsD
theorem FunAt.gr {g : Nat} {w x : World} (h : FunAt g w) (hg : Gr w x) : FunAt g x := by
  obtain ⟨es, clock, h1, h2⟩ := h
  exact ⟨es, clock, hg.block h1, h2⟩
theorem keyI (k : Int) (h : -9223372036854775808 ≤ k ∧ k ≤ 9223372036854775807) : keyOf Tryz.prog 3 (.int .i64 k) = some (kN k) := Maps.keyOf_int_mk Tryz.underlying3 (WalkArith.wf_i64 h)
theorem FunAt.look {g : Nat} {w : World} (h : FunAt g w) (k : Int) (hk : -9223372036854775808 ≤ k ∧ k ≤ 9223372036854775807) (f : Nat) (hf : ∀ zd, propsD.atKey (kN k) zd = fN f) :
    (Instr.lookup 95 (.map (some g)) (.int .i64 k) true).run Tryz.prog w = .ok (.tuple #[.func (.func f) #[] #[], .bool true]) w := by
  obtain ⟨es, clock, hb, F, _, hD⟩ := h
  rcases Maps.fit_look true (Maps.int_keyed Tryz.underlying3) Tryz.underlying95 (z := .nilFunc) (by kernel_rfl) hb F (keyI k hk) with ⟨_, _, hat⟩ | ⟨e0, y, _, _, hrun, hR, hat, _⟩
  · exfalso
    have h1 := hat (.lit (.bool true))
    rw [← hD, hf] at h1
    cases h1
  · have h1 := hat (.lit (.bool true))
    rw [← hD, hf] at h1
    obtain ⟨y1, y2⟩ := y
    simp only at h1
    subst h1
    rw [hrun, Rf_inv hR]
    rfl
theorem propsD1 (zd : DataW Unit) : propsD.atKey (kN 1) zd = fN 85 := rfl
theorem propsD2 (zd : DataW Unit) : propsD.atKey (kN 2) zd = fN 88 := rfl
theorem put_fun {w : World} {b n : Nat} {D : DataW Unit} (h : w.ownsMap Tryz.prog 3 Rf b n D) (hn : n < maxLen) (k : Int) (hk : -9223372036854775808 ≤ k ∧ k ≤ 9223372036854775807) (f : Nat) :
    ∃ w', (Instr.mapUpdate 95 (.map (some b)) (.int .i64 k) (.func (.func f) #[] #[])).run Tryz.prog w = .ok () w' ∧ w'.ownsMap Tryz.prog 3 Rf b (n + 1) (D.put (kN k) (fN f)) ∧ w.grownBy w' (some b) :=
  World.ownsMap.update h (Maps.int_keyed Tryz.underlying3) Tryz.underlying95 hn (keyI k hk) (val := .func (.func f) #[] #[]) (d := fN f) (ps := []) (by unfold Rf; simp; rfl)
set_option maxRecDepth 100000 in
set_option maxHeartbeats 2000000 in
theorem props_any (w : World) : Calls Tryz.prog 57 #[] w fun e w' => ∃ g, e = .returned (.map (some g)) ∧ FunAt g w' ∧ Gr w w' := by
  have hM := World.ownsMap_made w Tryz.prog 3 Rf
  obtain ⟨w1, r1, m1, g1⟩ := put_fun hM (by decide) 1 (by decide) 85
  obtain ⟨w2, r2, m2, g2⟩ := put_fun m1 (by decide) 2 (by decide) 88
  obtain ⟨w3, r3, m3, g3⟩ := put_fun m2 (by decide) 3 (by decide) 89
  obtain ⟨w4, r4, m4, g4⟩ := put_fun m3 (by decide) 4 (by decide) 91
  obtain ⟨w5, r5, m5, g5⟩ := put_fun m4 (by decide) 5 (by decide) 92
  obtain ⟨w6, r6, m6, g6⟩ := put_fun m5 (by decide) 6 (by decide) 94
  obtain ⟨w7, r7, m7, g7⟩ := put_fun m6 (by decide) 7 (by decide) 96
  obtain ⟨w8, r8, m8, g8⟩ := put_fun m7 (by decide) 8 (by decide) 97
  have hch : Chg (some w.heap.size) (w.alloc (.map #[] 0)) w8 := ((((((((Chg.of_grownBy g1).trans (Chg.of_grownBy g2)).trans (Chg.of_grownBy g3)).trans (Chg.of_grownBy g4)).trans (Chg.of_grownBy g5)).trans (Chg.of_grownBy g6)).trans (Chg.of_grownBy g7)).trans (Chg.of_grownBy g8))
  have HF : Hid (FunAt w.heap.size w8 ∧ Gr w w8) := Lib.hid ⟨m8, gr_step (Gr.refl w) (Gr.alloc _ _) hch (fun g e => by cases e; exact Nat.le_refl _)⟩
  have hmm := @run_makeMap Tryz.prog
  clear hM m1 m2 m3 m4 m5 m6 m7 m8 g1 g2 g3 g4 g5 g6 g7 g8 hch
  go_enter Tryz.func57, Tryz.ntmps57
  go_wp2_with fail
  go_ret
  exact ⟨_, rfl, HF.out⟩
end Go.Proofs.YtakhomofckcckaaGreatDoor
