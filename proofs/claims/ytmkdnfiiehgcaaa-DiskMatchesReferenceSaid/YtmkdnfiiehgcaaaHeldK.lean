/- Steps of a region that draws its order, one by one: what is loaded is known of every world that meets a condition; the calls come in one forced order. No program in sight. -/
import Derived.Deep.RegionHeld3
namespace Go.Proofs.Ytmkdnfiiehgcaaa
open Go

section
variable {P : Program} {ops : Array Oper} {Q : Exit → Act → World → Prop} {md : Region.Mode} {S : World → Prop} {fuel : Nat} {listed : Array Bool} {a : Act} {w : World}
def hUpon (P : Program) (C : Value → World → Prop) : Result Next → Prop
  | .ok (.value u) w' => C u w'
  | .ok .skip w' => C undef w'
  | .ok (.enter f args) w' => Calls P f args w' (fun e w'' => ∃ v, e = .returned v ∧ C v w'')
  | _ => False
/-- what is shown first, and what follows of it -/
def Thn (p q : Prop) : Prop := p ∧ (p → q)
theorem Thn.mk {p q : Prop} (h : p) (k : p → q) : Thn p q := ⟨h, k⟩
/-- operation i yields v wherever S holds -/
theorem held_take (i : Nat) {oi : Oper} {v : Value} {d : Tmp} (hi : ops[i]? = some oi) (hd : oi.dst = some d) (hs : Region.noSelect ops = true) (hf : Region.free md ops listed i = true) (hr : (Region.ready md ops listed).contains i = true)
    (hQ : ∀ c a w, Q (.panic c) (a.put (some d) v) w → Q (.panic c) a w) (hw : Region.wanted oi (yielded ops a.tmps) = true) (hy : ∀ w, S w → (execOp a.eval oi).run P w = .ok (.value v) w) (hS : S w)
    (h : wpAnyH P md ops Q S fuel (listed.setIfInBounds i true) (a.put (some d) v) w) : wpAnyH P md ops Q S (fuel + 1) listed a w :=
  wpAnyH_take hi hs hf hr (by rw [hd]; exact hQ) (Or.inl ⟨hw, hy⟩) hS (by rw [hd]; exact h)
/-- operation i is left out: its guard says so -/
theorem held_skip (i : Nat) {oi : Oper} {d : Tmp} (hi : ops[i]? = some oi) (hd : oi.dst = some d) (hs : Region.noSelect ops = true) (hf : Region.free md ops listed i = true) (hr : (Region.ready md ops listed).contains i = true)
    (hQ : ∀ c a w, Q (.panic c) (a.put (some d) undef) w → Q (.panic c) a w) (hw : Region.wanted oi (yielded ops a.tmps) = false) (hS : S w)
    (h : wpAnyH P md ops Q S fuel (listed.setIfInBounds i true) (a.put (some d) undef) w) : wpAnyH P md ops Q S (fuel + 1) listed a w :=
  wpAnyH_take hi hs hf hr (by rw [hd]; exact hQ) (Or.inr ⟨hw, rfl⟩) hS (by rw [hd]; exact h)
/-- operation i alone may come up: it is carried out, and S shown anew -/
theorem held_step (i : Nat) {oi : Oper} {d : Tmp} (hr : Region.ready md ops listed = [i]) (hi : ops[i]? = some oi) (hd : oi.dst = some d) (hw : Region.wanted oi (yielded ops a.tmps) = true)
    (h : hUpon P (fun v w' => Thn (S w') (wpAnyH P md ops Q S fuel (listed.setIfInBounds i true) (a.put (some d) v) w')) ((execOp a.eval oi).run P w)) : wpAnyH P md ops Q S (fuel + 1) listed a w := by
  refine wpAnyH_ready hr (by simp) (AllReadyH.cons hi (fun K hK => ?_) AllReadyH.nil)
  rw [if_pos hw]
  unfold Oper.wp
  generalize (execOp a.eval oi).run P w = r at h ⊢
  cases r with
  | halt x w' => simp only [hUpon] at h
  | ok nx w' =>
    cases nx <;> simp only [hUpon] at h <;> simp only [Oper.upon]
    case value u => rw [hd]; exact hK.out _ _ h.1 h.2
    case skip => rw [hd]; exact hK.out _ _ h.1 h.2
    case enter f args => exact h.mono fun e w'' ⟨v, he, h1, h2⟩ => by subst he; rw [hd]; exact hK.out _ _ h1 h2
end
end Go.Proofs.Ytmkdnfiiehgcaaa
