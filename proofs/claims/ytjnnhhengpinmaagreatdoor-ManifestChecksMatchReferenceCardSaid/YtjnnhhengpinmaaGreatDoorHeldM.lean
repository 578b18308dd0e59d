/- One more step of a region that draws its order: a load and a call may come up in either order. No program in sight. -/
import Derived.Test.YtjnnhhengpinmaaGreatDoorME
namespace Go.Proofs.YtjnnhhengpinmaaGreatDoor
open Go

section
variable {P : Program} {ops : Array Oper} {Q : Exit → Act → World → Prop} {md : Region.Mode} {S : World → Prop} {fuel : Nat} {listed : Array Bool} {a : Act} {w : World}
/-- operation i reads what operation j, a call, does not turn -/
theorem held_two (i j : Nat) {oi oj : Oper} {di dj : Tmp} (vi : Value) (hr : Region.ready md ops listed = [i, j]) (hi : ops[i]? = some oi) (hj : ops[j]? = some oj) (hdi : oi.dst = some di) (hdj : oj.dst = some dj)
    (hri : Region.ready md ops (listed.setIfInBounds j true) = [i]) (hrj : Region.ready md ops (listed.setIfInBounds i true) = [j])
    (hwi : Region.wanted oi (yielded ops a.tmps) = true) (hwj : Region.wanted oj (yielded ops a.tmps) = true)
    (hwi' : ∀ v, Region.wanted oi (yielded ops (a.put (some dj) v).tmps) = true) (hwj' : Region.wanted oj (yielded ops (a.put (some di) vi).tmps) = true)
    (hl : (listed.setIfInBounds j true).setIfInBounds i true = (listed.setIfInBounds i true).setIfInBounds j true)
    (ha : ∀ v, (a.put (some dj) v).put (some di) vi = (a.put (some di) vi).put (some dj) v) (hS : S w)
    (h1 : (execOp a.eval oi).run P w = .ok (.value vi) w) (C : Value → World → Prop) (h2 : hUpon P C ((execOp a.eval oj).run P w))
    (h4 : hUpon P C ((execOp (a.put (some di) vi).eval oj).run P w))
    (hC : ∀ v w', C v w' → S w' ∧ (execOp (a.put (some dj) v).eval oi).run P w' = .ok (.value vi) w')
    (h : ∀ v w', C v w' → S w' → wpAnyH P md ops Q S fuel ((listed.setIfInBounds i true).setIfInBounds j true) ((a.put (some di) vi).put (some dj) v) w') : wpAnyH P md ops Q S (fuel + 1 + 1) listed a w := by
  refine wpAnyH_ready hr (by simp) (AllReadyH.cons hi (fun K hK => ?_) (AllReadyH.cons hj (fun K hK => ?_) AllReadyH.nil))
  · rw [if_pos hwi]
    unfold Oper.wp
    rw [h1]
    simp only [Oper.upon]
    rw [hdi]
    refine hK.out _ _ hS (fun _ => ?_)
    refine held_step j hrj hj hdj hwj' (hUpon_mono h4 (fun v w' hc => ?_))
    exact Thn.mk (hC v w' hc).1 (fun hs => h v w' hc hs)
  · rw [if_pos hwj]
    have key : ∀ v w', C v w' → K (a.put oj.dst v) w' := fun v w' hc => by
      rw [hdj]
      refine hK.out _ _ (hC v w' hc).1 (fun hs => ?_)
      refine held_step i hri hi hdi (hwi' v) ?_
      rw [(hC v w' hc).2]
      simp only [hUpon]
      refine Thn.mk hs (fun hs2 => ?_)
      rw [hl, ha]
      exact h v w' hc hs2
    unfold Oper.wp
    generalize (execOp a.eval oj).run P w = r at h2 ⊢
    cases r with
    | halt x w' => simp only [hUpon] at h2
    | ok nx w' =>
      cases nx <;> simp only [hUpon] at h2 <;> simp only [Oper.upon]
      case value u => exact key _ _ h2
      case skip => exact key _ _ h2
      case enter f args => exact h2.mono fun e w'' ⟨u, he, hc⟩ => by subst he; exact key _ _ hc
end
end Go.Proofs.YtjnnhhengpinmaaGreatDoor
