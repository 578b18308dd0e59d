/- A region that draws its order: two operations may come up. No program in sight. -/
import Derived.Test.YtjnnhhengpinmaaGreatDoorHeldP
namespace Go.Proofs.YtjnnhhengpinmaaGreatDoor
open Go

section
variable {P : Program} {ops : Array Oper} {Q : Exit → Act → World → Prop} {md : Region.Mode} {S : World → Prop} {X : Nat → Bool} {fuel : Nat} {listed : Array Bool} {a : Act} {w : World}
/-- one of two operations comes up: either is carried out -/
theorem u_two (i j : Nat) {oi oj : Oper} (hr : Region.ready md ops listed = [i, j]) (hi : ops[i]? = some oi) (hj : ops[j]? = some oj) (hwi : Region.wanted oi (yielded ops a.tmps) = true) (hwj : Region.wanted oj (yielded ops a.tmps) = true)
    (h1 : pUpon P Q a (fun v w' => (X i = false → S w') ∧ wpAnyU P md ops Q S X fuel (listed.setIfInBounds i true) (a.put oi.dst v) w') ((execOp a.eval oi).run P w))
    (h2 : pUpon P Q a (fun v w' => (X j = false → S w') ∧ wpAnyU P md ops Q S X fuel (listed.setIfInBounds j true) (a.put oj.dst v) w') ((execOp a.eval oj).run P w)) : wpAnyU P md ops Q S X (fuel + 1) listed a w := by
  refine ⟨fun h0 => (by rw [hr] at h0; cases h0), fun k hk => ?_⟩
  rw [hr] at hk
  rcases List.mem_cons.1 hk with rfl | hk
  · unfold wpOp
    simp only [hi, hwi, if_true]
    refine .inl ?_
    unfold Oper.wp
    generalize (execOp a.eval oi).run P w = r at h1 ⊢
    cases r with
    | halt x w' => simp only [pUpon] at h1
    | ok nx w' =>
      cases nx <;> simp only [pUpon] at h1 <;> simp only [Oper.upon]
      case value u => exact h1
      case skip => exact h1
      case enter f args =>
        refine h1.mono fun e w'' he => ?_
        rcases he with ⟨v, rfl, hc⟩ | ⟨c, rfl, hc⟩
        · exact hc
        · exact hc
  · obtain rfl := List.mem_singleton.1 hk
    unfold wpOp
    simp only [hj, hwj, if_true]
    refine .inl ?_
    unfold Oper.wp
    generalize (execOp a.eval oj).run P w = r at h2 ⊢
    cases r with
    | halt x w' => simp only [pUpon] at h2
    | ok nx w' =>
      cases nx <;> simp only [pUpon] at h2 <;> simp only [Oper.upon]
      case value u => exact h2
      case skip => exact h2
      case enter f args =>
        refine h2.mono fun e w'' he => ?_
        rcases he with ⟨v, rfl, hc⟩ | ⟨c, rfl, hc⟩
        · exact hc
        · exact hc
end
end Go.Proofs.YtjnnhhengpinmaaGreatDoor
