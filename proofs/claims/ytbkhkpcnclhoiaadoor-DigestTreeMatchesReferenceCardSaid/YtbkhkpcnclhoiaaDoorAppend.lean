/- Appending nothing; what an accepted extension is. -/
import Derived.Test.YtbkhkpcnclhoiaaDoorSaneW
import Derived.Deep.Upon
namespace Go.Proofs.YtbkhkpcnclhoiaaDoor
open Go Go.RowKit

theorem wpList_append_none {P : Program} (w : World) {ops : Array Oper} {rest : List Oper} {o : Oper} {a : Act} {Q : Exit → Act → World → Prop} (hgd : o.guard = none) (s x : Operand) (t : TypeId)
    (ho : o.op = .call { callee := .builtin .append, args := #[s, x], argTypes := #[t, t] }) {e : TypeId} (i : TypeInfo) (ht : P.underlying t = some (.slice e)) (hi : P.info? e = some i) {base : Option Addr} {sLen sCap : Nat} (hle : sLen ≤ sCap)
    (hv : a.eval s = .slice base sLen sCap) (hx : a.eval x = .slice none 0 0) (hK : wpList P ops Q rest (a.put o.dst (.slice base sLen sCap)) w) : wpList P ops Q (o :: rest) a w := by
  refine wpList_plain hgd fun K hK' => ?_
  have hrun : (Builtin.append_ #[t, t] o.type #[.slice base sLen sCap, .slice none 0 0]).run P w = .ok (.slice base sLen sCap) w := by
    refine run_append_nothing w t t o.type e i ht hi base sLen sCap hle _ ⟨.inl ⟨e, ht⟩, fun w' => ?_, ?_, ?_, by simp, by simp⟩
    · rfl
    · rfl
    · rfl
  unfold Oper.wp
  simp [execOp, ho, resolve, invoke, builtin, hv, hx, hrun, Result.andThen]
  exact hK' _ _ hK

/-- the extension of the first m entries is accepted -/
theorem verED_ok (l : List ByteArray) (m : Nat) (h : m ≤ l.length) :
    verED (rootD (l.take m)) m (rootD l) l.length (if (m : Int) ≤ 0 ∨ (l.length : Int) < (m : Int) then [] else extD l (m : Int).toNat true) = true := by
  unfold verED
  rw [decide_eq_true (show (0 : Int) ≤ (m : Int) by omega), decide_eq_true (show (m : Int) ≤ (l.length : Int) by omega), decide_eq_true (rootD_size _), decide_eq_true (rootD_size l)]
  by_cases h0 : m = 0
  · subst h0
    simp [allD, rootD_nil]
  · rw [if_neg (by omega), if_neg (by omega)]
    have ha : allD (extD l (m : Int).toNat true) = true := allD_iff.2 (ext_all _ l _ true (Nat.le_refl _) (by omega))
    have hv := ext_val _ l m true (rootD (l.take m)) (Nat.le_refl _) (by omega) h (fun _ => rfl)
    rw [ha]
    simp only [Int.toNat_natCast]
    simp [hv]
end Go.Proofs.YtbkhkpcnclhoiaaDoor
