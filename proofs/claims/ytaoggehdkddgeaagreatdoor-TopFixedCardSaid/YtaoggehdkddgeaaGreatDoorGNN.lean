/- An append of one list of strings to another that the call owns, at the operation. -/
import Derived.Test.YtaoggehdkddgeaaGreatDoorGPiR
import Derived.BigQuiet
import Derived.Deep.RegionHeld3
section
namespace Go.Proofs.YtaoggehdkddgeaaGreatDoor
section
open Go Go.RowKit Go.Shelf

theorem append_strs {w : World} {ops : Array Oper} {rest : List Oper} {o : Oper} {a : Act} {Q : Exit → Act → World → Prop}
    (hg : o.guard = none) (s x : Operand) (hop : o.op = Op.call { callee := Callee.builtin Builtin.append, args := #[s, x], argTypes := #[27, 27] })
    {B : Nat} {v u : Value} {L M : List ByteArray} (hs : a.eval s = v) (hown : OwnL B L v w) (hx : a.eval x = u) (hM : StrsAt u M w) (b1 : L.length + M.length ≤ 1000000) (hB : B ≤ w.heap.size)
    (h : ∀ v' w', OwnL B (L ++ M) v' w' → Chg v.ownBlock w w' → wpList Tryz.prog ops Q rest (a.put o.dst v') w') : wpList Tryz.prog ops Q (o :: rest) a w := by
  obtain ⟨iS, hi, hz0, hz1, hz2⟩ := info_parts infoStr
  by_cases h0 : M.length = 0
  · obtain rfl := List.eq_nil_of_length_eq_zero h0
    obtain ⟨pu, cu, rfl⟩ := hM.shape
    obtain ⟨pv, cv, hv, hle⟩ : ∃ p c, v = .slice p L.length c ∧ L.length ≤ c := by
      rcases hown.2 with ⟨hv, h1⟩ | ⟨g, off, cap, hv, _, h2, _⟩
      · exact ⟨none, 0, by rw [hv, h1], by omega⟩
      · exact ⟨_, cap, hv, h2⟩
    subst hv
    refine wpList_append_zero w hg s x _ hop iS Tryz.underlying27 hi hle hs hx ?_
    exact h _ _ (by rw [List.append_nil]; exact hown) (Chg.of_gr (Gr.refl _))
  · rcases hM with ⟨hu, rfl⟩ | ⟨g, off, cap, hu, h1, h2, hc⟩
    · exact absurd rfl h0
    · refine wpList_append_Own hg s x _ hop 9 iS (.string ⟨#[]⟩) 1 16 Tryz.underlying27 hi hz0 hz1 hz2 rfl (by decide) hs hown ⟨g, off, none⟩ M.length cap (sC M) (by rw [hx, hu]) (by simp [sC]) (fun j z hz => ?_) (sC_one M) (by omega) (by unfold maxLen; omega) (by omega) hB ?_
      · rw [sC, List.getElem?_map, Option.map_eq_some_iff] at hz
        obtain ⟨y, hy, rfl⟩ := hz
        rw [Addr.add_mid]; exact hc j y hy
      · intro v' w' ho hch _
        refine h v' w' ?_ hch
        exact OwnL.join ho rfl
end
section
open Go Go.RowKit Go.Shelf
attribute [local go_sem] gAt gUpon
attribute [local simp] Gr.refl Gr.alloc

end
end Go.Proofs.YtaoggehdkddgeaaGreatDoor
end
section
namespace Go.Proofs.YtaoggehdkddgeaaGreatDoor
open Go

section
variable {P : Program} {ops : Array Oper} {Q : Exit → Act → World → Prop} {md : Region.Mode} {S : World → Prop} {X : Nat → Bool}
/-- whatever order is picked from here on; S holds behind each operation that X does not name -/
def wpAnyU (P : Program) (md : Region.Mode) (ops : Array Oper) (Q : Exit → Act → World → Prop) (S : World → Prop) (X : Nat → Bool) : Nat → Array Bool → Act → World → Prop
  | 0, listed, a, w => Region.ready md ops listed = [] ∧ Q .normal a w
  | fuel + 1, listed, a, w =>
    (Region.ready md ops listed = [] → Q .normal a w) ∧
    ∀ i ∈ Region.ready md ops listed, wpOp P ops Q i (fun a' w' => (X i = false → S w') ∧ wpAnyU P md ops Q S X fuel (listed.setIfInBounds i true) a' w') a w
theorem wpAny_of_u : ∀ (fuel : Nat) (listed : Array Bool) (a : Act) (w : World), wpAnyU P md ops Q S X fuel listed a w → wpAny P md ops Q fuel listed a w
  | 0, _, _, _, h => h
  | fuel + 1, _, _, _, h => ⟨h.1, fun i hi => wpOp_mono (fun a' w' h' => wpAny_of_u fuel _ a' w' h'.2) (h.2 i hi)⟩
/-- the operations that X names wait for operation i -/
def xWaits (md : Region.Mode) (ops : Array Oper) (X : Nat → Bool) (i : Nat) : Bool :=
  (List.range ops.size).all fun j => !X j || ((ops[j]?).map fun o => o.after.any fun e => Region.binds md e && e.on == i).getD false
theorem xWaits_spec {i j : Nat} (h : xWaits md ops X i = true) (hj : X j = true) {o : Oper} (ho : ops[j]? = some o) : ∃ e ∈ o.after, Region.binds md e = true ∧ e.on = i := by
  have hlt : j < ops.size := (Array.getElem?_eq_some_iff.1 ho).1
  have := List.all_eq_true.1 h j (List.mem_range.2 hlt)
  rw [hj, ho] at this
  simp only [Bool.not_true, Bool.false_or, Option.map_some, Option.getD_some] at this
  obtain ⟨k, hk, hb⟩ := Array.any_eq_true.1 this
  simp only [Bool.and_eq_true, beq_iff_eq] at hb
  exact ⟨o.after[k], Array.getElem_mem hk, hb.1, hb.2⟩
theorem wpAnyU_first {i : Nat} {oi : Oper} {v : Value} (hi : ops[i]? = some oi) (hsel : ∀ (j : Nat) (o : Oper) cs b, ops[j]? = some o → o.op ≠ .select cs b)
    (hQ : ∀ c a w, Q (.panic c) (a.put oi.dst v) w → Q (.panic c) a w) (hx : xWaits md ops X i = true) :
    ∀ (fuel : Nat) (listed : Array Bool) (a : Act) (w : World),
      (∀ j oj, ops[j]? = some oj → j ≠ i → listed.getD j true = false → (∀ e ∈ oj.after, Region.binds md e = true → e.on ≠ i) → oi.apart ops oj = true) →
      i ∈ Region.ready md ops listed → YieldsIf P ops S oi v a → S w →
      wpAnyU P md ops Q S X fuel (listed.setIfInBounds i true) (a.put oi.dst v) w → wpAnyU P md ops Q S X (fuel + 1) listed a w := by
  intro fuel
  induction fuel with
  | zero =>
    intro listed a w _ hr hy hS H
    refine ⟨fun h => (by rw [h] at hr; cases hr), fun j hj => ?_⟩
    by_cases hji : j = i
    · subst hji; exact hy.wpOp hi hS ⟨fun _ => hS, H⟩
    · have := ready_mono hj hji
      rw [H.1] at this
      cases this
  | succ fuel ih =>
    intro listed a w hfree hr hy hS H
    refine ⟨fun h => (by rw [h] at hr; cases hr), fun j hj => ?_⟩
    by_cases hji : j = i
    · subst hji; exact hy.wpOp hi hS ⟨fun _ => hS, H⟩
    · have h1 := H.2 j (ready_mono hj hji)
      obtain ⟨hjun, oj, hoj, hall⟩ := mem_ready.1 hj
      have hnot : ∀ e ∈ oj.after, Region.binds md e = true → e.on ≠ i := fun e he hb heq => by
        have h1 := hall e he hb
        have h0 := (mem_ready.1 hr).1
        rw [heq] at h1
        rcases Nat.lt_or_ge i listed.size with h' | h'
        · simp [h'] at h0 h1; rw [h0] at h1; cases h1
        · simp [Array.getElem?_eq_none h'] at h1
      have hXj : X j = false := by
        cases hX : X j with
        | false => rfl
        | true =>
          obtain ⟨e, he, hb, heq⟩ := xWaits_spec hx hX hoj
          exact absurd heq (hnot e he hb)
      have h2 := wpOp_putIf hoj (hfree j oj hoj hji hjun hnot) (fun cs b => hsel i oi cs b hi) (fun cs b => hsel j oj cs b hoj) hQ hy h1
      have hfree' : ∀ k ok, ops[k]? = some ok → k ≠ i → (listed.setIfInBounds j true).getD k true = false →
          (∀ e ∈ ok.after, Region.binds md e = true → e.on ≠ i) → oi.apart ops ok = true := fun k ok hk hki hun hno => by
        refine hfree k ok hk hki ?_ hno
        by_cases hjk : j = k
        · subst hjk; exact hjun
        · rw [getD_set_ne true hjk] at hun; exact hun
      refine wpOp_mono (fun a' w' h3 => ⟨h3.2.1, ih (listed.setIfInBounds j true) a' w' hfree' (ready_mono hr (Ne.symm hji)) h3.1 (h3.2.1 hXj) ?_⟩) h2
      rw [Array.setIfInBounds_comm _ _ hji]
      exact h3.2.2
variable {fuel : Nat} {listed : Array Bool} {a : Act} {w : World}
/-- the beginning -/
theorem u_begin (S : World → Prop) (X : Nat → Bool) {id : Nat} (hm : P.follows .mixedOrders = true) (hS : S w.drew)
    (h : S w.drew → wpAnyU P .any ops Q S X ops.size (Array.replicate ops.size false) a w.drew) : (Code.region id ops true).wp P Q a w :=
  wp_region_any hm (wpAny_of_u _ _ _ _ (h hS))
theorem u_done (hr : Region.ready md ops listed = []) (h : Q .normal a w) : ∀ fuel, wpAnyU P md ops Q S X fuel listed a w
  | 0 => ⟨hr, h⟩
  | _ + 1 => ⟨fun _ => h, by rw [hr]; simp⟩
/-- operation i yields v wherever S holds -/
theorem u_take (i : Nat) {oi : Oper} {v : Value} {d : Tmp} (hi : ops[i]? = some oi) (hd : oi.dst = some d) (hs : Region.noSelect ops = true) (hx : xWaits md ops X i = true) (hf : Region.free md ops listed i = true) (hr : (Region.ready md ops listed).contains i = true)
    (hQ : ∀ c a w, Q (.panic c) (a.put (some d) v) w → Q (.panic c) a w) (hw : Region.wanted oi (yielded ops a.tmps) = true) (hS : S w) (hy : ∀ w, S w → (execOp a.eval oi).run P w = .ok (.value v) w)
    (h : wpAnyU P md ops Q S X fuel (listed.setIfInBounds i true) (a.put (some d) v) w) : wpAnyU P md ops Q S X (fuel + 1) listed a w :=
  wpAnyU_first hi (Region.noSelect_spec hs) (by rw [hd]; exact hQ) hx fuel listed a w (Region.free_spec hi hf) (by simpa using hr) (Or.inl ⟨hw, hy⟩) hS (by rw [hd]; exact h)
/-- what an operation does, where it may panic -/
def pUpon (P : Program) (Q : Exit → Act → World → Prop) (a : Act) (C : Value → World → Prop) : Result Next → Prop
  | .ok (.value u) w' => C u w'
  | .ok .skip w' => C undef w'
  | .ok (.enter f args) w' => Calls P f args w' (fun e w'' => (∃ v, e = .returned v ∧ C v w'') ∨ (∃ c, e = .panicked c ∧ Q (.panic c) a w''))
  | _ => False
/-- operation i alone may come up: it is carried out -/
theorem u_step (i : Nat) {oi : Oper} (hr : Region.ready md ops listed = [i]) (hi : ops[i]? = some oi) (hw : Region.wanted oi (yielded ops a.tmps) = true)
    (h : pUpon P Q a (fun v w' => (X i = false → S w') ∧ wpAnyU P md ops Q S X fuel (listed.setIfInBounds i true) (a.put oi.dst v) w') ((execOp a.eval oi).run P w)) : wpAnyU P md ops Q S X (fuel + 1) listed a w := by
  refine ⟨fun h0 => (by rw [hr] at h0; cases h0), fun j hj => ?_⟩
  rw [hr] at hj
  obtain rfl := List.mem_singleton.1 hj
  unfold wpOp
  simp only [hi, hw, if_true]
  refine .inl ?_
  unfold Oper.wp
  generalize (execOp a.eval oi).run P w = r at h ⊢
  cases r with
  | halt x w' => simp only [pUpon] at h
  | ok nx w' =>
    cases nx <;> simp only [pUpon] at h <;> simp only [Oper.upon]
    case value u => exact h
    case skip => exact h
    case enter f args =>
      refine h.mono fun e w'' he => ?_
      rcases he with ⟨v, rfl, hc⟩ | ⟨c, rfl, hc⟩
      · exact hc
      · exact hc
/-- the post of one operation: behind it the rest of the region -/
def uPost (Q : Exit → Act → World → Prop) (K : Act → World → Prop) : Exit → Act → World → Prop
  | .normal, a, w => K a w
  | e, a, w => Q e a w
/-- operation i alone may come up: it is carried out as a list of one -/
theorem u_one (i : Nat) {oi : Oper} (hr : Region.ready md ops listed = [i]) (hi : ops[i]? = some oi)
    (h : wpList P ops (uPost Q fun a' w' => (X i = false → S w') ∧ wpAnyU P md ops Q S X fuel (listed.setIfInBounds i true) a' w') [oi] a w) : wpAnyU P md ops Q S X (fuel + 1) listed a w := by
  refine ⟨fun h0 => (by rw [hr] at h0; cases h0), fun j hj => ?_⟩
  rw [hr] at hj
  obtain rfl := List.mem_singleton.1 hj
  unfold wpOp
  simp only [hi]
  rw [wpList] at h
  split
  · rename_i hw
    rw [if_pos hw] at h
    rcases h with h | ⟨h1, h2⟩
    · refine .inl ?_
      unfold Oper.wp at h ⊢
      generalize (execOp a.eval oi).run P w = r at h ⊢
      cases r with
      | halt x w' => cases x <;> simp only [Oper.upon] at h ⊢ <;> exact h
      | ok nx w' =>
        cases nx <;> simp only [Oper.upon] at h ⊢
        case value u => exact h
        case skip => exact h
        case defer d => exact h
        case enter f args =>
          refine h.mono fun e w'' he => ?_
          cases e <;> exact he
        case row row args => exact Rows.mono h fun u w'' he => he
    · exact .inr ⟨h1, h2⟩
  · rename_i hw
    rw [if_neg hw] at h
    exact h
/-- these operations come up one by one, and none behind them -/
def forcedB (md : Region.Mode) (ops : Array Oper) : List Nat → Array Bool → Bool
  | [], listed => (Region.ready md ops listed).isEmpty
  | i :: is, listed => decide (Region.ready md ops listed = [i]) && forcedB md ops is (listed.setIfInBounds i true)
/-- the rest of the region, where its order is forced, as a list -/
theorem u_tail : ∀ (is : List Nat) (os : List Oper) (fuel : Nat) (listed : Array Bool) (a : Act) (w : World), is.length ≤ fuel → forcedB md ops is listed = true → is.all X = true →
    is.map (fun i => ops[i]?) = os.map some → wpList P ops Q os a w → wpAnyU P md ops Q S X fuel listed a w := by
  intro is
  induction is with
  | nil =>
    intro os fuel listed a w _ hf _ hm h
    cases os with
    | cons _ _ => cases hm
    | nil => exact u_done (List.isEmpty_iff.1 hf) h fuel
  | cons i is ih =>
    intro os fuel listed a w hl hf hX hm h
    cases os with
    | nil => cases hm
    | cons o os =>
      rw [List.map_cons, List.map_cons] at hm
      injection hm with h1 h2
      rw [List.length_cons] at hl
      rw [forcedB, Bool.and_eq_true] at hf
      rw [List.all_cons, Bool.and_eq_true] at hX
      cases fuel with
      | zero => omega
      | succ fuel =>
        have hr := of_decide_eq_true hf.1
        refine ⟨fun h0 => (by rw [hr] at h0; cases h0), fun j hj => ?_⟩
        rw [hr] at hj
        obtain rfl := List.mem_singleton.1 hj
        unfold wpOp
        simp only [h1]
        have key : ∀ a' w', wpList P ops Q os a' w' → (X j = false → S w') ∧ wpAnyU P md ops Q S X fuel (listed.setIfInBounds j true) a' w' := fun a' w' hh =>
          ⟨fun hx => (by rw [hX.1] at hx; cases hx), ih os fuel _ a' w' (by omega) hf.2 hX.2 h2 hh⟩
        rw [wpList] at h
        split
        · rename_i hw
          rw [if_pos hw] at h
          exact h.imp (Oper.wp_mono key) id
        · rename_i hw
          rw [if_neg hw] at h
          exact key _ _ h
/-- the last two operations, whose order is forced, as a list -/
theorem u_tail2 (i j : Nat) {oi oj : Oper} {fuel : Nat} {listed : Array Bool} {a : Act} {w : World} (hl : 2 ≤ fuel) (hf : forcedB md ops [i, j] listed = true) (hX : [i, j].all X = true)
    (hi : ops[i]? = some oi) (hj : ops[j]? = some oj) (h : wpList P ops Q [oi, oj] a w) : wpAnyU P md ops Q S X fuel listed a w :=
  u_tail [i, j] [oi, oj] fuel listed a w hl hf hX (by simp [hi, hj]) h
end
end Go.Proofs.YtaoggehdkddgeaaGreatDoor
end
