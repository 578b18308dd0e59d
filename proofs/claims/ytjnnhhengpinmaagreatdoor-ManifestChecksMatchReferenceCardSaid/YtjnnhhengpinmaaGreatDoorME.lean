/- Steps of a region that draws its order, one by one: what is loaded is known of every world that meets a condition; the calls come in one forced order. No program in sight. -/
import Derived.Deep.RegionHeld3
import Derived.Test.YtjnnhhengpinmaaGreatDoorOwn
namespace Go.Proofs.YtjnnhhengpinmaaGreatDoor
section
open Go

section
variable {P : Program} {ops : Array Oper} {Q : Exit → Act → World → Prop} {md : Region.Mode} {S : World → Prop} {fuel : Nat} {listed : Array Bool} {a : Act} {w : World}
def hUpon (P : Program) (C : Value → World → Prop) : Result Next → Prop
  | .ok (.value u) w' => C u w'
  | .ok .skip w' => C undef w'
  | .ok (.enter f args) w' => Calls P f args w' (fun e w'' => ∃ v, e = .returned v ∧ C v w'')
  | _ => False
/-- what is shown first, and what follows of it -/
def Thn (p q : Prop) : Prop := p ∧ (p → q)
theorem Thn.mk {p q : Prop} (h : p) (k : p → q) : Thn p q := ⟨h, k⟩
/-- operation i yields v wherever S holds -/
theorem held_take (i : Nat) {oi : Oper} {v : Value} {d : Tmp} (hi : ops[i]? = some oi) (hd : oi.dst = some d) (hs : Region.noSelect ops = true) (hf : Region.free md ops listed i = true) (hr : (Region.ready md ops listed).contains i = true)
    (hQ : ∀ c a w, Q (.panic c) (a.put (some d) v) w → Q (.panic c) a w) (hw : Region.wanted oi (yielded ops a.tmps) = true) (hy : ∀ w, S w → (execOp a.eval oi).run P w = .ok (.value v) w) (hS : S w)
    (h : wpAnyH P md ops Q S fuel (listed.setIfInBounds i true) (a.put (some d) v) w) : wpAnyH P md ops Q S (fuel + 1) listed a w :=
  wpAnyH_take hi hs hf hr (by rw [hd]; exact hQ) (Or.inl ⟨hw, hy⟩) hS (by rw [hd]; exact h)
/-- operation i is left out: its guard says so -/
theorem held_skip (i : Nat) {oi : Oper} {d : Tmp} (hi : ops[i]? = some oi) (hd : oi.dst = some d) (hs : Region.noSelect ops = true) (hf : Region.free md ops listed i = true) (hr : (Region.ready md ops listed).contains i = true)
    (hQ : ∀ c a w, Q (.panic c) (a.put (some d) undef) w → Q (.panic c) a w) (hw : Region.wanted oi (yielded ops a.tmps) = false) (hS : S w)
    (h : wpAnyH P md ops Q S fuel (listed.setIfInBounds i true) (a.put (some d) undef) w) : wpAnyH P md ops Q S (fuel + 1) listed a w :=
  wpAnyH_take hi hs hf hr (by rw [hd]; exact hQ) (Or.inr ⟨hw, rfl⟩) hS (by rw [hd]; exact h)
/-- operation i alone may come up: it is carried out, and S shown anew -/
theorem held_step (i : Nat) {oi : Oper} {d : Tmp} (hr : Region.ready md ops listed = [i]) (hi : ops[i]? = some oi) (hd : oi.dst = some d) (hw : Region.wanted oi (yielded ops a.tmps) = true)
    (h : hUpon P (fun v w' => Thn (S w') (wpAnyH P md ops Q S fuel (listed.setIfInBounds i true) (a.put (some d) v) w')) ((execOp a.eval oi).run P w)) : wpAnyH P md ops Q S (fuel + 1) listed a w := by
  refine wpAnyH_ready hr (by simp) (AllReadyH.cons hi (fun K hK => ?_) AllReadyH.nil)
  rw [if_pos hw]
  unfold Oper.wp
  generalize (execOp a.eval oi).run P w = r at h ⊢
  cases r with
  | halt x w' => simp only [hUpon] at h
  | ok nx w' =>
    cases nx <;> simp only [hUpon] at h <;> simp only [Oper.upon]
    case value u => rw [hd]; exact hK.out _ _ h.1 h.2
    case skip => rw [hd]; exact hK.out _ _ h.1 h.2
    case enter f args => exact h.mono fun e w'' ⟨v, he, h1, h2⟩ => by subst he; rw [hd]; exact hK.out _ _ h1 h2
end
end
section
open Go Go.RowKit

theorem append_value {P : Program} {w w' : World} {ρ : Operand → Value} {o : Oper} {args : Array Operand} {ts : Array TypeId} {n : Next} (ho : o.op = .call { callee := .builtin .append, args := args, argTypes := ts })
    (h : (execOp ρ o).run P w = .ok n w') : ∃ v, n = .value v := by
  obtain ⟨dst, op, type, pos, after, guard⟩ := o
  subst ho
  simp only [execOp, resolve, pure_bind, invoke, builtin] at h
  rw [Sem.run_bind] at h
  generalize Sem.run P _ w = r at h
  cases r with
  | halt _ _ => simp [Result.andThen] at h
  | ok u w1 =>
    simp [Result.andThen] at h
    exact ⟨_, h.1.symm⟩
/-- what the walk of an append shows is a law of the grow walk -/
theorem gAt_append {P : Program} {ops : Array Oper} {o : Oper} {a : Act} {w : World} {V : Value → World → Prop} {args : Array Operand} {ts : Array TypeId} (hg : o.guard = none)
    (ho : o.op = .call { callee := .builtin .append, args := args, argTypes := ts }) {d : Tmp} (hd : o.dst = some d) (hN : d < a.tmps.size)
    (h : wpList P ops (fun x a' w' => x = .normal ∧ Gr w w' ∧ V (a'.tmps.getD d undef) w') [o] a w) : gAt P o a w V := by
  unfold wpList at h
  rw [if_pos (by simp [Region.wanted, hg])] at h
  rcases h with h | ⟨_, h⟩
  · unfold Oper.wp at h
    unfold gAt
    have hv := @append_value P w
    generalize hr : (execOp a.eval o).run P w = r at h
    cases r with
    | halt f w1 =>
      exfalso
      cases f <;> simp [Oper.upon] at h
    | ok n w1 =>
      obtain ⟨v, rfl⟩ := hv ho hr
      have h' : wpList P ops (fun x a' w' => x = .normal ∧ Gr w w' ∧ V (a'.tmps.getD d undef) w') [] (a.put o.dst v) w1 := h
      unfold wpList at h'
      rw [hd] at h'
      have : ((a.put (some d) v).tmps.getD d undef) = v := by
        rw [put_tmps a (some d) v d (fun d' h => by cases h; exact hN)]
        simp
      rw [this] at h'
      exact ⟨h'.2.1, h'.2.2⟩
  · exfalso
    have := h
    simp [LetsOut] at this
/-- what the walk of an append shows is a step of the held walk -/
theorem step_of_list {P : Program} {ops ops' : Array Oper} {o : Oper} {a : Act} {w : World} {K : Act → World → Prop} {Q : Exit → Act → World → Prop} {E : Prop} {args : Array Operand} {ts : Array TypeId} (hg : o.guard = none)
    (ho : o.op = .call { callee := .builtin .append, args := args, argTypes := ts })
    (h : wpList P ops' (fun x a' w' => x = .normal ∧ K a' w') [o] a w) : if Region.wanted o (yielded ops a.tmps) = true then Oper.wp P o a w K Q else E := by
  rw [if_pos (by simp [Region.wanted, hg])]
  unfold wpList at h
  rw [if_pos (by simp [Region.wanted, hg])] at h
  rcases h with h | ⟨_, h⟩
  · unfold Oper.wp at h ⊢
    have hv := @append_value P w
    generalize hr : (execOp a.eval o).run P w = r at h
    cases r with
    | halt f w1 =>
      exfalso
      cases f <;> simp [Oper.upon] at h
    | ok n w1 =>
      obtain ⟨v, rfl⟩ := hv ho hr
      exact (show _ ∧ K (a.put o.dst v) w1 from h).2
  · exfalso
    have := h
    simp [LetsOut] at this
theorem keepS {w4 W' : World} {a : Addr} {v : Value} (hg : Gr w4 W') (h : w4.cell? a = some v) : Hid (Gr w4 W') ∧ W'.cell? a = some v := ⟨hg, hg.cell h⟩
theorem keepS_gr {w4 W W' : World} {a : Addr} {v : Value} (h : Hid (Gr w4 W) ∧ W.cell? a = some v) (hg : Gr W W') : Hid (Gr w4 W') ∧ W'.cell? a = some v := ⟨Gr.trans h.1 hg, hg.cell h.2⟩
theorem one_at {w : World} {b : Nat} {v : Value} {t : TypeId} (h : w.heap[b]? = some (.cells #[v] t (0, 0))) : ∀ (j : Nat) (u : Value), [v][j]? = some u → w.cell? ((⟨b, 0, none⟩ : Addr).add j) = some u := by
  intro j u hj
  match j, hj with
  | 0, hj =>
    simp at hj; subst hj
    rw [Addr.add_mid, cell_of_row _ _ _ _ _ _ h]; rfl
theorem row_new1 (w : World) (v : Value) (t : TypeId) : (w.alloc (.cells #[v] t)).drew.heap[w.heap.size]? = some (.cells #[v] t (0, 0)) := heap_alloc_new w _
theorem row_new2 (w : World) (o : Obj) (v : Value) (t : TypeId) : ((w.alloc o).alloc (.cells #[v] t)).drew.heap[w.heap.size + 1]? = some (.cells #[v] t (0, 0)) := by
  have := heap_alloc_new (w.alloc o) (.cells #[v] t)
  rw [World.size_alloc] at this
  exact this
theorem row_old2 (w : World) (o : Obj) (v : Value) (t : TypeId) : ((w.alloc (.cells #[v] t)).alloc o).drew.heap[w.heap.size]? = some (.cells #[v] t (0, 0)) := by
  have h := heap_alloc_new w (.cells #[v] t)
  exact (Gr.alloc (w.alloc (.cells #[v] t)) o).block h
theorem no_none {a : Addr} {p : Prop} (h : some a = none) : p := by cases h
theorem no_cell {j : Nat} {u : Value} {p : Prop} (h : ([] : List Value)[j]? = some u) : p := by simp at h
theorem own_row0 {B : Nat} {w : World} {b : Nat} (hB : B ≤ b) : Own B 1 (.slice (some ⟨b, 0, none⟩) 0 0) 0 [] w :=
  ⟨rfl, .inr ⟨b, 0, 0, rfl, hB, Nat.le_refl _, Nat.zero_le _, fun j u h => by simp at h, fun j h => by omega⟩⟩
theorem grow_end3 {P : Program} {ops : Array Oper} {w0 : World} {D : List Deferred} {N : Nat} {QT : Act → World → Prop} {a : Act} {t1 t2 t3 : Tmp} {V1 V2 V3 : Value → World → Prop} (hD : a.defers = D) (hN : a.tmps.size = N) (ht : t1 < N) (ht2 : t2 < N) (ht3 : t3 < N) (hne : (t1 == t2) = false) (hne3 : (t1 == t3) = false) (hne23 : (t2 == t3) = false)
    (h : ∀ w u u2 u3, Gr w0 w → V1 u w → V2 u2 w → V3 u3 w → QT (((a.put (some t1) u).put (some t2) u2).put (some t3) u3) w) : wpG P ops w0 D N QT [] (EG [(t3, V3), (t2, V2), (t1, V1)] a) := by
  intro a' w hG hDf hsz hok
  have h1 := hok t1
  simp only [EG, List.lookup_cons, beq_self_eq_true, hne, hne3] at h1
  have h2 := hok t2
  simp only [EG, List.lookup_cons, beq_self_eq_true, hne23] at h2
  have h3 := hok t3
  simp only [EG, List.lookup_cons, beq_self_eq_true] at h3
  have : a' = ((a.put (some t1) (a'.tmps.getD t1 undef)).put (some t2) (a'.tmps.getD t2 undef)).put (some t3) (a'.tmps.getD t3 undef) := act_ext (by rw [put_defers, put_defers, put_defers, hDf, hD]) (by rw [put_size, put_size, put_size, hsz, hN]) fun t => by
    rw [put_tmps _ _ _ _ (fun d e => by cases e; rw [put_size, put_size, hN]; exact ht3), put_tmps _ _ _ _ (fun d e => by cases e; rw [put_size, hN]; exact ht2), put_tmps _ _ _ _ (fun d e => by cases e; rw [hN]; exact ht)]
    by_cases hh3 : t3 = t
    · subst hh3; simp
    · rw [if_neg (by simpa using hh3)]
      by_cases hh2 : t2 = t
      · subst hh2; simp
      · rw [if_neg (by simpa using hh2)]
        by_cases hh : t1 = t
        · subst hh; simp
        · have := hok t
          have e1 : (t == t1) = false := by simpa using fun e => hh e.symm
          have e2 : (t == t2) = false := by simpa using fun e => hh2 e.symm
          have e3 : (t == t3) = false := by simpa using fun e => hh3 e.symm
          simp only [EG, List.lookup_cons, e1, e2, e3, List.lookup_nil] at this
          rw [if_neg (by simpa using hh)]; exact this
  rw [this]; exact h w _ _ _ hG h1 h2 h3
end
section
open Go

section
variable {P : Program} {ops : Array Oper} {Q : Exit → Act → World → Prop} {md : Region.Mode} {S : World → Prop} {fuel : Nat} {listed : Array Bool} {a : Act} {w : World}
theorem list_weaken {ops' : Array Oper} {o : Oper} {K K' : Act → World → Prop} (h : wpList P ops' (fun x a' w' => x = .normal ∧ K a' w') [o] a w) (hK : ∀ a' w', K a' w' → K' a' w') (hg : o.guard = none) {args : Array Operand} {ts : Array TypeId}
    (ho : o.op = .call { callee := .builtin .append, args := args, argTypes := ts }) : if Region.wanted o (yielded ops a.tmps) = true then Oper.wp P o a w K' Q else K' (a.put o.dst undef) w := by
  rw [if_pos (by simp [Region.wanted, hg])]
  unfold wpList at h
  rw [if_pos (by simp [Region.wanted, hg])] at h
  rcases h with h | ⟨_, h⟩
  · unfold Oper.wp at h ⊢
    have hv := @append_value P w
    generalize hr : (execOp a.eval o).run P w = r at h
    cases r with
    | halt f w1 =>
      exfalso
      cases f <;> simp [Oper.upon] at h
    | ok n w1 =>
      obtain ⟨v, rfl⟩ := hv ho hr
      exact hK _ _ (show _ ∧ K (a.put o.dst v) w1 from h).2
  · exfalso
    have := h
    simp [LetsOut] at this
/-- an append comes: its law -/
theorem held_app (i : Nat) {oi : Oper} {args : Array Operand} {ts : Array TypeId} (hr : Region.ready md ops listed = [i]) (hi : ops[i]? = some oi) (hg : oi.guard = none) (ho : oi.op = .call { callee := .builtin .append, args := args, argTypes := ts })
    (h : wpList P #[] (fun x a' w' => x = .normal ∧ Thn (S w') (wpAnyH P md ops Q S fuel (listed.setIfInBounds i true) a' w')) [oi] a w) : wpAnyH P md ops Q S (fuel + 1) listed a w :=
  wpAnyH_ready hr (by simp) (AllReadyH.cons hi (fun K hK => list_weaken h (fun a' w' h => hK.out _ _ h.1 h.2) hg ho) AllReadyH.nil)
theorem hUpon_mono {C C' : Value → World → Prop} {r : Result Next} (h : hUpon P C r) (hC : ∀ v w, C v w → C' v w) : hUpon P C' r := by
  cases r with
  | halt x w' => exact h
  | ok nx w' =>
    cases nx <;> simp only [hUpon] at h ⊢
    case value u => exact hC _ _ h
    case skip => exact hC _ _ h
    case enter f args => exact h.mono fun e w'' ⟨v, he, h1⟩ => ⟨v, he, hC _ _ h1⟩
/-- two operations may come up, and neither turns the world -/
theorem held_pair (i j : Nat) {oi oj : Oper} {di dj : Tmp} {vi vj : Value} (hr : Region.ready md ops listed = [i, j]) (hi : ops[i]? = some oi) (hj : ops[j]? = some oj) (hdi : oi.dst = some di) (hdj : oj.dst = some dj)
    (hri : Region.ready md ops (listed.setIfInBounds j true) = [i]) (hrj : Region.ready md ops (listed.setIfInBounds i true) = [j])
    (hwi : Region.wanted oi (yielded ops a.tmps) = true) (hwj : Region.wanted oj (yielded ops a.tmps) = true)
    (hwi' : Region.wanted oi (yielded ops (a.put (some dj) vj).tmps) = true) (hwj' : Region.wanted oj (yielded ops (a.put (some di) vi).tmps) = true)
    (hl : (listed.setIfInBounds j true).setIfInBounds i true = (listed.setIfInBounds i true).setIfInBounds j true)
    (ha : (a.put (some dj) vj).put (some di) vi = (a.put (some di) vi).put (some dj) vj) (hS : S w)
    (h1 : hUpon P (fun v w' => v = vi ∧ w' = w) ((execOp a.eval oi).run P w)) (h2 : hUpon P (fun v w' => v = vj ∧ w' = w) ((execOp a.eval oj).run P w))
    (h3 : hUpon P (fun v w' => v = vi ∧ w' = w) ((execOp (a.put (some dj) vj).eval oi).run P w)) (h4 : hUpon P (fun v w' => v = vj ∧ w' = w) ((execOp (a.put (some di) vi).eval oj).run P w))
    (h : wpAnyH P md ops Q S fuel ((listed.setIfInBounds i true).setIfInBounds j true) ((a.put (some di) vi).put (some dj) vj) w) : wpAnyH P md ops Q S (fuel + 1 + 1) listed a w := by
  have go : ∀ {k : Nat} {o : Oper} {d : Tmp} {v : Value} (hd : o.dst = some d) (hw : Region.wanted o (yielded ops a.tmps) = true) (hrun : hUpon P (fun u w' => u = v ∧ w' = w) ((execOp a.eval o).run P w))
      (hnext : wpAnyH P md ops Q S (fuel + 1) (listed.setIfInBounds k true) (a.put (some d) v) w) (K : Act → World → Prop)
      (_ : Shut (∀ a' w', S w' → (S w' → wpAnyH P md ops Q S (fuel + 1) (listed.setIfInBounds k true) a' w') → K a' w')),
      if Region.wanted o (yielded ops a.tmps) = true then Oper.wp P o a w K Q else K (a.put o.dst undef) w := by
    intro k o d v hd hw hrun hnext K hK
    rw [if_pos hw]
    unfold Oper.wp
    generalize (execOp a.eval o).run P w = r at hrun ⊢
    cases r with
    | halt x w' => simp only [hUpon] at hrun
    | ok nx w' =>
      cases nx <;> simp only [hUpon] at hrun <;> simp only [Oper.upon]
      case value u => obtain ⟨rfl, rfl⟩ := hrun; rw [hd]; exact hK.out _ _ hS (fun _ => hnext)
      case skip => obtain ⟨rfl, rfl⟩ := hrun; rw [hd]; exact hK.out _ _ hS (fun _ => hnext)
      case enter f args => exact hrun.mono fun e w'' ⟨u, he, h1, h2⟩ => by subst he h1 h2; rw [hd]; exact hK.out _ _ hS (fun _ => hnext)
  refine wpAnyH_ready hr (by simp) (AllReadyH.cons hi (go hdi hwi h1 ?_) (AllReadyH.cons hj (go hdj hwj h2 ?_) AllReadyH.nil))
  · exact held_step j hrj hj hdj hwj' (hUpon_mono h4 (fun v w' h' => by obtain ⟨rfl, rfl⟩ := h'; exact Thn.mk hS (fun _ => h)))
  · refine held_step i hri hi hdi hwi' (hUpon_mono h3 (fun v w' h' => ?_))
    obtain ⟨rfl, rfl⟩ := h'
    refine Thn.mk hS (fun _ => ?_)
    rw [hl, ha]; exact h
def lUpon (C : World → Prop) : Result Next → Prop
  | .ok (.value _) w' => C w'
  | .ok .skip w' => C w'
  | _ => False
/-- an operation without a slot comes, and it alone may -/
theorem held_last (i : Nat) {oi : Oper} (hr : Region.ready md ops listed = [i]) (hi : ops[i]? = some oi) (hd : oi.dst = none) (hw : Region.wanted oi (yielded ops a.tmps) = true)
    (h : lUpon (fun w' => Thn (S w') (wpAnyH P md ops Q S fuel (listed.setIfInBounds i true) a w')) ((execOp a.eval oi).run P w)) : wpAnyH P md ops Q S (fuel + 1) listed a w := by
  refine wpAnyH_ready hr (by simp) (AllReadyH.cons hi (fun K hK => ?_) AllReadyH.nil)
  rw [if_pos hw]
  unfold Oper.wp
  generalize (execOp a.eval oi).run P w = r at h ⊢
  cases r with
  | halt x w' => simp only [lUpon] at h
  | ok nx w' =>
    cases nx <;> simp only [lUpon] at h <;> simp only [Oper.upon]
    case value u => rw [hd]; exact hK.out _ _ h.1 h.2
    case skip => rw [hd]; exact hK.out _ _ h.1 h.2
end
end
end Go.Proofs.YtjnnhhengpinmaaGreatDoor
