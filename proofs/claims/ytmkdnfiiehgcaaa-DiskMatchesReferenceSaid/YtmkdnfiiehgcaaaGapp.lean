/- An append within a region that draws its order: what the walk of one operation shows, said as a law of the grow walk. No program in sight. -/
import Derived.Test.YtmkdnfiiehgcaaaOwn
namespace Go.Proofs.Ytmkdnfiiehgcaaa
open Go Go.RowKit

theorem append_value {P : Program} {w w' : World} {ρ : Operand → Value} {o : Oper} {args : Array Operand} {ts : Array TypeId} {n : Next} (ho : o.op = .call { callee := .builtin .append, args := args, argTypes := ts })
    (h : (execOp ρ o).run P w = .ok n w') : ∃ v, n = .value v := by
  obtain ⟨dst, op, type, pos, after, guard⟩ := o
  subst ho
  simp only [execOp, resolve, pure_bind, invoke, builtin] at h
  rw [Sem.run_bind] at h
  generalize Sem.run P _ w = r at h
  cases r with
  | halt _ _ => simp [Result.andThen] at h
  | ok u w1 =>
    simp [Result.andThen] at h
    exact ⟨_, h.1.symm⟩
/-- what the walk of an append shows is a law of the grow walk -/
theorem gAt_append {P : Program} {ops : Array Oper} {o : Oper} {a : Act} {w : World} {V : Value → World → Prop} {args : Array Operand} {ts : Array TypeId} (hg : o.guard = none)
    (ho : o.op = .call { callee := .builtin .append, args := args, argTypes := ts }) {d : Tmp} (hd : o.dst = some d) (hN : d < a.tmps.size)
    (h : wpList P ops (fun x a' w' => x = .normal ∧ Gr w w' ∧ V (a'.tmps.getD d undef) w') [o] a w) : gAt P o a w V := by
  unfold wpList at h
  rw [if_pos (by simp [Region.wanted, hg])] at h
  rcases h with h | ⟨_, h⟩
  · unfold Oper.wp at h
    unfold gAt
    have hv := @append_value P w
    generalize hr : (execOp a.eval o).run P w = r at h
    cases r with
    | halt f w1 =>
      exfalso
      cases f <;> simp [Oper.upon] at h
    | ok n w1 =>
      obtain ⟨v, rfl⟩ := hv ho hr
      have h' : wpList P ops (fun x a' w' => x = .normal ∧ Gr w w' ∧ V (a'.tmps.getD d undef) w') [] (a.put o.dst v) w1 := h
      unfold wpList at h'
      rw [hd] at h'
      have : ((a.put (some d) v).tmps.getD d undef) = v := by
        rw [put_tmps a (some d) v d (fun d' h => by cases h; exact hN)]
        simp
      rw [this] at h'
      exact ⟨h'.2.1, h'.2.2⟩
  · exfalso
    have := h
    simp [LetsOut] at this
/-- what the walk of an append shows is a step of the held walk -/
theorem step_of_list {P : Program} {ops ops' : Array Oper} {o : Oper} {a : Act} {w : World} {K : Act → World → Prop} {Q : Exit → Act → World → Prop} {E : Prop} {args : Array Operand} {ts : Array TypeId} (hg : o.guard = none)
    (ho : o.op = .call { callee := .builtin .append, args := args, argTypes := ts })
    (h : wpList P ops' (fun x a' w' => x = .normal ∧ K a' w') [o] a w) : if Region.wanted o (yielded ops a.tmps) = true then Oper.wp P o a w K Q else E := by
  rw [if_pos (by simp [Region.wanted, hg])]
  unfold wpList at h
  rw [if_pos (by simp [Region.wanted, hg])] at h
  rcases h with h | ⟨_, h⟩
  · unfold Oper.wp at h ⊢
    have hv := @append_value P w
    generalize hr : (execOp a.eval o).run P w = r at h
    cases r with
    | halt f w1 =>
      exfalso
      cases f <;> simp [Oper.upon] at h
    | ok n w1 =>
      obtain ⟨v, rfl⟩ := hv ho hr
      exact (show _ ∧ K (a.put o.dst v) w1 from h).2
  · exfalso
    have := h
    simp [LetsOut] at this
theorem keepS {w4 W' : World} {a : Addr} {v : Value} (hg : Gr w4 W') (h : w4.cell? a = some v) : Hid (Gr w4 W') ∧ W'.cell? a = some v := ⟨hg, hg.cell h⟩
theorem keepS_gr {w4 W W' : World} {a : Addr} {v : Value} (h : Hid (Gr w4 W) ∧ W.cell? a = some v) (hg : Gr W W') : Hid (Gr w4 W') ∧ W'.cell? a = some v := ⟨Gr.trans h.1 hg, hg.cell h.2⟩
theorem one_at {w : World} {b : Nat} {v : Value} {t : TypeId} (h : w.heap[b]? = some (.cells #[v] t (0, 0))) : ∀ (j : Nat) (u : Value), [v][j]? = some u → w.cell? ((⟨b, 0, none⟩ : Addr).add j) = some u := by
  intro j u hj
  match j, hj with
  | 0, hj =>
    simp at hj; subst hj
    rw [Addr.add_mid, cell_of_row _ _ _ _ _ _ h]; rfl
theorem row_new1 (w : World) (v : Value) (t : TypeId) : (w.alloc (.cells #[v] t)).drew.heap[w.heap.size]? = some (.cells #[v] t (0, 0)) := heap_alloc_new w _
theorem row_new2 (w : World) (o : Obj) (v : Value) (t : TypeId) : ((w.alloc o).alloc (.cells #[v] t)).drew.heap[w.heap.size + 1]? = some (.cells #[v] t (0, 0)) := by
  have := heap_alloc_new (w.alloc o) (.cells #[v] t)
  rw [World.size_alloc] at this
  exact this
theorem row_old2 (w : World) (o : Obj) (v : Value) (t : TypeId) : ((w.alloc (.cells #[v] t)).alloc o).drew.heap[w.heap.size]? = some (.cells #[v] t (0, 0)) := by
  have h := heap_alloc_new w (.cells #[v] t)
  exact (Gr.alloc (w.alloc (.cells #[v] t)) o).block h
theorem no_none {a : Addr} {p : Prop} (h : some a = none) : p := by cases h
theorem no_cell {j : Nat} {u : Value} {p : Prop} (h : ([] : List Value)[j]? = some u) : p := by simp at h
theorem own_row0 {B : Nat} {w : World} {b : Nat} (hB : B ≤ b) : Own B 1 (.slice (some ⟨b, 0, none⟩) 0 0) 0 [] w :=
  ⟨rfl, .inr ⟨b, 0, 0, rfl, hB, Nat.le_refl _, Nat.zero_le _, fun j u h => by simp at h, fun j h => by omega⟩⟩
theorem grow_end3 {P : Program} {ops : Array Oper} {w0 : World} {D : List Deferred} {N : Nat} {QT : Act → World → Prop} {a : Act} {t1 t2 t3 : Tmp} {V1 V2 V3 : Value → World → Prop} (hD : a.defers = D) (hN : a.tmps.size = N) (ht : t1 < N) (ht2 : t2 < N) (ht3 : t3 < N) (hne : (t1 == t2) = false) (hne3 : (t1 == t3) = false) (hne23 : (t2 == t3) = false)
    (h : ∀ w u u2 u3, Gr w0 w → V1 u w → V2 u2 w → V3 u3 w → QT (((a.put (some t1) u).put (some t2) u2).put (some t3) u3) w) : wpG P ops w0 D N QT [] (EG [(t3, V3), (t2, V2), (t1, V1)] a) := by
  intro a' w hG hDf hsz hok
  have h1 := hok t1
  simp only [EG, List.lookup_cons, beq_self_eq_true, hne, hne3] at h1
  have h2 := hok t2
  simp only [EG, List.lookup_cons, beq_self_eq_true, hne23] at h2
  have h3 := hok t3
  simp only [EG, List.lookup_cons, beq_self_eq_true] at h3
  have : a' = ((a.put (some t1) (a'.tmps.getD t1 undef)).put (some t2) (a'.tmps.getD t2 undef)).put (some t3) (a'.tmps.getD t3 undef) := act_ext (by rw [put_defers, put_defers, put_defers, hDf, hD]) (by rw [put_size, put_size, put_size, hsz, hN]) fun t => by
    rw [put_tmps _ _ _ _ (fun d e => by cases e; rw [put_size, put_size, hN]; exact ht3), put_tmps _ _ _ _ (fun d e => by cases e; rw [put_size, hN]; exact ht2), put_tmps _ _ _ _ (fun d e => by cases e; rw [hN]; exact ht)]
    by_cases hh3 : t3 = t
    · subst hh3; simp
    · rw [if_neg (by simpa using hh3)]
      by_cases hh2 : t2 = t
      · subst hh2; simp
      · rw [if_neg (by simpa using hh2)]
        by_cases hh : t1 = t
        · subst hh; simp
        · have := hok t
          have e1 : (t == t1) = false := by simpa using fun e => hh e.symm
          have e2 : (t == t2) = false := by simpa using fun e => hh2 e.symm
          have e3 : (t == t3) = false := by simpa using fun e => hh3 e.symm
          simp only [EG, List.lookup_cons, e1, e2, e3, List.lookup_nil] at this
          rw [if_neg (by simpa using hh)]; exact this
  rw [this]; exact h w _ _ _ hG h1 h2 h3
end Go.Proofs.Ytmkdnfiiehgcaaa
