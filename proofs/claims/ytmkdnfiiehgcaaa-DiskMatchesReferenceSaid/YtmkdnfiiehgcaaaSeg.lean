/- The grow law's quick way: a stretch of operations that only reckon or read is walked by the library's quiet walk. No program in sight. -/
import Derived.Test.YtmkdnfiiehgcaaaGrow
import Derived.Deep.QuietTactic
import Derived.BigQuiet
import Derived.Laws.Tables
import Derived.Laws.Rows
namespace Go.Proofs.Ytmkdnfiiehgcaaa
open Go Go.RowKit

/-- a world that has grown out of another -/
structure GrS (w0 : World) where
  w : World
  h : Gr w0 w
instance (w0 : World) : Nonempty (GrS w0) := ⟨⟨w0, Gr.refl w0⟩⟩

/-- operations that never call -/
def noCall : Op → Bool
  | .move _ | .assign _ | .load _ _ | .nilCheck _ | .binOp .. | .unOp .. | .convert .. | .slice .. | .fieldAddr .. | .field .. | .indexAddr .. | .index .. | .extract .. | .makeInterface .. => true
  | .call { callee := .builtin .len, .. } => true
  | _ => false
theorem value_bind {P : Program} {w w' : World} {s : Sem Value} {f : FuncId} {args : Array Value} : (do pure (Next.value (← s)) : Sem Next).run P w ≠ .ok (.enter f args) w' := by
  rw [Sem.run_bind]
  cases s.run P w <;> simp [Result.andThen]
theorem panic_enter {P : Program} {w w' : World} {f : FuncId} {args : Array Value} : (runtimePanic .nilDeref : Sem Next).run P w ≠ .ok (.enter f args) w' := by
  unfold runtimePanic
  simp [goPanic, program, Sem.run, Bind.bind, Sem.bind]
theorem noCall_enter {P : Program} {w w' : World} {ρ : Operand → Value} {o : Oper} (h : noCall o.op = true) {f : FuncId} {args : Array Value} : (execOp ρ o).run P w ≠ .ok (.enter f args) w' := by
  obtain ⟨dst, op, type, pos, after, guard⟩ := o
  cases op <;> simp only [noCall] at h <;> (try cases h) <;> simp only [execOp] <;> (try exact value_bind)
  case move => simp
  case assign => simp
  case nilCheck x =>
    split
    · exact panic_enter
    · exact panic_enter
    · exact panic_enter
    · split
      · exact panic_enter
      · rw [Sem.run_bind]
        generalize Sem.run P _ w = r
        cases r with
        | halt _ _ => simp [Result.andThen]
        | ok _ _ =>
          simp [Result.andThen]
          split
          · split <;> simp
          · simp
      · simp
    · simp
  case call c =>
    obtain ⟨callee, as, ts⟩ := c
    cases callee with
    | value f => cases h
    | invoke r m => cases h
    | builtin b =>
      cases b <;> (try cases h)
      simp only [resolve, pure_bind]
      exact value_bind

section
variable {P : Program} {ops : Array Oper} {w0 : World} {D : List Deferred} {N : Nat} {QT : Act → World → Prop}

/-- what the kernel reckons of a stretch: no operation calls or looks at an open temporary -/
def segB (ops : Array Oper) (Γ : Opn) (N : Nat) (l : List Oper) : Bool := l.all fun o => noCall o.op && free Γ (o.looksAt ops) && dstOk Γ N o.dst

theorem seg_quiet {Γ : Opn} {l2 : List Oper} : ∀ (l1 : List Oper) (a : Act), a.tmps.size = N → segB ops Γ N l1 = true →
    wpQuiet P ops (fun w' => ∃ n : GrS w0, w' = n.w) (fun a' => a'.tmps.size = N → wpG P ops w0 D N QT l2 (EG Γ a')) l1 a → wpG P ops w0 D N QT (l1 ++ l2) (EG Γ a) := by
  intro l1
  induction l1 with
  | nil => intro a hN _ h; exact h hN
  | cons o l1 ih =>
    intro a hN hB h
    simp only [segB, List.all_cons, Bool.and_eq_true] at hB
    obtain ⟨⟨⟨hc, hf⟩, hd⟩, hB'⟩ := hB
    have hsel : isSelect o.op = false := by
      cases ho : o.op <;> first | rfl | (rw [ho] at hc; simp [noCall] at hc)
    unfold wpQuiet at h
    by_cases hw : Region.wanted o (yielded ops a.tmps) = true
    · rw [if_pos hw] at h
      obtain ⟨v, hv, hK⟩ := h
      refine grow_det (v := v) hN hsel hf hw hd (fun w hG => ?_) (ih _ (by rw [put_size]; exact hN) hB' hK)
      have hq := hv w ⟨⟨w, hG⟩, rfl⟩
      unfold Oper.quietAt at hq
      unfold gAt
      have hne := @noCall_enter P w
      generalize hr : (execOp a.eval o).run P w = r at hq
      cases r with
      | halt _ _ => simp [Oper.quietUpon] at hq
      | ok n w' =>
        cases n <;> simp only [Oper.quietUpon] at hq <;> simp only [gUpon]
        case value u => obtain ⟨rfl, rfl⟩ := hq; exact ⟨Gr.refl _, rfl⟩
        case skip => obtain ⟨rfl, rfl⟩ := hq; exact ⟨Gr.refl _, rfl⟩
        case enter f args => exact absurd hr (hne hc)
    · rw [if_neg hw] at h
      exact grow_skip hN hf (by simpa using hw) hd (ih _ (by rw [put_size]; exact hN) hB' h)
/-- a stretch of n operations -/
theorem seg (n : Nat) {Γ : Opn} {l l1 l2 : List Oper} {a : Act} (h1 : l.take n = l1) (h2 : l.drop n = l2) (hN : a.tmps.size = N) (hB : segB ops Γ N l1 = true)
    (h : wpQuiet P ops (fun w' => ∃ n : GrS w0, w' = n.w) (fun a' => a'.tmps.size = N → wpG P ops w0 D N QT l2 (EG Γ a')) l1 a) : wpG P ops w0 D N QT l (EG Γ a) := by
  have : l = l1 ++ l2 := by rw [← h1, ← h2, List.take_append_drop]
  rw [this]
  exact seg_quiet l1 a hN hB h
end

/-- a new block of cells -/
def NewBlk (w0 : World) (C : Array Value) (t : TypeId) (w : World) : Prop := Gr w0 w ∧ w.heap[w0.heap.size]? = some (.cells C t (0, 0)) ∧ w.heap.size = w0.heap.size + 1
theorem newBlk_alloc (w : World) (C : Array Value) (t : TypeId) : NewBlk w C t (w.alloc (.cells C t)) := ⟨Gr.alloc _ _, heap_alloc_new _ _, by simp⟩
theorem newBlk_set (w : World) (c0 C : Array Value) (t : TypeId) : NewBlk w C t ((w.alloc (.cells c0 t)).setRow w.heap.size C) :=
  ⟨Below.trans (Gr.alloc w (.cells c0 t)) ⟨rfl, rfl, rfl, by rw [setRow_size]; exact Nat.le_refl _, fun k hk => setRow_other _ _ _ _ (by omega)⟩, setRow_heap _ _ _ _ _ _ (heap_alloc_new _ _), by rw [setRow_size]; simp⟩
/-- the world gets a name; what is known of it is kept -/
theorem wp_gen {P : Program} {c : Code} {Q : Exit → Act → World → Prop} {a : Act} {F : World → Prop} {x : World} (hx : F x) (h : ∀ w, F w → c.wp P Q a w) : c.wp P Q a x := h x hx
end Go.Proofs.Ytmkdnfiiehgcaaa
