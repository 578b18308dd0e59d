/- A law on regions that draw their order: if every operation, in every world that has only grown, yields a value of which a stable property is known, one walk in the order of the text serves every order; a tail of operations that wait for all before them follows. No program in sight. -/
import Derived.Orders
import Derived.Still
import Derived.Tactics
import Derived.Tactics2
import Derived.Below
import Derived.WalkKit
import Derived.OrdersHeld
import Derived.Deep.QuietTactic
import Derived.BigQuiet
import Derived.Laws.Tables
import Derived.Laws.Rows
namespace Go.Proofs.YtaoggehdkddgeaaGreatDoor
section
open Go Go.RowKit

/-- the world has only grown: whatever was there is as it was -/
def Gr (w w' : World) : Prop := Below w.heap.size w w'
theorem Gr.refl (w : World) : Gr w w := Below.refl _ _
theorem Gr.trans {a b c : World} (h : Gr a b) (k : Gr b c) : Gr a c := Below.trans h (Below.mono k h.size)
theorem Gr.drew (w : World) : Gr w w.drew := (Below.refl _ _).drew
theorem Gr.alloc (w : World) (o : Obj) : Gr w (w.alloc o) := (Below.refl _ _).alloc (Nat.le_refl _) _

/-- a property that growth keeps -/
def Stb (V : Value → World → Prop) : Prop := ∀ v w w', Gr w w' → V v w → V v w'
theorem stb_pure (p : Value → Prop) : Stb fun v _ => p v := fun _ _ _ _ h => h

def gUpon (P : Program) (w : World) (V : Value → World → Prop) : Result Next → Prop
  | .ok (.value u) w' => Gr w w' ∧ V u w'
  | .ok .skip w' => Gr w w' ∧ V undef w'
  | .ok (.enter f args) w' => Gr w w' ∧ Calls P f args w' (fun e w'' => ∃ v, e = .returned v ∧ Gr w' w'' ∧ V v w'')
  | _ => False
def gAt (P : Program) (o : Oper) (a : Act) (w : World) (V : Value → World → Prop) : Prop := gUpon P w V ((execOp a.eval o).run P w)

abbrev Env := Tmp → Value → World → Prop
def Env.upd (E : Env) (d : Option Tmp) (V : Value → World → Prop) : Env := fun t => if d = some t then V else E t
def Env.ok (E : Env) (a : Act) (w : World) : Prop := ∀ t, E t (a.tmps.getD t undef) w

def Ob (P : Program) (ops : Array Oper) (w0 : World) (D : List Deferred) (N : Nat) (o : Oper) (E : Env) (V : Value → World → Prop) : Prop :=
  ∀ a w, Gr w0 w → a.defers = D → a.tmps.size = N → (∀ t ∈ o.looksAt ops, E t (a.tmps.getD t undef) w) →
    (Region.wanted o (yielded ops a.tmps) = true ∧ gAt P o a w V) ∨ (Region.wanted o (yielded ops a.tmps) = false ∧ V undef w)
def Fin (w0 : World) (D : List Deferred) (N : Nat) (Q : Act → World → Prop) (E : Env) : Prop :=
  ∀ a w, Gr w0 w → a.defers = D → a.tmps.size = N → E.ok a w → Q a w

def wpG (P : Program) (ops : Array Oper) (w0 : World) (D : List Deferred) (N : Nat) (Q : Act → World → Prop) : List Oper → Env → Prop
  | [], E => Fin w0 D N Q E
  | o :: rest, E => ∃ V, Stb V ∧ Ob P ops w0 D N o E V ∧ wpG P ops w0 D N Q rest (E.upd o.dst V)

abbrev Pairs := List (Oper × (Value → World → Prop))
def envAll (ps : Pairs) (E : Env) : Env := ps.foldl (fun E p => E.upd p.1.dst p.2) E
def envL (L : Nat → Bool) : Pairs → Nat → Env → Env
  | [], _, E => E
  | p :: ps, k, E => envL L ps (k + 1) (if L k then E.upd p.1.dst p.2 else E)

theorem wpG_pairs {P : Program} {ops : Array Oper} {w0 : World} {D : List Deferred} {N : Nat} {Q : Act → World → Prop} :
    ∀ (l : List Oper) (E : Env), wpG P ops w0 D N Q l E →
      ∃ ps : Pairs, ps.map (·.1) = l ∧ (∀ i p, ps[i]? = some p → Stb p.2 ∧ Ob P ops w0 D N p.1 (envAll (ps.take i) E) p.2) ∧ Fin w0 D N Q (envAll ps E) := by
  intro l
  induction l with
  | nil => intro E h; exact ⟨[], rfl, fun i p hp => by simp at hp, h⟩
  | cons o l ih =>
    intro E h
    obtain ⟨V, hs, ho, hr⟩ := h
    obtain ⟨ps, hm, hob, hf⟩ := ih _ hr
    refine ⟨(o, V) :: ps, by simp [hm], ?_, hf⟩
    intro i p hp
    cases i with
    | zero => simp at hp; subst hp; exact ⟨hs, ho⟩
    | succ i => simp at hp; exact hob i p hp

theorem envL_congr {L L' : Nat → Bool} {t : Tmp} : ∀ (ps : Pairs) (k : Nat) (E E' : Env), E t = E' t →
    (∀ j p, ps[j]? = some p → p.1.dst = some t → L (k + j) = L' (k + j)) → envL L ps k E t = envL L' ps k E' t := by
  intro ps
  induction ps with
  | nil => intro k E E' h _; exact h
  | cons p ps ih =>
    intro k E E' h hL
    simp only [envL]
    refine ih (k + 1) _ _ ?_ fun j q hq hd => by have := hL (j + 1) q (by simpa using hq) hd; simpa [Nat.add_assoc, Nat.add_comm 1 j] using this
    by_cases hd : p.1.dst = some t
    · have := hL 0 p rfl hd
      simp only [Nat.add_zero] at this
      rw [this]
      cases L' k <;> simp [Env.upd, hd, h]
    · cases L k <;> cases L' k <;> simp [Env.upd, hd, h]

theorem envL_last {L : Nat → Bool} {t : Tmp} : ∀ (ps : Pairs) (k i : Nat) (p : Oper × (Value → World → Prop)) (E : Env), ps[i]? = some p → p.1.dst = some t → L (k + i) = true →
    (∀ j q, i < j → ps[j]? = some q → q.1.dst = some t → L (k + j) = false) → envL L ps k E t = p.2 := by
  intro ps
  induction ps with
  | nil => intro k i p E h; simp at h
  | cons q ps ih =>
    intro k i p E hi hd hL hno
    simp only [envL]
    cases i with
    | zero =>
      simp at hi; subst hi
      simp only [Nat.add_zero] at hL
      rw [hL]
      have : ∀ (ps : Pairs) (k : Nat) (E : Env), (∀ j r, ps[j]? = some r → r.1.dst = some t → L (k + j) = false) → envL L ps k E t = E t := by
        intro ps
        induction ps with
        | nil => intro k E _; rfl
        | cons r ps ih2 =>
          intro k E h
          simp only [envL]
          rw [ih2 (k + 1) _ fun j s hs hds => by have := h (j + 1) s (by simpa using hs) hds; simpa [Nat.add_assoc, Nat.add_comm 1 j] using this]
          by_cases hdr : r.1.dst = some t
          · have := h 0 r rfl hdr
            simp only [Nat.add_zero] at this
            simp [this]
          · cases L k <;> simp [Env.upd, hdr]
      rw [this ps (k + 1) _ fun j r hr hdr => by have := hno (j + 1) r (by omega) (by simpa using hr) hdr; simpa [Nat.add_assoc, Nat.add_comm 1 j] using this]
      simp [Env.upd, hd]
    | succ i =>
      refine ih (k + 1) i p _ (by simpa using hi) hd (by rw [← hL]; congr 1; omega) fun j r hj hr hdr => ?_
      have := hno (j + 1) r (by omega) (by simpa using hr) hdr
      simpa [Nat.add_assoc, Nat.add_comm 1 j] using this

theorem envL_lt (i : Nat) : ∀ (ps : Pairs) (k : Nat) (E : Env), k ≤ i → envL (fun j => decide (j < i)) ps k E = envAll (ps.take (i - k)) E := by
  intro ps
  induction ps with
  | nil => intro k E _; simp [envL, envAll]
  | cons p ps ih =>
    intro k E hk
    simp only [envL]
    by_cases h : k < i
    · rw [show i - k = (i - (k + 1)) + 1 by omega, List.take_succ_cons]
      simp only [h, decide_true, if_true]
      rw [ih (k + 1) _ (by omega)]
      simp [envAll]
    · have : i = k := by omega
      subst this
      simp only [Nat.lt_irrefl, decide_false, Nat.sub_self, List.take_zero]
      have key : ∀ (ps : Pairs) (k : Nat) (E : Env), i ≤ k → envL (fun j => decide (j < i)) ps k E = E := by
        intro ps
        induction ps with
        | nil => intro k E _; rfl
        | cons q ps ih2 => intro k E hk; simp only [envL]; rw [ih2 _ _ (by omega)]; simp [Nat.not_lt.2 hk]
      rw [key ps _ _ (by omega)]; rfl

theorem envL_all {L : Nat → Bool} : ∀ (ps : Pairs) (k : Nat) (E : Env), (∀ j, j < ps.length → L (k + j) = true) → envL L ps k E = envAll ps E := by
  intro ps
  induction ps with
  | nil => intro k E _; rfl
  | cons p ps ih =>
    intro k E h
    simp only [envL]
    have h0 := h 0 (by simp)
    simp only [Nat.add_zero] at h0
    rw [h0, ih (k + 1) _ fun j hj => by have := h (j + 1) (by simpa using hj); simpa [Nat.add_assoc, Nat.add_comm 1 j] using this]
    rfl

/-- operation j waits for operation i -/
def waits (ops : Array Oper) (j i : Nat) : Bool := ((ops[j]?).map fun o => o.after.any fun e => Region.binds .any e && e.on == i).getD false
/-- operation j waits for operation i, itself or through others -/
def waitsN (ops : Array Oper) : Nat → Nat → Nat → Bool
  | 0, j, i => waits ops j i
  | f + 1, j, i => waits ops j i || ((ops[j]?).map fun o => o.after.any fun e => Region.binds .any e && waitsN ops f e.on i).getD false
/-- what the kernel reckons of a region: each operation waits for earlier ones alone; two of the first n that touch a temporary of each other are ordered; each behind them waits for all before it; the temporaries lie in the frame -/
def gB (ops : Array Oper) (n N : Nat) : Bool :=
  decide (n ≤ ops.size) &&
  ((List.range ops.size).all fun k => match ops[k]? with
    | some o => (o.after.all fun e => !Region.binds .any e || decide (e.on < k)) && (match o.dst with | some d => decide (d < N) | none => true)
    | none => false) &&
  ((List.range n).all fun j => (List.range j).all fun i => waits ops j i || match ops[i]?, ops[j]? with | some oi, some oj => oi.apart ops oj | _, _ => false) &&
  ((List.range ops.size).all fun k => decide (k < n) || (List.range k).all fun i => waitsN ops 7 k i)

theorem waits_spec {ops : Array Oper} {j i : Nat} (h : waits ops j i = true) : ∃ o e, ops[j]? = some o ∧ e ∈ o.after ∧ Region.binds .any e = true ∧ e.on = i := by
  unfold waits at h
  cases ho : ops[j]? with
  | none => simp [ho] at h
  | some o =>
    simp only [ho, Option.map_some, Option.getD_some] at h
    obtain ⟨i, hi, hb⟩ := Array.any_eq_true.1 h
    simp at hb
    exact ⟨o, o.after[i], rfl, Array.getElem_mem hi, hb.1, hb.2⟩

theorem reach_listed {ops : Array Oper} {L : Nat → Prop} (hcl : ∀ (j : Nat) (o : Oper) (e : Edge), L j → ops[j]? = some o → e ∈ o.after → Region.binds .any e = true → L e.on) :
    ∀ (f j i : Nat), waitsN ops f j i = true → (∀ (o : Oper) (e : Edge), ops[j]? = some o → e ∈ o.after → Region.binds .any e = true → L e.on) → L i := by
  intro f
  induction f with
  | zero =>
    intro j i h hd
    obtain ⟨o, e, ho, he, hb, hon⟩ := waits_spec h
    rw [← hon]; exact hd o e ho he hb
  | succ f ih =>
    intro j i h hd
    unfold waitsN at h
    rw [Bool.or_eq_true] at h
    rcases h with h | h
    · obtain ⟨o, e, ho, he, hb, hon⟩ := waits_spec h
      rw [← hon]; exact hd o e ho he hb
    · cases ho : ops[j]? with
      | none => simp [ho] at h
      | some o =>
        simp only [ho, Option.map_some, Option.getD_some] at h
        obtain ⟨x, hx, hb⟩ := Array.any_eq_true.1 h
        simp only [Bool.and_eq_true] at hb
        have hL := hd o o.after[x] ho (Array.getElem_mem hx) hb.1
        exact ih _ _ hb.2 (fun o' e' ho' he' hb' => hcl _ o' e' hL ho' he' hb')
theorem count_set (l : List Bool) (i : Nat) (h : l[i]? = some false) : (l.set i true).count false + 1 = l.count false := by
  induction l generalizing i with
  | nil => simp at h
  | cons b l ih =>
    cases i with
    | zero => simp at h; subst h; simp
    | succ i => simp at h; have := ih i h; cases b <;> simp [List.set_cons_succ] <;> omega
theorem count_all (l : List Bool) (n m : Nat) (hl : l.length = n + m) (h : ∀ k, n ≤ k → k < n + m → l[k]? = some false) (hc : l.count false = m) : ∀ j, j < n → l[j]? = some true := by
  intro j hj
  have hd : (l.drop n).count false = m := by
    have : l.drop n = List.replicate m false := by
      apply List.ext_getElem?
      intro i
      rw [List.getElem?_drop, List.getElem?_replicate]
      by_cases hi : i < m
      · rw [h (n + i) (by omega) (by omega), if_pos hi]
      · rw [if_neg hi, List.getElem?_eq_none (by omega)]
    rw [this, List.count_replicate_self]
  have ht : (l.take n).count false = 0 := by
    have := List.count_append (a := false) (l₁ := l.take n) (l₂ := l.drop n)
    rw [List.take_append_drop] at this
    omega
  have hm := List.count_eq_zero.1 ht
  have hlt : j < l.length := by omega
  have : (l.take n)[j]? = l[j]? := by rw [List.getElem?_take, if_pos hj]
  cases hb : l[j]? with
  | none => rw [List.getElem?_eq_none_iff] at hb; omega
  | some b =>
    cases b with
    | true => rfl
    | false => exact absurd (List.mem_of_getElem? (this.trans hb)) hm

section
variable {P : Program} {ops : Array Oper} {Q : Exit → Act → World → Prop}

theorem tail_any (n : Nat) (hT : ∀ k i, n ≤ k → k < ops.size → i < k → waitsN ops 7 k i = true) (hE : ∀ k o e, ops[k]? = some o → e ∈ o.after → Region.binds .any e = true → e.on < k) :
    ∀ (f m : Nat) (listed : Array Bool) (a : Act) (w : World), m + f = ops.size → n ≤ m → listed.size = ops.size → (∀ j, j < ops.size → listed[j]? = some (decide (j < m))) →
      wpOps P ops Q (List.range' m f) a w → wpAny P .any ops Q f listed a w := by
  intro f
  induction f with
  | zero =>
    intro m listed a w hm _ hs hl h
    refine ⟨?_, by simpa [wpOps] using h⟩
    rw [List.eq_nil_iff_forall_not_mem]
    intro j hj
    obtain ⟨h0, o, ho, _⟩ := mem_ready.1 hj
    have hj2 : j < ops.size := (Array.getElem?_eq_some_iff.1 ho).1
    have := hl j hj2
    simp [Array.getD_eq_getD_getElem?, this] at h0
    omega
  | succ f ih =>
    intro m listed a w hm hn hs hl h
    have hmem : m ∈ Region.ready .any ops listed := by
      refine mem_ready.2 ⟨by simp [Array.getD_eq_getD_getElem?, hl m (by omega)], ops[m]'(by omega), by simp [show m < ops.size by omega], fun e he hb => ?_⟩
      have := hE m _ e (Array.getElem?_eq_getElem (by omega)) he hb
      simp [Array.getD_eq_getD_getElem?, hl e.on (by omega), this]
    refine ⟨fun h0 => (by rw [h0] at hmem; cases hmem), fun i hi => ?_⟩
    obtain ⟨h0, o, ho, hall⟩ := mem_ready.1 hi
    have hio : i < ops.size := (Array.getElem?_eq_some_iff.1 ho).1
    have hmi : m ≤ i := by
      have := hl i hio
      simp [Array.getD_eq_getD_getElem?, this] at h0
      exact h0
    have him : i = m := by
      refine Classical.byContradiction fun hne => ?_
      have hL : ∀ j, listed[j]? = some true → j < m := by
        intro j hj
        have hjs : j < ops.size := by have := (Array.getElem?_eq_some_iff.1 hj).1; omega
        have := hl j hjs
        rw [hj] at this
        simpa using this.symm
      have : m < m := reach_listed (ops := ops) (L := fun j => j < m) (fun j o e hj ho he hb => by have := hE j o e ho he hb; omega) 7 i m (hT i m (by omega) hio (by omega)) (fun o' e ho' he hb => by
        rw [ho] at ho'; obtain rfl := Option.some.inj ho'
        have h2 := hall e he hb
        have h3 := hE i o e ho he hb
        refine hL e.on ?_
        have : e.on < listed.size := by omega
        simp [Array.getD_eq_getD_getElem?, this] at h2 ⊢; exact h2)
      omega
    subst him
    rw [List.range'_succ, wpOps_cons] at h
    refine wpOp_mono (fun a' w' h' => ih (i + 1) _ a' w' (by omega) (by omega) (by simp [hs]) (fun j hj => ?_) h') h
    rw [Array.getElem?_setIfInBounds]
    by_cases hij : i = j
    · subst hij; simp [hs, hj]
    · rw [if_neg hij, hl j hj]; congr 1; simp; omega

theorem put_tmps (a : Act) (d : Option Tmp) (u : Value) (t : Tmp) (h : ∀ d', d = some d' → d' < a.tmps.size) :
    ((a.put d u).tmps.getD t undef) = if d = some t then u else a.tmps.getD t undef := by
  cases d with
  | none => simp [Act.put]
  | some d =>
    have := h d rfl
    simp only [Act.put, Array.getD_eq_getD_getElem?, Array.getElem?_setIfInBounds]
    by_cases hd : d = t
    · subst hd; simp [this]
    · simp [hd]
theorem put_size (a : Act) (d : Option Tmp) (u : Value) : (a.put d u).tmps.size = a.tmps.size := by cases d <;> simp [Act.put]
theorem put_defers (a : Act) (d : Option Tmp) (u : Value) : (a.put d u).defers = a.defers := by cases d <;> rfl

theorem grow_any {w0 : World} {D : List Deferred} {N n : Nat} {ps : Pairs} {E0 : Env} {QT : Act → World → Prop} (hB : gB ops n N = true) (hlen : ps.length = n) (hps : ∀ (i : Nat) (p : Oper × (Value → World → Prop)), ps[i]? = some p → ops[i]? = some p.1)
    (hE0 : ∀ t, Stb (E0 t)) (hob : ∀ (i : Nat) (p : Oper × (Value → World → Prop)), ps[i]? = some p → Stb p.2 ∧ Ob P ops w0 D N p.1 (envAll (ps.take i) E0) p.2) (hfin : Fin w0 D N QT (envAll ps E0))
    (hQT : ∀ a w, QT a w → wpOps P ops Q (List.range' n (ops.size - n)) a w) :
    ∀ (fuel : Nat) (listed : Array Bool) (a : Act) (w : World), listed.size = ops.size → listed.toList.count false = fuel → Gr w0 w → a.defers = D → a.tmps.size = N →
      (∀ (j : Nat) (o : Oper) (e : Edge), listed[j]? = some true → ops[j]? = some o → e ∈ o.after → Region.binds .any e = true → listed[e.on]? = some true) →
      (∀ k : Nat, n ≤ k → k < ops.size → listed[k]? = some false) →
      (envL (fun j => listed[j]? == some true) ps 0 E0).ok a w → wpAny P .any ops Q fuel listed a w := by
  simp only [gB, Bool.and_eq_true, decide_eq_true_eq, List.all_eq_true, List.mem_range] at hB
  obtain ⟨⟨⟨hn, hB1⟩, hB2⟩, hB3⟩ := hB
  have hE : ∀ (k : Nat) (o : Oper) (e : Edge), ops[k]? = some o → e ∈ o.after → Region.binds .any e = true → e.on < k := by
    intro k o e ho he hb
    have := hB1 k (Array.getElem?_eq_some_iff.1 ho).1
    rw [ho] at this
    simp only [Bool.and_eq_true] at this
    have h2 := Array.all_eq_true_iff_forall_mem.1 this.1 e he
    simpa [hb] using h2
  have hD : ∀ (k : Nat) (o : Oper) (d : Tmp), ops[k]? = some o → o.dst = some d → d < N := by
    intro k o d ho hd
    have := hB1 k (Array.getElem?_eq_some_iff.1 ho).1
    rw [ho] at this
    simp only [Bool.and_eq_true] at this
    simpa [hd] using this.2
  have hT : ∀ k i, n ≤ k → k < ops.size → i < k → waitsN ops 7 k i = true := by
    intro k i hk hko hi
    have := hB3 k hko
    simp only [Bool.or_eq_true, decide_eq_true_eq, List.all_eq_true, List.mem_range] at this
    rcases this with h | h
    · omega
    · exact h i hi
  have hA : ∀ (i j : Nat) (oi oj : Oper), i < j → j < n → ops[i]? = some oi → ops[j]? = some oj → waits ops j i = true ∨ oi.apart ops oj = true := by
    intro i j oi oj hij hj hi hjo
    have := hB2 j hj i hij
    rw [hi, hjo] at this
    simpa using this
  intro fuel
  induction fuel with
  | zero =>
    intro listed a w hs hc hG hDf hN hcl htl hen
    by_cases h0 : ops.size - n = 0
    · have hall := count_all listed.toList n 0 (by simp [hs]; omega) (fun k h1 h2 => by omega) hc
      refine tail_any n hT hE 0 ops.size listed a w (by omega) hn hs (fun j hj => by have := hall j (by omega); simpa [hj] using this) ?_
      have := hQT a w (hfin a w hG hDf hN (by rw [envL_all ps 0 E0 (fun j hj => by have := hall j (by omega); simpa using this)] at hen; exact hen))
      rw [h0] at this; simpa [wpOps] using this
    · exfalso
      have h1 := htl n (Nat.le_refl _) (by omega)
      have := List.count_eq_zero.1 hc
      exact this (List.mem_of_getElem? (i := n) (by simpa using h1))
  | succ fuel ih =>
    intro listed a w hs hc hG hDf hN hcl htl hen
    by_cases hf : fuel + 1 = ops.size - n
    · have hall := count_all listed.toList n (ops.size - n) (by simp [hs]; omega) (fun k h1 h2 => by simpa using htl k h1 (by omega)) (by rw [hc, hf])
      refine tail_any n hT hE (fuel + 1) n listed a w (by omega) (Nat.le_refl _) hs (fun j hj => ?_) ?_
      · by_cases hjn : j < n
        · have := hall j hjn; simpa [hjn] using this
        · rw [htl j (by omega) hj]; simp [hjn]
      · rw [hf]
        exact hQT a w (hfin a w hG hDf hN (by rw [envL_all ps 0 E0 (fun j hj => by have := hall j (by omega); simpa using this)] at hen; exact hen))
    · -- some of the first n is still to come
      have hgetD : ∀ j d, j < ops.size → listed.getD j d = true → listed[j]? = some true := by
        intro j d hj h
        have : j < listed.size := by omega
        simp [Array.getD_eq_getD_getElem?, this] at h ⊢; exact h
      have hex : ∃ k, k < n ∧ listed[k]? = some false := by
        refine Classical.byContradiction fun hno => hf ?_
        have h1 : ∀ j, j < n → listed[j]? = some true := by
          intro j hj
          cases hb : listed[j]? with
          | none => rw [Array.getElem?_eq_none_iff] at hb; omega
          | some b => cases b with
            | true => rfl
            | false => exact absurd ⟨j, hj, hb⟩ hno
        have h2 : listed.toList = List.replicate n true ++ List.replicate (ops.size - n) false := by
          apply List.ext_getElem?
          intro i
          by_cases hi : i < n
          · rw [List.getElem?_append_left (by simpa using hi), List.getElem?_replicate, if_pos hi]; simpa using h1 i hi
          · rw [List.getElem?_append_right (by simpa using hi), List.getElem?_replicate]
            by_cases hi2 : i < ops.size
            · rw [if_pos (by simp; omega)]; simpa using htl i (by omega) hi2
            · rw [if_neg (by simp; omega), List.getElem?_eq_none (by simp [hs]; omega)]
        rw [h2, List.count_append, List.count_replicate_self] at hc
        have : (List.replicate n true).count false = 0 := by rw [List.count_replicate]; simp
        omega
      have hleast : ∃ k, k < n ∧ listed[k]? = some false ∧ ∀ j, j < k → listed[j]? = some true := by
        obtain ⟨k, hk, hkf⟩ := hex
        induction k using Nat.strongRecOn with
        | _ k ihk =>
          by_cases h : ∃ j, j < k ∧ listed[j]? = some false
          · obtain ⟨j, hj, hjf⟩ := h; exact ihk j hj (by omega) hjf
          · refine ⟨k, hk, hkf, fun j hj => ?_⟩
            cases hb : listed[j]? with
            | none => rw [Array.getElem?_eq_none_iff] at hb; omega
            | some b => cases b with
              | true => rfl
              | false => exact absurd ⟨j, hj, hb⟩ h
      refine ⟨fun h0 => ?_, fun i hi => ?_⟩
      · exfalso
        obtain ⟨k, hk, hkf, hkl⟩ := hleast
        have : k ∈ Region.ready .any ops listed := mem_ready.2 ⟨by simp [Array.getD_eq_getD_getElem?, hkf], ops[k]'(by omega), by simp [show k < ops.size by omega], fun e he hb => by
          have := hE k _ e (Array.getElem?_eq_getElem (by omega)) he hb
          simp [Array.getD_eq_getD_getElem?, hkl e.on this]⟩
        rw [h0] at this; cases this
      · obtain ⟨hi0, o, ho, hall⟩ := mem_ready.1 hi
        have hio : i < ops.size := (Array.getElem?_eq_some_iff.1 ho).1
        have hif : listed[i]? = some false := by
          have : i < listed.size := by omega
          simp [Array.getD_eq_getD_getElem?, this] at hi0 ⊢; exact hi0
        have hdep : ∀ e ∈ o.after, Region.binds .any e = true → listed[e.on]? = some true := fun e he hb => hgetD e.on false (by have := hE i o e ho he hb; omega) (hall e he hb)
        have hin : i < n := by
          refine Classical.byContradiction fun hni => ?_
          obtain ⟨k, hk, hkf, _⟩ := hleast
          have := reach_listed (ops := ops) (L := fun j => listed[j]? = some true) hcl 7 i k (hT i k (by omega) hio (by omega)) (fun o' e ho' he hb => by
            rw [ho] at ho'; obtain rfl := Option.some.inj ho'
            exact hdep e he hb)
          rw [hkf] at this; simp at this
        obtain ⟨p, hp⟩ : ∃ p, ps[i]? = some p := ⟨ps[i]'(by omega), List.getElem?_eq_getElem (by omega)⟩
        have hpo : p.1 = o := by have := hps i p hp; rw [ho] at this; exact (Option.some.inj this).symm
        obtain ⟨hstb, hobi⟩ := hob i p hp
        rw [hpo] at hobi
        -- what touches i's temporaries
        have hlater : ∀ j q, i < j → ps[j]? = some q → (o.apart ops q.1 = false) → listed[j]? = some false := by
          intro j q hij hq hap
          have hjn : j < n := by rw [← hlen]; exact (List.getElem?_eq_some_iff.1 hq).1
          have hjo := hps j q hq
          rcases hA i j o q.1 hij hjn ho hjo with hw | hw
          · obtain ⟨o', e, ho', he, hb, hon⟩ := waits_spec hw
            cases hb2 : listed[j]? with
            | none => rw [Array.getElem?_eq_none_iff] at hb2; omega
            | some b => cases b with
              | false => rfl
              | true => have := hcl j o' e hb2 ho' he hb; rw [hon, hif] at this; simp at this
          · rw [hw] at hap; cases hap
        have hlook : ∀ t ∈ o.looksAt ops, (envAll (ps.take i) E0) t (a.tmps.getD t undef) w := by
          intro t ht
          have h1 := hen t
          have h2 : envL (fun j => listed[j]? == some true) ps 0 E0 t = envL (fun j => decide (j < i)) ps 0 E0 t := by
            refine envL_congr ps 0 E0 E0 rfl fun j q hq hd => ?_
            simp only [Nat.zero_add]
            have hjn : j < n := by rw [← hlen]; exact (List.getElem?_eq_some_iff.1 hq).1
            have hjo := hps j q hq
            by_cases hij : j < i
            · rcases hA j i q.1 o hij hin hjo ho with hw | hw
              · obtain ⟨o', e, ho', he, hb, hon⟩ := waits_spec hw
                rw [ho] at ho'; obtain rfl := Option.some.inj ho'
                have := hdep e he hb
                rw [hon] at this; simp [this, hij]
              · exact absurd ht ((Oper.apart_spec hw).1 t hd)
            · by_cases hji : j = i
              · subst hji; simp [hif]
              · have hap : o.apart ops q.1 = false := by
                  cases hap : o.apart ops q.1 with
                  | false => rfl
                  | true => exact absurd ht ((Oper.apart_spec hap).2.2 t hd)
                have := hlater j q (by omega) hq hap
                simp [this, hij]
          rw [h2, envL_lt i ps 0 E0 (by omega)] at h1
          simpa using h1
        have hset : ∀ j, (listed.setIfInBounds i true)[j]? = if j = i then some true else listed[j]? := by
          intro j
          rw [Array.getElem?_setIfInBounds]
          by_cases hij : i = j
          · subst hij; simp [hs, hio]
          · rw [if_neg hij, if_neg (fun h => hij h.symm)]
        have next : ∀ (u : Value) (w' : World), Gr w w' → p.2 u w' → wpAny P .any ops Q fuel (listed.setIfInBounds i true) (a.put o.dst u) w' := by
          intro u w' hg hu
          refine ih _ _ _ (by simp [hs]) ?_ (hG.trans hg) (by rw [put_defers]; exact hDf) (by rw [put_size]; exact hN) ?_ ?_ ?_
          · have := count_set listed.toList i (by simpa using hif)
            rw [Array.toList_setIfInBounds]; omega
          · intro j oj e hj hoj he hb
            rw [hset] at hj ⊢
            by_cases hji : j = i
            · subst hji
              rw [ho] at hoj; obtain rfl := Option.some.inj hoj
              have := hdep e he hb
              split
              · rfl
              · exact this
            · rw [if_neg hji] at hj
              split
              · rfl
              · exact hcl j oj e hj hoj he hb
          · intro k hk hko
            rw [hset, if_neg (by omega)]; exact htl k hk hko
          · intro t
            rw [put_tmps a o.dst u t (fun d hd => by rw [hN]; exact hD i o d ho hd)]
            by_cases hd : o.dst = some t
            · rw [if_pos hd, envL_last ps 0 i p E0 hp (by rw [hpo]; exact hd) (by simp [hset]) (fun j q hij hq hdq => ?_)]
              · exact hu
              · have hap : o.apart ops q.1 = false := by
                  cases hap : o.apart ops q.1 with
                  | false => rfl
                  | true => exact absurd hdq ((Oper.apart_spec hap).2.1 t hd)
                have := hlater j q hij hq hap
                simp [hset, show j ≠ i by omega, this]
            · rw [if_neg hd]
              have h1 : envL (fun j => (listed.setIfInBounds i true)[j]? == some true) ps 0 E0 t = envL (fun j => listed[j]? == some true) ps 0 E0 t := by
                refine envL_congr ps 0 E0 E0 rfl fun j q hq hdq => ?_
                simp only [Nat.zero_add, hset]
                by_cases hji : j = i
                · subst hji
                  rw [hp] at hq; obtain rfl := Option.some.inj hq
                  rw [hpo] at hdq; exact absurd hdq hd
                · rw [if_neg hji]
              rw [h1]
              have hst : ∀ (L : Nat → Bool) (qs : Pairs) (k : Nat) (E : Env), (∀ t, Stb (E t)) → (∀ q ∈ qs, Stb q.2) → ∀ t, Stb (envL L qs k E t) := by
                intro L qs
                induction qs with
                | nil => intro k E h _ t; exact h t
                | cons q qs ihq =>
                  intro k E h hq t
                  simp only [envL]
                  refine ihq (k + 1) _ (fun t' => ?_) (fun q' hq' => hq q' (by simp [hq'])) t
                  split
                  · simp only [Env.upd]; split
                    · exact hq q (by simp)
                    · exact h t'
                  · exact h t'
              refine hst _ ps 0 E0 hE0 (fun q hq => ?_) t _ _ _ hg (hen t)
              obtain ⟨j, hj⟩ := List.getElem?_of_mem hq
              exact (hob j q hj).1
        unfold wpOp
        rw [ho]
        rcases hobi a w hG hDf hN hlook with ⟨hw, hg⟩ | ⟨hw, hg⟩
        · simp only [hw, if_true]
          refine .inl ?_
          unfold gAt at hg
          unfold Oper.wp
          generalize (execOp a.eval o).run P w = r at hg ⊢
          cases r with
          | halt x w' => simp only [gUpon] at hg
          | ok nx w' =>
            cases nx <;> simp only [gUpon] at hg <;> simp only [Oper.upon]
            case value u => exact next u w' hg.1 hg.2
            case skip => exact next undef w' hg.1 hg.2
            case enter f args => exact hg.2.mono fun e w'' ⟨v, he, hg2, hv⟩ => by subst he; exact next v w'' (hg.1.trans hg2) hv
        · simp only [hw]
          exact next undef w (Gr.refl w) hg

/-- a region that draws its order: the first operations by one walk in the order of the text, the tail behind them -/
theorem wp_region_grow {id n N : Nat} {l : List Oper} {a : Act} {w : World} (hm : P.follows .mixedOrders = true) (hsz : a.tmps.size = N) (hB : gB l.toArray n N = true)
    (h : wpG P l.toArray w.drew a.defers N (wpList P l.toArray Q (l.drop n)) (l.take n) (fun t u _ => u = a.tmps.getD t undef)) : (Code.region id l.toArray true).wp P Q a w := by
  obtain ⟨ps, hpm, hob, hfin⟩ := wpG_pairs _ _ h
  have hn : n ≤ l.length := by
    simp only [gB, Bool.and_eq_true, decide_eq_true_eq] at hB
    simpa using hB.1.1.1
  have hlen : ps.length = n := by
    have := congrArg List.length hpm
    simp at this; omega
  refine wp_region_any hm (grow_any (n := n) (N := N) (w0 := w.drew) (D := a.defers) (QT := wpList P l.toArray Q (l.drop n)) hB hlen (fun i p hp => ?_) (fun t => stb_pure _) hob hfin (fun a' w' h' => ?_) _ _ _ _ (by simp) (by simp) (Gr.refl _) rfl hsz ?_ ?_ ?_)
  · have h1 : (ps.map (·.1))[i]? = some p.1 := by simp [hp]
    rw [hpm, List.getElem?_take] at h1
    split at h1
    · simpa using h1
    · simp at h1
  · rw [show l.toArray.size - n = (l.drop n).length by simp, wpOps_eq_wpList (l.drop n) n (fun j => by simp)]
    exact h'
  · intro j o e hj; simp [Array.getElem?_replicate] at hj
  · intro k _ hk; simp [Array.getElem?_replicate]; simpa using hk
  · intro t
    have : ∀ (qs : Pairs) (k : Nat) (E : Env), envL (fun j => (Array.replicate l.toArray.size false)[j]? == some true) qs k E = E := by
      intro qs
      induction qs with
      | nil => intro k E; rfl
      | cons q qs ihq =>
        intro k E
        simp only [envL]
        rw [ihq]
        have : ((Array.replicate l.toArray.size false)[k]? == some true) = false := by simp [Array.getElem?_replicate]
        rw [if_neg (by rw [this]; simp)]
    rw [this]

/-! the walk's own form: a frame that is written out, and what is known of the temporaries whose values are open -/
abbrev Opn := List (Tmp × (Value → World → Prop))
def EG (Γ : Opn) (a : Act) : Env := fun t u w => match Γ.lookup t with
  | some V => V u w
  | none => u = a.tmps.getD t undef
def free (Γ : Opn) (ts : List Tmp) : Bool := ts.all fun t => (Γ.lookup t).isNone
def isSelect : Op → Bool
  | .select _ _ => true
  | _ => false

theorem free_none {Γ : Opn} {ts : List Tmp} (h : free Γ ts = true) {t : Tmp} (ht : t ∈ ts) : Γ.lookup t = none := by
  have := List.all_eq_true.1 h t ht
  simpa using this
theorem eval_same {o : Oper} {a a' : Act} (h : ∀ t ∈ o.looksAt ops, a'.tmps.getD t undef = a.tmps.getD t undef) : ∀ x ∈ o.op.operands, a'.eval x = a.eval x := by
  intro x hx
  cases x with
  | tmp t => exact h t (List.mem_append_left _ (List.mem_filterMap.2 ⟨.tmp t, by simpa using hx, rfl⟩))
  | _ => rfl
def boolOf : Value → Option Bool
  | .bool b => some b
  | _ => none
theorem yielded_getD (ops : Array Oper) (tmps : Array Value) (j : Nat) : yielded ops tmps j = ((ops[j]?).bind (·.dst)).bind fun t => boolOf (tmps.getD t undef) := by
  unfold yielded
  cases (ops[j]?).bind (·.dst) with
  | none => rfl
  | some t =>
    simp only [Option.bind_some, Array.getD_eq_getD_getElem?]
    cases tmps[t]? with
    | none => rfl
    | some v => cases v <;> rfl
theorem wanted_same {o : Oper} {a a' : Act} (h : ∀ t ∈ o.looksAt ops, a'.tmps.getD t undef = a.tmps.getD t undef) :
    Region.wanted o (yielded ops a'.tmps) = Region.wanted o (yielded ops a.tmps) := by
  unfold Region.wanted
  cases hg : o.guard with
  | none => rfl
  | some gw =>
    obtain ⟨g, want⟩ := gw
    have hy : yielded ops a'.tmps g = yielded ops a.tmps g := by
      rw [yielded_getD, yielded_getD]
      cases ht : (ops[g]?).bind (·.dst) with
      | none => rfl
      | some t => simp only [Option.bind_some, h t (by simp [Oper.looksAt, hg, ht])]
    simp only [hy]
theorem gAt_same {o : Oper} {a a' : Act} {w : World} {V : Value → World → Prop} (hs : isSelect o.op = false) (h : ∀ t ∈ o.looksAt ops, a'.tmps.getD t undef = a.tmps.getD t undef) (hg : gAt P o a w V) : gAt P o a' w V := by
  unfold gAt at *
  rw [execOp_congr o (fun cs b e => by rw [e] at hs; simp [isSelect] at hs) (eval_same (ops := ops) h)]
  exact hg
theorem EG_put {Γ : Opn} {a : Act} {d : Option Tmp} {v : Value} (hd : ∀ t, d = some t → Γ.lookup t = none ∧ t < a.tmps.size) : (EG Γ a).upd d (fun u _ => u = v) = EG Γ (a.put d v) := by
  funext t u w
  simp only [Env.upd]
  by_cases h : d = some t
  · obtain ⟨h1, h2⟩ := hd t h
    simp only [h, if_true, EG, h1]
    rw [put_tmps a (some t) v t (fun d' e => by cases e; exact h2), if_pos rfl]
  · simp only [if_neg h, EG]
    cases d with
    | none => rfl
    | some d =>
      have hne : d ≠ t := fun e => h (by rw [e])
      cases Γ.lookup t with
      | some V => rfl
      | none => simp [Act.put, Array.getElem?_setIfInBounds_ne hne]
def dstOk (Γ : Opn) (N : Nat) (d : Option Tmp) : Bool := match d with
  | some t => (Γ.lookup t).isNone && decide (t < N)
  | none => true
theorem dstOk_spec {Γ : Opn} {N : Nat} {d : Option Tmp} {a : Act} (hN : a.tmps.size = N) (h : dstOk Γ N d = true) : ∀ t, d = some t → Γ.lookup t = none ∧ t < a.tmps.size := by
  intro t hd; subst hd
  simp only [dstOk, Bool.and_eq_true, Option.isNone_iff_eq_none, decide_eq_true_eq] at h
  exact ⟨h.1, by rw [hN]; exact h.2⟩

variable {w0 : World} {D : List Deferred} {N : Nat} {QT : Act → World → Prop} {Γ : Opn} {a : Act} {o : Oper} {rest : List Oper}

/-- an operation whose value is known and whose operands are written out -/
theorem grow_det (hN : a.tmps.size = N) (hs : isSelect o.op = false) (hf : free Γ (o.looksAt ops) = true) (hw : Region.wanted o (yielded ops a.tmps) = true) (hd : dstOk Γ N o.dst = true)
    {v : Value} (hob : ∀ w, Gr w0 w → gAt P o a w (fun u _ => u = v)) (h : wpG P ops w0 D N QT rest (EG Γ (a.put o.dst v))) : wpG P ops w0 D N QT (o :: rest) (EG Γ a) := by
  refine ⟨fun u _ => u = v, stb_pure _, ?_, by rw [EG_put (dstOk_spec hN hd)]; exact h⟩
  intro a' w hG _ _ hl
  have hsame : ∀ t ∈ o.looksAt ops, a'.tmps.getD t undef = a.tmps.getD t undef := fun t ht => by
    have := hl t ht; simpa only [EG, free_none hf ht] using this
  exact .inl ⟨by rw [wanted_same hsame]; exact hw, gAt_same hs hsame (hob w hG)⟩
/-- an operation that is passed over -/
theorem grow_skip (hN : a.tmps.size = N) (hf : free Γ (o.looksAt ops) = true) (hw : Region.wanted o (yielded ops a.tmps) = false) (hd : dstOk Γ N o.dst = true)
    (h : wpG P ops w0 D N QT rest (EG Γ (a.put o.dst undef))) : wpG P ops w0 D N QT (o :: rest) (EG Γ a) := by
  refine ⟨fun u _ => u = undef, stb_pure _, ?_, by rw [EG_put (dstOk_spec hN hd)]; exact h⟩
  intro a' w hG _ _ hl
  have hsame : ∀ t ∈ o.looksAt ops, a'.tmps.getD t undef = a.tmps.getD t undef := fun t ht => by
    have := hl t ht; simpa only [EG, free_none hf ht] using this
  exact .inr ⟨by rw [wanted_same hsame]; exact hw, rfl⟩
theorem EG_open {d : Tmp} {V : Value → World → Prop} : (EG Γ a).upd (some d) V = EG ((d, V) :: Γ) a := by
  funext t u w
  by_cases h : d = t
  · subst h; simp [Env.upd, EG]
  · have h2 : (t == d) = false := by simpa using fun e => h e.symm
    have h3 : ¬ (some d = some t) := by simpa using h
    have e1 : (EG Γ a).upd (some d) V t = EG Γ a t := if_neg h3
    have e2 : ((d, V) :: Γ).lookup t = Γ.lookup t := by rw [List.lookup_cons, h2]
    rw [e1]
    unfold EG
    rw [e2]
/-- an operation of whose value a property is known; its operands are written out -/
theorem grow_open (V : Value → World → Prop) {d : Tmp} (ho : o.dst = some d) (hs : isSelect o.op = false) (hf : free Γ (o.looksAt ops) = true) (hw : Region.wanted o (yielded ops a.tmps) = true)
    (hV : Stb V) (hob : ∀ w, Gr w0 w → gAt P o a w V) (h : wpG P ops w0 D N QT rest (EG ((d, V) :: Γ) a)) : wpG P ops w0 D N QT (o :: rest) (EG Γ a) := by
  refine ⟨V, hV, ?_, by rw [ho, EG_open]; exact h⟩
  intro a' w hG _ _ hl
  have hsame : ∀ t ∈ o.looksAt ops, a'.tmps.getD t undef = a.tmps.getD t undef := fun t ht => by
    have := hl t ht; simpa only [EG, free_none hf ht] using this
  exact .inl ⟨by rw [wanted_same hsame]; exact hw, gAt_same hs hsame (hob w hG)⟩

/-- an operation that looks at one open temporary -/
theorem same_one {t1 : Tmp} (hN : t1 < a.tmps.size) (hf : free Γ ((o.looksAt ops).filter (· != t1)) = true) {a' : Act} {w : World}
    (hl : ∀ t ∈ o.looksAt ops, EG Γ a t (a'.tmps.getD t undef) w) : ∀ t ∈ o.looksAt ops, a'.tmps.getD t undef = (a.put (some t1) (a'.tmps.getD t1 undef)).tmps.getD t undef := by
  intro t ht
  rw [put_tmps _ _ _ _ (fun d e => by cases e; exact hN)]
  by_cases h : t1 = t
  · subst h; simp
  · have hlk := free_none hf (t := t) (List.mem_filter.2 ⟨ht, by simpa using fun e => h e.symm⟩)
    have := hl t ht
    simp only [EG, hlk] at this
    rw [if_neg (by simpa using h)]; exact this
def guardOff (ops : Array Oper) (o : Oper) (t : Tmp) : Bool := match o.guard with
  | some (g, _) => (ops[g]?).bind (·.dst) != some t
  | none => true
theorem wanted_put1 {t1 : Tmp} {u : Value} (hg : guardOff ops o t1 = true) : Region.wanted o (yielded ops (a.put (some t1) u).tmps) = Region.wanted o (yielded ops a.tmps) := by
  unfold Region.wanted
  cases hgd : o.guard with
  | none => rfl
  | some gw =>
    obtain ⟨g, want⟩ := gw
    have hy : yielded ops (a.put (some t1) u).tmps g = yielded ops a.tmps g := by
      unfold yielded
      cases ht : (ops[g]?).bind (·.dst) with
      | none => rfl
      | some t =>
        have hne : t1 ≠ t := fun e => by simp [guardOff, hgd, ht, e] at hg
        simp [Act.put, Array.getElem?_setIfInBounds_ne hne]
    simp only [hy]
theorem grow_det1 (t1 : Tmp) {V1 : Value → World → Prop} (hN : a.tmps.size = N) (ht : t1 < N) (ho : Γ.lookup t1 = some V1) (hs : isSelect o.op = false) (hf : free Γ ((o.looksAt ops).filter (· != t1)) = true) (hm : t1 ∈ o.looksAt ops)
    (hg : guardOff ops o t1 = true) (hw : Region.wanted o (yielded ops a.tmps) = true) (hd : dstOk Γ N o.dst = true)
    {v : Value} (hob : ∀ w u, Gr w0 w → V1 u w → gAt P o (a.put (some t1) u) w (fun u _ => u = v)) (h : wpG P ops w0 D N QT rest (EG Γ (a.put o.dst v))) : wpG P ops w0 D N QT (o :: rest) (EG Γ a) := by
  refine ⟨fun u _ => u = v, stb_pure _, ?_, by rw [EG_put (dstOk_spec hN hd)]; exact h⟩
  intro a' w hG _ _ hl
  have hsame := same_one (t1 := t1) (by rw [hN]; exact ht) hf hl
  have h1 := hl t1 hm
  simp only [EG, ho] at h1
  exact .inl ⟨by rw [wanted_same hsame, wanted_put1 hg]; exact hw, gAt_same hs hsame (hob w _ hG h1)⟩
theorem act_ext {x y : Act} (hd : x.defers = y.defers) (hs : x.tmps.size = y.tmps.size) (ht : ∀ t, x.tmps.getD t undef = y.tmps.getD t undef) : x = y := by
  obtain ⟨xt, xd⟩ := x; obtain ⟨yt, yd⟩ := y
  simp only at hd hs ht
  subst hd
  congr 1
  apply Array.ext hs
  intro i h1 h2
  have := ht i
  simpa [Array.getD_eq_getD_getElem?, h1, h2] using this
theorem grow_end0 (hD : a.defers = D) (hN : a.tmps.size = N) (h : ∀ w, Gr w0 w → QT a w) : wpG P ops w0 D N QT [] (EG [] a) := by
  intro a' w hG hDf hsz hok
  have : a' = a := act_ext (hDf.trans hD.symm) (hsz.trans hN.symm) fun t => hok t
  rw [this]; exact h w hG
theorem grow_end1 {t1 : Tmp} {V1 : Value → World → Prop} (hD : a.defers = D) (hN : a.tmps.size = N) (ht : t1 < N) (h : ∀ w u, Gr w0 w → V1 u w → QT (a.put (some t1) u) w) : wpG P ops w0 D N QT [] (EG [(t1, V1)] a) := by
  intro a' w hG hDf hsz hok
  have h1 := hok t1
  simp only [EG, List.lookup_cons, beq_self_eq_true] at h1
  have : a' = a.put (some t1) (a'.tmps.getD t1 undef) := act_ext (by rw [put_defers, hDf, hD]) (by rw [put_size, hsz, hN]) fun t => by
    rw [put_tmps _ _ _ _ (fun d e => by cases e; rw [hN]; exact ht)]
    by_cases hh : t1 = t
    · subst hh; simp
    · have := hok t
      have h2 : (t == t1) = false := by simpa using fun e => hh e.symm
      simp only [EG, List.lookup_cons, h2, List.lookup_nil] at this
      rw [if_neg (by simpa using hh)]; exact this
  rw [this]; exact h w _ hG h1
theorem grow_end2 {t1 t2 : Tmp} {V1 V2 : Value → World → Prop} (hD : a.defers = D) (hN : a.tmps.size = N) (ht : t1 < N) (ht2 : t2 < N) (hne : (t1 == t2) = false)
    (h : ∀ w u u2, Gr w0 w → V1 u w → V2 u2 w → QT ((a.put (some t1) u).put (some t2) u2) w) : wpG P ops w0 D N QT [] (EG [(t2, V2), (t1, V1)] a) := by
  intro a' w hG hDf hsz hok
  have h1 := hok t1
  simp only [EG, List.lookup_cons, beq_self_eq_true, hne] at h1
  have h2 := hok t2
  simp only [EG, List.lookup_cons, beq_self_eq_true] at h2
  have : a' = (a.put (some t1) (a'.tmps.getD t1 undef)).put (some t2) (a'.tmps.getD t2 undef) := act_ext (by rw [put_defers, put_defers, hDf, hD]) (by rw [put_size, put_size, hsz, hN]) fun t => by
    rw [put_tmps _ _ _ _ (fun d e => by cases e; rw [put_size, hN]; exact ht2), put_tmps _ _ _ _ (fun d e => by cases e; rw [hN]; exact ht)]
    by_cases hh2 : t2 = t
    · subst hh2; simp
    · rw [if_neg (by simpa using hh2)]
      by_cases hh : t1 = t
      · subst hh; simp
      · have := hok t
        have e1 : (t == t1) = false := by simpa using fun e => hh e.symm
        have e2 : (t == t2) = false := by simpa using fun e => hh2 e.symm
        simp only [EG, List.lookup_cons, e1, e2, List.lookup_nil] at this
        rw [if_neg (by simpa using hh)]; exact this
  rw [this]; exact h w _ _ hG h1 h2
/-- the region's law in the walk's own form -/
theorem region_grow {Q : Exit → Act → World → Prop} {w : World} (n N : Nat) {id : Nat} {l l1 l2 : List Oper} (hm : P.follows .mixedOrders = true) (hsz : a.tmps.size = N) (hB : gB l.toArray n N = true) (h1 : l.take n = l1) (h2 : l.drop n = l2)
    (h : wpG P l.toArray w.drew a.defers N (wpList P l.toArray Q l2) l1 (EG [] a)) : (Code.region id l.toArray true).wp P Q a w :=
  wp_region_grow (n := n) hm hsz hB (by rw [h1, h2]; exact h)
end
/-- a slice over a new row of cells -/
def NewRow (cs : List Value) (T : TypeId) : Value → World → Prop := fun v w => ∃ b, v = .slice (some ⟨b, 0, none⟩) cs.length cs.length ∧ w.heap[b]? = some (.cells cs.toArray T (0, 0))
theorem Gr.block {w w' : World} (h : Gr w w') {b : Nat} {o : Obj} (hb : w.heap[b]? = some o) : w'.heap[b]? = some o := by
  have hlt : b < w.heap.size := (Array.getElem?_eq_some_iff.1 hb).1
  rw [(show Below w.heap.size w w' from h).block b hlt]; exact hb
theorem Gr.cell {w w' : World} (h : Gr w w') {a : Addr} {v : Value} (hc : w.cell? a = some v) : w'.cell? a = some v := by
  rw [Below.cell h (World.block_lt_of_cell? w a hc)]; exact hc
theorem Gr.frozen {w w' : World} (h : Gr w w') {a : Addr} (hc : a.block < w.heap.size) : w'.frozen? a = w.frozen? a := Below.frozen h hc
theorem stb_row (cs : List Value) (T : TypeId) : Stb (NewRow cs T) := fun _ _ _ h ⟨b, hv, hb⟩ => ⟨b, hv, h.block hb⟩
theorem newRow_alloc (w : World) (cs : List Value) (T : TypeId) {n : Nat} (hn : n = cs.length) : NewRow cs T (.slice (some ⟨w.heap.size, 0, none⟩) n n) (w.alloc (.cells cs.toArray T)) := by
  subst hn
  refine ⟨_, rfl, ?_⟩
  show (w.heap.push _)[w.heap.size]? = _
  simp
end
section
open Go Go.RowKit

/-- a world that has grown out of another -/
structure GrS (w0 : World) where
  w : World
  h : Gr w0 w
instance (w0 : World) : Nonempty (GrS w0) := ⟨⟨w0, Gr.refl w0⟩⟩

/-- operations that never call -/
def noCall : Op → Bool
  | .move _ | .assign _ | .pick .. | .load _ _ | .nilCheck _ | .binOp .. | .unOp .. | .convert .. | .slice .. | .fieldAddr .. | .field .. | .indexAddr .. | .index .. | .extract .. | .makeInterface .. => true
  | .call { callee := .builtin .len, .. } => true
  | _ => false
theorem value_bind {P : Program} {w w' : World} {s : Sem Value} {f : FuncId} {args : Array Value} : (do pure (Next.value (← s)) : Sem Next).run P w ≠ .ok (.enter f args) w' := by
  rw [Sem.run_bind]
  cases s.run P w <;> simp [Result.andThen]
theorem panic_enter {P : Program} {w w' : World} {f : FuncId} {args : Array Value} : (runtimePanic .nilDeref : Sem Next).run P w ≠ .ok (.enter f args) w' := by
  unfold runtimePanic
  simp [goPanic, program, Sem.run, Bind.bind, Sem.bind]
theorem noCall_enter {P : Program} {w w' : World} {ρ : Operand → Value} {o : Oper} (h : noCall o.op = true) {f : FuncId} {args : Array Value} : (execOp ρ o).run P w ≠ .ok (.enter f args) w' := by
  obtain ⟨dst, op, type, pos, after, guard⟩ := o
  cases op <;> simp only [noCall] at h <;> (try cases h) <;> simp only [execOp] <;> (try exact value_bind)
  case move => simp
  case assign => simp
  case pick =>
    first
    | exact value_bind
    | (rw [Sem.run_bind]; generalize Sem.run P _ w = r; cases r <;> simp [Result.andThen])
    | simp
  case nilCheck x =>
    split
    · exact panic_enter
    · exact panic_enter
    · exact panic_enter
    · split
      · exact panic_enter
      · rw [Sem.run_bind]
        generalize Sem.run P _ w = r
        cases r with
        | halt _ _ => simp [Result.andThen]
        | ok _ _ =>
          simp [Result.andThen]
          split
          · split <;> simp
          · simp
      · simp
    · simp
  case call c =>
    obtain ⟨callee, as, ts⟩ := c
    cases callee with
    | value f => cases h
    | invoke r m => cases h
    | builtin b =>
      cases b <;> (try cases h)
      simp only [resolve, pure_bind]
      exact value_bind

section
variable {P : Program} {ops : Array Oper} {w0 : World} {D : List Deferred} {N : Nat} {QT : Act → World → Prop}

/-- what the kernel reckons of a stretch: no operation calls or looks at an open temporary -/
def segB (ops : Array Oper) (Γ : Opn) (N : Nat) (l : List Oper) : Bool := l.all fun o => noCall o.op && free Γ (o.looksAt ops) && dstOk Γ N o.dst

theorem seg_quiet {Γ : Opn} {l2 : List Oper} : ∀ (l1 : List Oper) (a : Act), a.tmps.size = N → segB ops Γ N l1 = true →
    wpQuiet P ops (fun w' => ∃ n : GrS w0, w' = n.w) (fun a' => a'.tmps.size = N → wpG P ops w0 D N QT l2 (EG Γ a')) l1 a → wpG P ops w0 D N QT (l1 ++ l2) (EG Γ a) := by
  intro l1
  induction l1 with
  | nil => intro a hN _ h; exact h hN
  | cons o l1 ih =>
    intro a hN hB h
    simp only [segB, List.all_cons, Bool.and_eq_true] at hB
    obtain ⟨⟨⟨hc, hf⟩, hd⟩, hB'⟩ := hB
    have hsel : isSelect o.op = false := by
      cases ho : o.op <;> first | rfl | (rw [ho] at hc; simp [noCall] at hc)
    unfold wpQuiet at h
    by_cases hw : Region.wanted o (yielded ops a.tmps) = true
    · rw [if_pos hw] at h
      obtain ⟨v, hv, hK⟩ := h
      refine grow_det (v := v) hN hsel hf hw hd (fun w hG => ?_) (ih _ (by rw [put_size]; exact hN) hB' hK)
      have hq := hv w ⟨⟨w, hG⟩, rfl⟩
      unfold Oper.quietAt at hq
      unfold gAt
      have hne := @noCall_enter P w
      generalize hr : (execOp a.eval o).run P w = r at hq
      cases r with
      | halt _ _ => simp [Oper.quietUpon] at hq
      | ok n w' =>
        cases n <;> simp only [Oper.quietUpon] at hq <;> simp only [gUpon]
        case value u => obtain ⟨rfl, rfl⟩ := hq; exact ⟨Gr.refl _, rfl⟩
        case skip => obtain ⟨rfl, rfl⟩ := hq; exact ⟨Gr.refl _, rfl⟩
        case enter f args => exact absurd hr (hne hc)
    · rw [if_neg hw] at h
      exact grow_skip hN hf (by simpa using hw) hd (ih _ (by rw [put_size]; exact hN) hB' h)
/-- a stretch of n operations -/
theorem seg (n : Nat) {Γ : Opn} {l l1 l2 : List Oper} {a : Act} (h1 : l.take n = l1) (h2 : l.drop n = l2) (hN : a.tmps.size = N) (hB : segB ops Γ N l1 = true)
    (h : wpQuiet P ops (fun w' => ∃ n : GrS w0, w' = n.w) (fun a' => a'.tmps.size = N → wpG P ops w0 D N QT l2 (EG Γ a')) l1 a) : wpG P ops w0 D N QT l (EG Γ a) := by
  have : l = l1 ++ l2 := by rw [← h1, ← h2, List.take_append_drop]
  rw [this]
  exact seg_quiet l1 a hN hB h
end

/-- a new block of cells -/
def NewBlk (w0 : World) (C : Array Value) (t : TypeId) (w : World) : Prop := Gr w0 w ∧ w.heap[w0.heap.size]? = some (.cells C t (0, 0)) ∧ w.heap.size = w0.heap.size + 1
theorem newBlk_alloc (w : World) (C : Array Value) (t : TypeId) : NewBlk w C t (w.alloc (.cells C t)) := ⟨Gr.alloc _ _, heap_alloc_new _ _, by simp⟩
theorem newBlk_set (w : World) (c0 C : Array Value) (t : TypeId) : NewBlk w C t ((w.alloc (.cells c0 t)).setRow w.heap.size C) :=
  ⟨Below.trans (Gr.alloc w (.cells c0 t)) ⟨rfl, rfl, rfl, by rw [setRow_size]; exact Nat.le_refl _, fun k hk => setRow_other _ _ _ _ (by omega)⟩, setRow_heap _ _ _ _ _ _ (heap_alloc_new _ _), by rw [setRow_size]; simp⟩
/-- the world gets a name; what is known of it is kept -/
theorem wp_gen {P : Program} {c : Code} {Q : Exit → Act → World → Prop} {a : Act} {F : World → Prop} {x : World} (hx : F x) (h : ∀ w, F w → c.wp P Q a w) : c.wp P Q a x := h x hx
end
section
open Go

section
variable {P : Program} {ops : Array Oper} {w0 : World} {D : List Deferred} {N : Nat} {QT : Act → World → Prop} {Γ : Opn} {a : Act}
end
end
end Go.Proofs.YtaoggehdkddgeaaGreatDoor
