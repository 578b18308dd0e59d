/- The grow law with owners: a region that draws its order and appends in place to slices that it made itself. Blocks bear a tag, the operation that owns them; an operation may change a block that another one gave up to it. No program in sight. -/
import Derived.Test.YtaoggehdkddgeaaGreatDoorGGrowF
import Derived.Test.YtaoggehdkddgeaaGreatDoorMB
import Derived.Test.YtaoggehdkddgeaaGreatDoorGNN
namespace Go.Proofs.YtaoggehdkddgeaaGreatDoor
section
open Go Go.RowKit
namespace Gh

/-- a world whose blocks bear tags -/
structure GW where
  w : World
  tg : Nat → Nat
/-- which tags may follow one another: no chains -/
def trB (T : List (Nat × Nat)) : Bool := T.all fun p => decide (0 < p.1) && T.all fun q => p.2 != q.1
/-- only blocks whose tag was handed on have changed -/
def Gx (T : List (Nat × Nat)) (x y : GW) : Prop := y.w.os = x.w.os ∧ y.w.tape = x.w.tape ∧ y.w.output = x.w.output ∧ x.w.heap.size ≤ y.w.heap.size ∧
  ∀ k, k < x.w.heap.size → (y.tg k = x.tg k ∧ y.w.heap[k]? = x.w.heap[k]?) ∨ (x.tg k, y.tg k) ∈ T
theorem tr_spec {T : List (Nat × Nat)} (h : trB T = true) : (∀ j, (0, j) ∉ T) ∧ ∀ i j k, (i, j) ∈ T → (j, k) ∈ T → False := by
  unfold trB at h
  rw [List.all_eq_true] at h
  refine ⟨fun j hj => ?_, fun i j k h1 h2 => ?_⟩
  · have := h _ hj
    simp at this
  · have := h _ h1
    simp only [Bool.and_eq_true, List.all_eq_true] at this
    have := this.2 _ h2
    simp at this
theorem Gx.refl (T : List (Nat × Nat)) (x : GW) : Gx T x x := ⟨rfl, rfl, rfl, Nat.le_refl _, fun _ _ => .inl ⟨rfl, rfl⟩⟩
/-- what is known of the blocks that were there at the region's start -/
def Old (w0 : World) (x : GW) : Prop := Gr w0 x.w ∧ ∀ k, k < w0.heap.size → x.tg k = 0
theorem Old.step {T : List (Nat × Nat)} (hT : trB T = true) {w0 : World} {x y : GW} (h : Old w0 x) (hg : Gx T x y) : Old w0 y := by
  obtain ⟨h1, h2⟩ := h
  obtain ⟨g1, g2, g3, g4, g5⟩ := hg
  have hs : w0.heap.size ≤ x.w.heap.size := h1.size
  have hk : ∀ k, k < w0.heap.size → y.tg k = 0 ∧ y.w.heap[k]? = x.w.heap[k]? := fun k hk => by
    rcases g5 k (by omega) with ⟨a, b⟩ | a
    · exact ⟨a.trans (h2 k hk), b⟩
    · rw [h2 k hk] at a; exact absurd a ((tr_spec hT).1 _)
  exact ⟨⟨g1.trans h1.os, g2.trans h1.tape, g3.trans h1.output, Nat.le_trans hs g4, fun k hk' => (hk k hk').2.trans ((show Below w0.heap.size w0 x.w from h1).block k hk')⟩, fun k hk' => (hk k hk').1⟩
def Stb (T : List (Nat × Nat)) (V : Value → GW → Prop) : Prop := ∀ v x y, Gx T x y → V v x → V v y
theorem stb_pure (T : List (Nat × Nat)) (p : Value → Prop) : Stb T fun v _ => p v := fun _ _ _ _ h => h
/-- a step of operation k -/
def Stp (T : List (Nat × Nat)) (k : Nat) (x y : GW) : Prop := Gx T x y ∧ ∀ g, y.tg g = x.tg g ∨ y.tg g = k + 1
def xUpon (P : Program) (T : List (Nat × Nat)) (k : Nat) (x : GW) (V : Value → GW → Prop) : Result Next → Prop
  | .ok (.value u) w' => ∃ t, Stp T k x ⟨w', t⟩ ∧ V u ⟨w', t⟩
  | .ok .skip w' => ∃ t, Stp T k x ⟨w', t⟩ ∧ V undef ⟨w', t⟩
  | .ok (.enter f args) w' => Calls P f args w' (fun e w'' => ∃ v t, e = .returned v ∧ Stp T k x ⟨w'', t⟩ ∧ V v ⟨w'', t⟩)
  | _ => False
def xAt (P : Program) (T : List (Nat × Nat)) (k : Nat) (o : Oper) (a : Act) (x : GW) (V : Value → GW → Prop) : Prop := xUpon P T k x V ((execOp a.eval o).run P x.w)

abbrev Env := Tmp → Value → GW → Prop
def Env.upd (E : Env) (d : Option Tmp) (V : Value → GW → Prop) : Env := fun t => if d = some t then V else E t
def Env.ok (E : Env) (a : Act) (x : GW) : Prop := ∀ t, E t (a.tmps.getD t undef) x

def Ob (P : Program) (T : List (Nat × Nat)) (ops : Array Oper) (w0 : World) (D : List Deferred) (N k : Nat) (o : Oper) (E : Env) (V : Value → GW → Prop) : Prop :=
  ∀ a x, Old w0 x → (∀ g, x.tg g ≠ k + 1) → a.defers = D → a.tmps.size = N → (∀ t ∈ o.looksAt ops, E t (a.tmps.getD t undef) x) →
    (Region.wanted o (yielded ops a.tmps) = true ∧ xAt P T k o a x V) ∨ (Region.wanted o (yielded ops a.tmps) = false ∧ V undef x)
def Fin (w0 : World) (D : List Deferred) (N : Nat) (Q : Act → World → Prop) (E : Env) : Prop :=
  ∀ a x, Old w0 x → a.defers = D → a.tmps.size = N → E.ok a x → Q a x.w

def wpG (P : Program) (T : List (Nat × Nat)) (ops : Array Oper) (w0 : World) (D : List Deferred) (N : Nat) (Q : Act → World → Prop) : Nat → List Oper → Env → Prop
  | _, [], E => Fin w0 D N Q E
  | k, o :: rest, E => ∃ V, Stb T V ∧ Ob P T ops w0 D N k o E V ∧ wpG P T ops w0 D N Q (k + 1) rest (E.upd o.dst V)

abbrev Pairs := List (Oper × (Value → GW → Prop))
def envAll (ps : Pairs) (E : Env) : Env := ps.foldl (fun E p => E.upd p.1.dst p.2) E
def envL (L : Nat → Bool) : Pairs → Nat → Env → Env
  | [], _, E => E
  | p :: ps, k, E => envL L ps (k + 1) (if L k then E.upd p.1.dst p.2 else E)

theorem wpG_pairs {P : Program} {T : List (Nat × Nat)} {ops : Array Oper} {w0 : World} {D : List Deferred} {N : Nat} {Q : Act → World → Prop} :
    ∀ (l : List Oper) (k : Nat) (E : Env), wpG P T ops w0 D N Q k l E →
      ∃ ps : Pairs, ps.map (·.1) = l ∧ (∀ i p, ps[i]? = some p → Stb T p.2 ∧ Ob P T ops w0 D N (k + i) p.1 (envAll (ps.take i) E) p.2) ∧ Fin w0 D N Q (envAll ps E) := by
  intro l
  induction l with
  | nil => intro k E h; exact ⟨[], rfl, fun i p hp => by simp at hp, h⟩
  | cons o l ih =>
    intro k E h
    obtain ⟨V, hs, ho, hr⟩ := h
    obtain ⟨ps, hm, hob, hf⟩ := ih _ _ hr
    refine ⟨(o, V) :: ps, by simp [hm], ?_, hf⟩
    intro i p hp
    cases i with
    | zero => simp at hp; subst hp; exact ⟨hs, ho⟩
    | succ i => simp at hp; have := hob i p hp; rw [show k + (i + 1) = k + 1 + i by omega]; exact this

theorem envL_congr {L L' : Nat → Bool} {t : Tmp} : ∀ (ps : Pairs) (k : Nat) (E E' : Env), E t = E' t →
    (∀ j p, ps[j]? = some p → p.1.dst = some t → L (k + j) = L' (k + j)) → envL L ps k E t = envL L' ps k E' t := by
  intro ps
  induction ps with
  | nil => intro k E E' h _; exact h
  | cons p ps ih =>
    intro k E E' h hL
    simp only [envL]
    refine ih (k + 1) _ _ ?_ fun j q hq hd => by have := hL (j + 1) q (by simpa using hq) hd; simpa [Nat.add_assoc, Nat.add_comm 1 j] using this
    by_cases hd : p.1.dst = some t
    · have := hL 0 p rfl hd
      simp only [Nat.add_zero] at this
      rw [this]
      cases L' k <;> simp [Env.upd, hd, h]
    · cases L k <;> cases L' k <;> simp [Env.upd, hd, h]

theorem envL_last {L : Nat → Bool} {t : Tmp} : ∀ (ps : Pairs) (k i : Nat) (p : Oper × (Value → GW → Prop)) (E : Env), ps[i]? = some p → p.1.dst = some t → L (k + i) = true →
    (∀ j q, i < j → ps[j]? = some q → q.1.dst = some t → L (k + j) = false) → envL L ps k E t = p.2 := by
  intro ps
  induction ps with
  | nil => intro k i p E h; simp at h
  | cons q ps ih =>
    intro k i p E hi hd hL hno
    simp only [envL]
    cases i with
    | zero =>
      simp at hi; subst hi
      simp only [Nat.add_zero] at hL
      rw [hL]
      have : ∀ (ps : Pairs) (k : Nat) (E : Env), (∀ j r, ps[j]? = some r → r.1.dst = some t → L (k + j) = false) → envL L ps k E t = E t := by
        intro ps
        induction ps with
        | nil => intro k E _; rfl
        | cons r ps ih2 =>
          intro k E h
          simp only [envL]
          rw [ih2 (k + 1) _ fun j s hs hds => by have := h (j + 1) s (by simpa using hs) hds; simpa [Nat.add_assoc, Nat.add_comm 1 j] using this]
          by_cases hdr : r.1.dst = some t
          · have := h 0 r rfl hdr
            simp only [Nat.add_zero] at this
            simp [this]
          · cases L k <;> simp [Env.upd, hdr]
      rw [this ps (k + 1) _ fun j r hr hdr => by have := hno (j + 1) r (by omega) (by simpa using hr) hdr; simpa [Nat.add_assoc, Nat.add_comm 1 j] using this]
      simp [Env.upd, hd]
    | succ i =>
      refine ih (k + 1) i p _ (by simpa using hi) hd (by rw [← hL]; congr 1; omega) fun j r hj hr hdr => ?_
      have := hno (j + 1) r (by omega) (by simpa using hr) hdr
      simpa [Nat.add_assoc, Nat.add_comm 1 j] using this

theorem envL_lt (i : Nat) : ∀ (ps : Pairs) (k : Nat) (E : Env), k ≤ i → envL (fun j => decide (j < i)) ps k E = envAll (ps.take (i - k)) E := by
  intro ps
  induction ps with
  | nil => intro k E _; simp [envL, envAll]
  | cons p ps ih =>
    intro k E hk
    simp only [envL]
    by_cases h : k < i
    · rw [show i - k = (i - (k + 1)) + 1 by omega, List.take_succ_cons]
      simp only [h, decide_true, if_true]
      rw [ih (k + 1) _ (by omega)]
      simp [envAll]
    · have : i = k := by omega
      subst this
      simp only [Nat.lt_irrefl, decide_false, Nat.sub_self, List.take_zero]
      have key : ∀ (ps : Pairs) (k : Nat) (E : Env), i ≤ k → envL (fun j => decide (j < i)) ps k E = E := by
        intro ps
        induction ps with
        | nil => intro k E _; rfl
        | cons q ps ih2 => intro k E hk; simp only [envL]; rw [ih2 _ _ (by omega)]; simp [Nat.not_lt.2 hk]
      rw [key ps _ _ (by omega)]; rfl

theorem envL_all {L : Nat → Bool} : ∀ (ps : Pairs) (k : Nat) (E : Env), (∀ j, j < ps.length → L (k + j) = true) → envL L ps k E = envAll ps E := by
  intro ps
  induction ps with
  | nil => intro k E _; rfl
  | cons p ps ih =>
    intro k E h
    simp only [envL]
    have h0 := h 0 (by simp)
    simp only [Nat.add_zero] at h0
    rw [h0, ih (k + 1) _ fun j hj => by have := h (j + 1) (by simpa using hj); simpa [Nat.add_assoc, Nat.add_comm 1 j] using this]
    rfl

section
variable {P : Program} {ops : Array Oper} {Q : Exit → Act → World → Prop}

theorem grow_any {T : List (Nat × Nat)} (hTr : trB T = true) {w0 : World} {D : List Deferred} {N n : Nat} {ps : Pairs} {E0 : Env} {QT : Act → World → Prop} (hB : gB ops n N = true) (hlen : ps.length = n) (hps : ∀ (i : Nat) (p : Oper × (Value → GW → Prop)), ps[i]? = some p → ops[i]? = some p.1)
    (hE0 : ∀ t, Stb T (E0 t)) (hob : ∀ (i : Nat) (p : Oper × (Value → GW → Prop)), ps[i]? = some p → Stb T p.2 ∧ Ob P T ops w0 D N i p.1 (envAll (ps.take i) E0) p.2) (hfin : Fin w0 D N QT (envAll ps E0))
    (hQT : ∀ a w, QT a w → wpOps P ops Q (List.range' n (ops.size - n)) a w) :
    ∀ (fuel : Nat) (listed : Array Bool) (a : Act) (w : GW), listed.size = ops.size → listed.toList.count false = fuel → Old w0 w → (∀ g j, w.tg g = j + 1 → listed[j]? = some true) → a.defers = D → a.tmps.size = N →
      (∀ (j : Nat) (o : Oper) (e : Edge), listed[j]? = some true → ops[j]? = some o → e ∈ o.after → Region.binds .any e = true → listed[e.on]? = some true) →
      (∀ k : Nat, n ≤ k → k < ops.size → listed[k]? = some false) →
      (envL (fun j => listed[j]? == some true) ps 0 E0).ok a w → wpAny P .any ops Q fuel listed a w.w := by
  simp only [gB, Bool.and_eq_true, decide_eq_true_eq, List.all_eq_true, List.mem_range] at hB
  obtain ⟨⟨⟨hn, hB1⟩, hB2⟩, hB3⟩ := hB
  have hE : ∀ (k : Nat) (o : Oper) (e : Edge), ops[k]? = some o → e ∈ o.after → Region.binds .any e = true → e.on < k := by
    intro k o e ho he hb
    have := hB1 k (Array.getElem?_eq_some_iff.1 ho).1
    rw [ho] at this
    simp only [Bool.and_eq_true] at this
    have h2 := Array.all_eq_true_iff_forall_mem.1 this.1 e he
    simpa [hb] using h2
  have hD : ∀ (k : Nat) (o : Oper) (d : Tmp), ops[k]? = some o → o.dst = some d → d < N := by
    intro k o d ho hd
    have := hB1 k (Array.getElem?_eq_some_iff.1 ho).1
    rw [ho] at this
    simp only [Bool.and_eq_true] at this
    simpa [hd] using this.2
  have hT : ∀ k i, n ≤ k → k < ops.size → i < k → waitsN ops 7 k i = true := by
    intro k i hk hko hi
    have := hB3 k hko
    simp only [Bool.or_eq_true, decide_eq_true_eq, List.all_eq_true, List.mem_range] at this
    rcases this with h | h
    · omega
    · exact h i hi
  have hA : ∀ (i j : Nat) (oi oj : Oper), i < j → j < n → ops[i]? = some oi → ops[j]? = some oj → waits ops j i = true ∨ oi.apart ops oj = true := by
    intro i j oi oj hij hj hi hjo
    have := hB2 j hj i hij
    rw [hi, hjo] at this
    simpa using this
  intro fuel
  induction fuel with
  | zero =>
    intro listed a w hs hc hG htg hDf hN hcl htl hen
    by_cases h0 : ops.size - n = 0
    · have hall := count_all listed.toList n 0 (by simp [hs]; omega) (fun k h1 h2 => by omega) hc
      refine tail_any n hT hE 0 ops.size listed a w.w (by omega) hn hs (fun j hj => by have := hall j (by omega); simpa [hj] using this) ?_
      have := hQT a w.w (hfin a w hG hDf hN (by rw [envL_all ps 0 E0 (fun j hj => by have := hall j (by omega); simpa using this)] at hen; exact hen))
      rw [h0] at this; simpa [wpOps] using this
    · exfalso
      have h1 := htl n (Nat.le_refl _) (by omega)
      have := List.count_eq_zero.1 hc
      exact this (List.mem_of_getElem? (i := n) (by simpa using h1))
  | succ fuel ih =>
    intro listed a w hs hc hG htg hDf hN hcl htl hen
    by_cases hf : fuel + 1 = ops.size - n
    · have hall := count_all listed.toList n (ops.size - n) (by simp [hs]; omega) (fun k h1 h2 => by simpa using htl k h1 (by omega)) (by rw [hc, hf])
      refine tail_any n hT hE (fuel + 1) n listed a w.w (by omega) (Nat.le_refl _) hs (fun j hj => ?_) ?_
      · by_cases hjn : j < n
        · have := hall j hjn; simpa [hjn] using this
        · rw [htl j (by omega) hj]; simp [hjn]
      · rw [hf]
        exact hQT a w.w (hfin a w hG hDf hN (by rw [envL_all ps 0 E0 (fun j hj => by have := hall j (by omega); simpa using this)] at hen; exact hen))
    · -- some of the first n is still to come
      have hgetD : ∀ j d, j < ops.size → listed.getD j d = true → listed[j]? = some true := by
        intro j d hj h
        have : j < listed.size := by omega
        simp [Array.getD_eq_getD_getElem?, this] at h ⊢; exact h
      have hex : ∃ k, k < n ∧ listed[k]? = some false := by
        refine Classical.byContradiction fun hno => hf ?_
        have h1 : ∀ j, j < n → listed[j]? = some true := by
          intro j hj
          cases hb : listed[j]? with
          | none => rw [Array.getElem?_eq_none_iff] at hb; omega
          | some b => cases b with
            | true => rfl
            | false => exact absurd ⟨j, hj, hb⟩ hno
        have h2 : listed.toList = List.replicate n true ++ List.replicate (ops.size - n) false := by
          apply List.ext_getElem?
          intro i
          by_cases hi : i < n
          · rw [List.getElem?_append_left (by simpa using hi), List.getElem?_replicate, if_pos hi]; simpa using h1 i hi
          · rw [List.getElem?_append_right (by simpa using hi), List.getElem?_replicate]
            by_cases hi2 : i < ops.size
            · rw [if_pos (by simp; omega)]; simpa using htl i (by omega) hi2
            · rw [if_neg (by simp; omega), List.getElem?_eq_none (by simp [hs]; omega)]
        rw [h2, List.count_append, List.count_replicate_self] at hc
        have : (List.replicate n true).count false = 0 := by rw [List.count_replicate]; simp
        omega
      have hleast : ∃ k, k < n ∧ listed[k]? = some false ∧ ∀ j, j < k → listed[j]? = some true := by
        obtain ⟨k, hk, hkf⟩ := hex
        induction k using Nat.strongRecOn with
        | _ k ihk =>
          by_cases h : ∃ j, j < k ∧ listed[j]? = some false
          · obtain ⟨j, hj, hjf⟩ := h; exact ihk j hj (by omega) hjf
          · refine ⟨k, hk, hkf, fun j hj => ?_⟩
            cases hb : listed[j]? with
            | none => rw [Array.getElem?_eq_none_iff] at hb; omega
            | some b => cases b with
              | true => rfl
              | false => exact absurd ⟨j, hj, hb⟩ h
      refine ⟨fun h0 => ?_, fun i hi => ?_⟩
      · exfalso
        obtain ⟨k, hk, hkf, hkl⟩ := hleast
        have : k ∈ Region.ready .any ops listed := mem_ready.2 ⟨by simp [Array.getD_eq_getD_getElem?, hkf], ops[k]'(by omega), by simp [show k < ops.size by omega], fun e he hb => by
          have := hE k _ e (Array.getElem?_eq_getElem (by omega)) he hb
          simp [Array.getD_eq_getD_getElem?, hkl e.on this]⟩
        rw [h0] at this; cases this
      · obtain ⟨hi0, o, ho, hall⟩ := mem_ready.1 hi
        have hio : i < ops.size := (Array.getElem?_eq_some_iff.1 ho).1
        have hif : listed[i]? = some false := by
          have : i < listed.size := by omega
          simp [Array.getD_eq_getD_getElem?, this] at hi0 ⊢; exact hi0
        have hdep : ∀ e ∈ o.after, Region.binds .any e = true → listed[e.on]? = some true := fun e he hb => hgetD e.on false (by have := hE i o e ho he hb; omega) (hall e he hb)
        have hin : i < n := by
          refine Classical.byContradiction fun hni => ?_
          obtain ⟨k, hk, hkf, _⟩ := hleast
          have := reach_listed (ops := ops) (L := fun j => listed[j]? = some true) hcl 7 i k (hT i k (by omega) hio (by omega)) (fun o' e ho' he hb => by
            rw [ho] at ho'; obtain rfl := Option.some.inj ho'
            exact hdep e he hb)
          rw [hkf] at this; simp at this
        obtain ⟨p, hp⟩ : ∃ p, ps[i]? = some p := ⟨ps[i]'(by omega), List.getElem?_eq_getElem (by omega)⟩
        have hpo : p.1 = o := by have := hps i p hp; rw [ho] at this; exact (Option.some.inj this).symm
        obtain ⟨hstb, hobi⟩ := hob i p hp
        rw [hpo] at hobi
        -- what touches i's temporaries
        have hlater : ∀ j q, i < j → ps[j]? = some q → (o.apart ops q.1 = false) → listed[j]? = some false := by
          intro j q hij hq hap
          have hjn : j < n := by rw [← hlen]; exact (List.getElem?_eq_some_iff.1 hq).1
          have hjo := hps j q hq
          rcases hA i j o q.1 hij hjn ho hjo with hw | hw
          · obtain ⟨o', e, ho', he, hb, hon⟩ := waits_spec hw
            cases hb2 : listed[j]? with
            | none => rw [Array.getElem?_eq_none_iff] at hb2; omega
            | some b => cases b with
              | false => rfl
              | true => have := hcl j o' e hb2 ho' he hb; rw [hon, hif] at this; simp at this
          · rw [hw] at hap; cases hap
        have hlook : ∀ t ∈ o.looksAt ops, (envAll (ps.take i) E0) t (a.tmps.getD t undef) w := by
          intro t ht
          have h1 := hen t
          have h2 : envL (fun j => listed[j]? == some true) ps 0 E0 t = envL (fun j => decide (j < i)) ps 0 E0 t := by
            refine envL_congr ps 0 E0 E0 rfl fun j q hq hd => ?_
            simp only [Nat.zero_add]
            have hjn : j < n := by rw [← hlen]; exact (List.getElem?_eq_some_iff.1 hq).1
            have hjo := hps j q hq
            by_cases hij : j < i
            · rcases hA j i q.1 o hij hin hjo ho with hw | hw
              · obtain ⟨o', e, ho', he, hb, hon⟩ := waits_spec hw
                rw [ho] at ho'; obtain rfl := Option.some.inj ho'
                have := hdep e he hb
                rw [hon] at this; simp [this, hij]
              · exact absurd ht ((Oper.apart_spec hw).1 t hd)
            · by_cases hji : j = i
              · subst hji; simp [hif]
              · have hap : o.apart ops q.1 = false := by
                  cases hap : o.apart ops q.1 with
                  | false => rfl
                  | true => exact absurd ht ((Oper.apart_spec hap).2.2 t hd)
                have := hlater j q (by omega) hq hap
                simp [this, hij]
          rw [h2, envL_lt i ps 0 E0 (by omega)] at h1
          simpa using h1
        have hset : ∀ j, (listed.setIfInBounds i true)[j]? = if j = i then some true else listed[j]? := by
          intro j
          rw [Array.getElem?_setIfInBounds]
          by_cases hij : i = j
          · subst hij; simp [hs, hio]
          · rw [if_neg hij, if_neg (fun h => hij h.symm)]
        have next : ∀ (u : Value) (w' : GW), Stp T i w w' → p.2 u w' → wpAny P .any ops Q fuel (listed.setIfInBounds i true) (a.put o.dst u) w'.w := by
          intro u w' ⟨hg, hgt⟩ hu
          refine ih _ _ w' (by simp [hs]) ?_ (hG.step hTr hg) (fun g j hj => ?_) (by rw [put_defers]; exact hDf) (by rw [put_size]; exact hN) ?_ ?_ ?_
          · have := count_set listed.toList i (by simpa using hif)
            rw [Array.toList_setIfInBounds]; omega
          · rw [hset]
            by_cases hji : j = i
            · rw [if_pos hji]
            · rw [if_neg hji]
              rcases hgt g with e | e
              · exact htg g j (e.symm.trans hj)
              · omega
          · intro j oj e hj hoj he hb
            rw [hset] at hj ⊢
            by_cases hji : j = i
            · subst hji
              rw [ho] at hoj; obtain rfl := Option.some.inj hoj
              have := hdep e he hb
              split
              · rfl
              · exact this
            · rw [if_neg hji] at hj
              split
              · rfl
              · exact hcl j oj e hj hoj he hb
          · intro k hk hko
            rw [hset, if_neg (by omega)]; exact htl k hk hko
          · intro t
            rw [put_tmps a o.dst u t (fun d hd => by rw [hN]; exact hD i o d ho hd)]
            by_cases hd : o.dst = some t
            · rw [if_pos hd, envL_last ps 0 i p E0 hp (by rw [hpo]; exact hd) (by simp [hset]) (fun j q hij hq hdq => ?_)]
              · exact hu
              · have hap : o.apart ops q.1 = false := by
                  cases hap : o.apart ops q.1 with
                  | false => rfl
                  | true => exact absurd hdq ((Oper.apart_spec hap).2.1 t hd)
                have := hlater j q hij hq hap
                simp [hset, show j ≠ i by omega, this]
            · rw [if_neg hd]
              have h1 : envL (fun j => (listed.setIfInBounds i true)[j]? == some true) ps 0 E0 t = envL (fun j => listed[j]? == some true) ps 0 E0 t := by
                refine envL_congr ps 0 E0 E0 rfl fun j q hq hdq => ?_
                simp only [Nat.zero_add, hset]
                by_cases hji : j = i
                · subst hji
                  rw [hp] at hq; obtain rfl := Option.some.inj hq
                  rw [hpo] at hdq; exact absurd hdq hd
                · rw [if_neg hji]
              rw [h1]
              have hst : ∀ (L : Nat → Bool) (qs : Pairs) (k : Nat) (E : Env), (∀ t, Stb T (E t)) → (∀ q ∈ qs, Stb T q.2) → ∀ t, Stb T (envL L qs k E t) := by
                intro L qs
                induction qs with
                | nil => intro k E h _ t; exact h t
                | cons q qs ihq =>
                  intro k E h hq t
                  simp only [envL]
                  refine ihq (k + 1) _ (fun t' => ?_) (fun q' hq' => hq q' (by simp [hq'])) t
                  split
                  · simp only [Env.upd]; split
                    · exact hq q (by simp)
                    · exact h t'
                  · exact h t'
              refine hst _ ps 0 E0 hE0 (fun q hq => ?_) t _ _ _ hg (hen t)
              obtain ⟨j, hj⟩ := List.getElem?_of_mem hq
              exact (hob j q hj).1
        unfold wpOp
        rw [ho]
        have hno : ∀ g, w.tg g ≠ i + 1 := fun g e => by
          have := htg g i e
          rw [hif] at this; simp at this
        rcases hobi a w hG hno hDf hN hlook with ⟨hw, hg⟩ | ⟨hw, hg⟩
        · simp only [hw, if_true]
          refine .inl ?_
          unfold xAt at hg
          unfold Oper.wp
          generalize (execOp a.eval o).run P w.w = r at hg ⊢
          cases r with
          | halt x w' => simp only [xUpon] at hg
          | ok nx w' =>
            cases nx <;> simp only [xUpon] at hg <;> simp only [Oper.upon]
            case value u => obtain ⟨t, h1, h2⟩ := hg; exact next u ⟨w', t⟩ h1 h2
            case skip => obtain ⟨t, h1, h2⟩ := hg; exact next undef ⟨w', t⟩ h1 h2
            case enter f args => exact hg.mono fun e w'' ⟨v, t, he, hg2, hv⟩ => by subst he; exact next v ⟨w'', t⟩ hg2 hv
        · simp only [hw]
          exact next undef w ⟨Gx.refl T w, fun _ => .inl rfl⟩ hg

/-- a region that draws its order: the first operations by one walk in the order of the text, the tail behind them -/
theorem wp_region_grow {T : List (Nat × Nat)} (hTr : trB T = true) {id n N : Nat} {l : List Oper} {a : Act} {w : World} (hm : P.follows .mixedOrders = true) (hsz : a.tmps.size = N) (hB : gB l.toArray n N = true)
    (h : wpG P T l.toArray w.drew a.defers N (wpList P l.toArray Q (l.drop n)) 0 (l.take n) (fun t u _ => u = a.tmps.getD t undef)) : (Code.region id l.toArray true).wp P Q a w := by
  obtain ⟨ps, hpm, hob, hfin⟩ := wpG_pairs _ _ _ h
  simp only [Nat.zero_add] at hob
  have hn : n ≤ l.length := by
    simp only [gB, Bool.and_eq_true, decide_eq_true_eq] at hB
    simpa using hB.1.1.1
  have hlen : ps.length = n := by
    have := congrArg List.length hpm
    simp at this; omega
  refine wp_region_any hm (grow_any hTr (n := n) (N := N) (w0 := w.drew) (D := a.defers) (QT := wpList P l.toArray Q (l.drop n)) hB hlen (fun i p hp => ?_) (fun t => stb_pure T _) hob hfin (fun a' w' h' => ?_) _ _ _ ⟨w.drew, fun _ => 0⟩ (by simp) (by simp) ⟨Gr.refl _, fun _ _ => rfl⟩ (fun g j e => by cases e) rfl hsz ?_ ?_ ?_)
  · have h1 : (ps.map (·.1))[i]? = some p.1 := by simp [hp]
    rw [hpm, List.getElem?_take] at h1
    split at h1
    · simpa using h1
    · simp at h1
  · rw [show l.toArray.size - n = (l.drop n).length by simp, wpOps_eq_wpList (l.drop n) n (fun j => by simp)]
    exact h'
  · intro j o e hj; simp [Array.getElem?_replicate] at hj
  · intro k _ hk; simp [Array.getElem?_replicate]; simpa using hk
  · intro t
    have : ∀ (qs : Pairs) (k : Nat) (E : Env), envL (fun j => (Array.replicate l.toArray.size false)[j]? == some true) qs k E = E := by
      intro qs
      induction qs with
      | nil => intro k E; rfl
      | cons q qs ihq =>
        intro k E
        simp only [envL]
        rw [ihq]
        have : ((Array.replicate l.toArray.size false)[k]? == some true) = false := by simp [Array.getElem?_replicate]
        rw [if_neg (by rw [this]; simp)]
    rw [this]

abbrev Opn := List (Tmp × (Value → GW → Prop))
def EG (Γ : Opn) (a : Act) : Env := fun t u x => match Γ.lookup t with
  | some V => V u x
  | none => u = a.tmps.getD t undef
def free (Γ : Opn) (ts : List Tmp) : Bool := ts.all fun t => (Γ.lookup t).isNone
theorem free_none {Γ : Opn} {ts : List Tmp} (h : free Γ ts = true) {t : Tmp} (ht : t ∈ ts) : Γ.lookup t = none := by
  have := List.all_eq_true.1 h t ht
  simpa using this
theorem EG_put {Γ : Opn} {a : Act} {d : Option Tmp} {v : Value} (hd : ∀ t, d = some t → Γ.lookup t = none ∧ t < a.tmps.size) : (EG Γ a).upd d (fun u _ => u = v) = EG Γ (a.put d v) := by
  funext t u w
  simp only [Env.upd]
  by_cases h : d = some t
  · obtain ⟨h1, h2⟩ := hd t h
    simp only [h, if_true, EG, h1]
    rw [put_tmps a (some t) v t (fun d' e => by cases e; exact h2), if_pos rfl]
  · simp only [if_neg h, EG]
    cases d with
    | none => rfl
    | some d =>
      have hne : d ≠ t := fun e => h (by rw [e])
      cases Γ.lookup t with
      | some V => rfl
      | none => simp [Act.put, Array.getElem?_setIfInBounds_ne hne]
def dstOk (Γ : Opn) (N : Nat) (d : Option Tmp) : Bool := match d with
  | some t => (Γ.lookup t).isNone && decide (t < N)
  | none => true
theorem dstOk_spec {Γ : Opn} {N : Nat} {d : Option Tmp} {a : Act} (hN : a.tmps.size = N) (h : dstOk Γ N d = true) : ∀ t, d = some t → Γ.lookup t = none ∧ t < a.tmps.size := by
  intro t hd; subst hd
  simp only [dstOk, Bool.and_eq_true, Option.isNone_iff_eq_none, decide_eq_true_eq] at h
  exact ⟨h.1, by rw [hN]; exact h.2⟩

/-- the tags behind a step that only grows -/
def nt (x : GW) (k : Nat) : Nat → Nat := fun g => if g < x.w.heap.size then x.tg g else k + 1
theorem stp_gr (T : List (Nat × Nat)) (k : Nat) {x : GW} {w' : World} (h : Gr x.w w') : Stp T k x ⟨w', nt x k⟩ := by
  refine ⟨⟨h.os, h.tape, h.output, h.size, fun g hg => .inl ⟨if_pos hg, (show Below x.w.heap.size x.w w' from h).block g hg⟩⟩, fun g => ?_⟩
  by_cases h : g < x.w.heap.size
  · exact .inl (if_pos h)
  · exact .inr (if_neg h)
theorem xAt_of {T : List (Nat × Nat)} {k : Nat} {o : Oper} {a : Act} {x : GW} {V0 : Value → World → Prop} {V : Value → GW → Prop} (h : gAt P o a x.w V0) (hV : ∀ u w', Gr x.w w' → V0 u w' → V u ⟨w', nt x k⟩) : xAt P T k o a x V := by
  unfold gAt at h
  unfold xAt
  generalize (execOp a.eval o).run P x.w = r at h ⊢
  cases r with
  | halt f w' => simp only [gUpon] at h
  | ok n w' =>
    cases n <;> simp only [gUpon] at h <;> simp only [xUpon]
    case value u => exact ⟨_, stp_gr T k h.1, hV u w' h.1 h.2⟩
    case skip => exact ⟨_, stp_gr T k h.1, hV undef w' h.1 h.2⟩
    case enter f args => exact h.2.mono fun e w'' ⟨v, he, hg2, hv⟩ => ⟨v, _, he, stp_gr T k (h.1.trans hg2), hV v w'' (h.1.trans hg2) hv⟩
/-- what is known of a value whose block bears the tag i, as long as it does -/
def OwT (T : List (Nat × Nat)) (i : Nat) (V : Value → World → Prop) : Value → GW → Prop := fun v x => ∃ g, v.ownBlock = some g ∧ g < x.w.heap.size ∧ ((x.tg g = i ∧ V v x.w) ∨ (i, x.tg g) ∈ T)
/-- what depends on the value's own block alone -/
def SB (V : Value → World → Prop) : Prop := ∀ v w w', (∀ g, v.ownBlock = some g → w'.heap[g]? = w.heap[g]?) → V v w → V v w'
theorem stb_owt {T : List (Nat × Nat)} (hT : trB T = true) {i : Nat} {V : Value → World → Prop} (hV : SB V) : Stb T (OwT T i V) := by
  intro v x y hg ⟨g, h1, h2, h3⟩
  refine ⟨g, h1, Nat.lt_of_lt_of_le h2 hg.2.2.2.1, ?_⟩
  rcases hg.2.2.2.2 g h2 with ⟨a, b⟩ | a
  · rcases h3 with ⟨c, d⟩ | c
    · exact .inl ⟨a.trans c, hV v _ _ (fun g' e => by rw [h1] at e; cases e; exact b) d⟩
    · exact .inr (by rw [a]; exact c)
  · rcases h3 with ⟨c, d⟩ | c
    · exact .inr (by rw [c] at a; exact a)
    · exact absurd a (fun a => (tr_spec hT).2 _ _ _ c a)
/-- the value's block is a new one -/
def Fresh (w : World) (u : Value) (w' : World) : Prop := ∃ g, u.ownBlock = some g ∧ w.heap.size ≤ g ∧ g < w'.heap.size

variable {T : List (Nat × Nat)} {k : Nat} {w0 : World} {D : List Deferred} {N : Nat} {QT : Act → World → Prop} {Γ : Opn} {a : Act} {o : Oper} {rest : List Oper}

theorem grow_det (hN : a.tmps.size = N) (hs : isSelect o.op = false) (hf : free Γ (o.looksAt ops) = true) (hw : Region.wanted o (yielded ops a.tmps) = true) (hd : dstOk Γ N o.dst = true)
    {v : Value} (hob : ∀ w, Gr w0 w → gAt P o a w (fun u _ => u = v)) (h : wpG P T ops w0 D N QT (k + 1) rest (EG Γ (a.put o.dst v))) : wpG P T ops w0 D N QT k (o :: rest) (EG Γ a) := by
  refine ⟨fun u _ => u = v, stb_pure T _, ?_, by rw [EG_put (dstOk_spec hN hd)]; exact h⟩
  intro a' x hG _ _ _ hl
  have hsame : ∀ t ∈ o.looksAt ops, a'.tmps.getD t undef = a.tmps.getD t undef := fun t ht => by
    have := hl t ht; simpa only [EG, free_none hf ht] using this
  exact .inl ⟨by rw [wanted_same hsame]; exact hw, xAt_of (gAt_same hs hsame (hob x.w hG.1)) (fun u w' _ e => e)⟩
theorem grow_skip (hN : a.tmps.size = N) (hf : free Γ (o.looksAt ops) = true) (hw : Region.wanted o (yielded ops a.tmps) = false) (hd : dstOk Γ N o.dst = true)
    (h : wpG P T ops w0 D N QT (k + 1) rest (EG Γ (a.put o.dst undef))) : wpG P T ops w0 D N QT k (o :: rest) (EG Γ a) := by
  refine ⟨fun u _ => u = undef, stb_pure T _, ?_, by rw [EG_put (dstOk_spec hN hd)]; exact h⟩
  intro a' x hG _ _ _ hl
  have hsame : ∀ t ∈ o.looksAt ops, a'.tmps.getD t undef = a.tmps.getD t undef := fun t ht => by
    have := hl t ht; simpa only [EG, free_none hf ht] using this
  exact .inr ⟨by rw [wanted_same hsame]; exact hw, rfl⟩
theorem EG_open {d : Tmp} {V : Value → GW → Prop} : (EG Γ a).upd (some d) V = EG ((d, V) :: Γ) a := by
  funext t u w
  by_cases h : d = t
  · subst h; simp [Env.upd, EG]
  · have h2 : (t == d) = false := by simpa using fun e => h e.symm
    have h3 : ¬ (some d = some t) := by simpa using h
    have e1 : (EG Γ a).upd (some d) V t = EG Γ a t := if_neg h3
    have e2 : ((d, V) :: Γ).lookup t = Γ.lookup t := by rw [List.lookup_cons, h2]
    rw [e1]
    unfold EG
    rw [e2]
theorem owt_new {V : Value → World → Prop} {x : GW} {u : Value} {w' : World} (hV : V u w') (hf : Fresh x.w u w') : OwT T (k + 1) V u ⟨w', nt x k⟩ := by
  obtain ⟨g, h1, h2, h3⟩ := hf
  refine ⟨g, h1, h3, .inl ⟨?_, hV⟩⟩
  show nt x k g = _
  unfold nt
  rw [if_neg (by omega)]
/-- a value in a new block -/
theorem grow_open (V : Value → World → Prop) (hT : trB T = true) (hV : SB V) {d : Tmp} (ho : o.dst = some d) (hs : isSelect o.op = false) (hf : free Γ (o.looksAt ops) = true) (hw : Region.wanted o (yielded ops a.tmps) = true)
    (hob : ∀ w, Gr w0 w → gAt P o a w (fun u w' => V u w' ∧ Fresh w u w')) (h : wpG P T ops w0 D N QT (k + 1) rest (EG ((d, OwT T (k + 1) V) :: Γ) a)) : wpG P T ops w0 D N QT k (o :: rest) (EG Γ a) := by
  refine ⟨OwT T (k + 1) V, stb_owt hT hV, ?_, by rw [ho, EG_open]; exact h⟩
  intro a' x hG _ _ _ hl
  have hsame : ∀ t ∈ o.looksAt ops, a'.tmps.getD t undef = a.tmps.getD t undef := fun t ht => by
    have := hl t ht; simpa only [EG, free_none hf ht] using this
  exact .inl ⟨by rw [wanted_same hsame]; exact hw, xAt_of (gAt_same hs hsame (hob x.w hG.1)) (fun u w' _ e => owt_new e.1 e.2)⟩

theorem same_one {t1 : Tmp} (hN : t1 < a.tmps.size) (hf : free Γ ((o.looksAt ops).filter (· != t1)) = true) {a' : Act} {w : GW}
    (hl : ∀ t ∈ o.looksAt ops, EG Γ a t (a'.tmps.getD t undef) w) : ∀ t ∈ o.looksAt ops, a'.tmps.getD t undef = (a.put (some t1) (a'.tmps.getD t1 undef)).tmps.getD t undef := by
  intro t ht
  rw [put_tmps _ _ _ _ (fun d e => by cases e; exact hN)]
  by_cases h : t1 = t
  · subst h; simp
  · have hlk := free_none hf (t := t) (List.mem_filter.2 ⟨ht, by simpa using fun e => h e.symm⟩)
    have := hl t ht
    simp only [EG, hlk] at this
    rw [if_neg (by simpa using h)]; exact this
theorem grow_end0 (hD : a.defers = D) (hN : a.tmps.size = N) (h : ∀ w, Gr w0 w → QT a w) : wpG P T ops w0 D N QT k [] (EG [] a) := by
  intro a' w hG hDf hsz hok
  have : a' = a := act_ext (hDf.trans hD.symm) (hsz.trans hN.symm) fun t => hok t
  rw [this]; exact h w.w hG.1
/-- the region's law in the walk's own form -/
theorem region_grow {Q : Exit → Act → World → Prop} {w : World} (T : List (Nat × Nat)) (n N : Nat) {id : Nat} {l l1 l2 : List Oper} (hT : trB T = true) (hm : P.follows .mixedOrders = true) (hsz : a.tmps.size = N) (hB : gB l.toArray n N = true) (h1 : l.take n = l1) (h2 : l.drop n = l2)
    (h : wpG P T l.toArray w.drew a.defers N (wpList P l.toArray Q l2) 0 l1 (EG [] a)) : (Code.region id l.toArray true).wp P Q a w :=
  wp_region_grow hT (n := n) hm hsz hB (by rw [h1, h2]; exact h)
/-- what the kernel reckons of a stretch -/
def segB (ops : Array Oper) (Γ : Opn) (N : Nat) (l : List Oper) : Bool := l.all fun o => noCall o.op && free Γ (o.looksAt ops) && dstOk Γ N o.dst
theorem seg_quiet {l2 : List Oper} : ∀ (l1 : List Oper) (k : Nat) (a : Act), a.tmps.size = N → segB ops Γ N l1 = true →
    wpQuiet P ops (fun w' => ∃ n : GrS w0, w' = n.w) (fun a' => a'.tmps.size = N → wpG P T ops w0 D N QT (k + l1.length) l2 (EG Γ a')) l1 a → wpG P T ops w0 D N QT k (l1 ++ l2) (EG Γ a) := by
  intro l1
  induction l1 with
  | nil => intro k a hN _ h; exact h hN
  | cons o l1 ih =>
    intro k a hN hB h
    simp only [segB, List.all_cons, Bool.and_eq_true] at hB
    obtain ⟨⟨⟨hc, hf⟩, hd⟩, hB'⟩ := hB
    have hsel : isSelect o.op = false := by
      cases ho : o.op <;> first | rfl | (rw [ho] at hc; simp [noCall] at hc)
    have e : ∀ Q' : Act → Nat → Prop, (fun a' => a'.tmps.size = N → Q' a' (k + (o :: l1).length)) = (fun a' => a'.tmps.size = N → Q' a' (k + 1 + l1.length)) := fun Q' => by
      rw [List.length_cons, show k + (l1.length + 1) = k + 1 + l1.length by omega]
    rw [e (fun a' n => wpG P T ops w0 D N QT n l2 (EG Γ a'))] at h
    unfold wpQuiet at h
    by_cases hw : Region.wanted o (yielded ops a.tmps) = true
    · rw [if_pos hw] at h
      obtain ⟨v, hv, hK⟩ := h
      refine grow_det (v := v) hN hsel hf hw hd (fun w hG => ?_) (ih _ _ (by rw [put_size]; exact hN) hB' hK)
      have hq := hv w ⟨⟨w, hG⟩, rfl⟩
      unfold Oper.quietAt at hq
      unfold gAt
      have hne := @noCall_enter P w
      generalize hr : (execOp a.eval o).run P w = r at hq
      cases r with
      | halt _ _ => simp [Oper.quietUpon] at hq
      | ok n w' =>
        cases n <;> simp only [Oper.quietUpon] at hq <;> simp only [gUpon]
        case value u => obtain ⟨rfl, rfl⟩ := hq; exact ⟨Gr.refl _, rfl⟩
        case skip => obtain ⟨rfl, rfl⟩ := hq; exact ⟨Gr.refl _, rfl⟩
        case enter f args => exact absurd hr (hne hc)
    · rw [if_neg hw] at h
      exact grow_skip hN hf (by simpa using hw) hd (ih _ _ (by rw [put_size]; exact hN) hB' h)
/-- a stretch of n operations -/
theorem seg (n : Nat) {l l1 l2 : List Oper} (h1 : l.take n = l1) (h2 : l.drop n = l2) (hN : a.tmps.size = N) (hB : segB ops Γ N l1 = true)
    (h : wpQuiet P ops (fun w' => ∃ n : GrS w0, w' = n.w) (fun a' => a'.tmps.size = N → wpG P T ops w0 D N QT (k + l1.length) l2 (EG Γ a')) l1 a) : wpG P T ops w0 D N QT k l (EG Γ a) := by
  have : l = l1 ++ l2 := by rw [← h1, ← h2, List.take_append_drop]
  rw [this]
  exact seg_quiet l1 k a hN hB h
end
end Gh
end
section
open Go Go.RowKit Go.Shelf

/-- a new slice of one string -/
theorem new_at {B : Nat} (w : World) (x : ByteArray) (hB : B ≤ w.heap.size) : OwnL B [x] (.slice (some ⟨w.heap.size, 0, none⟩) 1 1) (w.alloc (.cells #[.string x] 9)) ∧ Gh.Fresh w (.slice (some ⟨w.heap.size, 0, none⟩) 1 1) (w.alloc (.cells #[.string x] 9)) :=
  ⟨(strs_new w [x] (by rw [List.length_singleton]; unfold maxLen; omega)).mono hB, _, rfl, Nat.le_refl _, by simp⟩
/-- an empty slice that is not nil -/
def E0 (B : Nat) (v : Value) : Prop := ∃ b, v = .slice (some ⟨b, 0, none⟩) 0 0 ∧ B ≤ b
end
end Go.Proofs.YtaoggehdkddgeaaGreatDoor
