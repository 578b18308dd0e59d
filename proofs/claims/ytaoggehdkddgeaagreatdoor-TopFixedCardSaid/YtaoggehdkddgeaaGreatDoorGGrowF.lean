/- The grow law for regions in which an operation waits for others through long chains. No program in sight. -/
import Derived.Test.YtaoggehdkddgeaaGreatDoorMB
import Derived.Deep.RegionHeld3
import Derived.Test.YtaoggehdkddgeaaGreatDoorOwn
section
namespace Go.Proofs.YtaoggehdkddgeaaGreatDoor
open Go Go.RowKit

/-- what the kernel reckons of a region: each operation waits for earlier ones alone; two of the first n that touch a temporary of each other are ordered; each behind them waits for all before it; the temporaries lie in the frame -/
def gB16 (ops : Array Oper) (n N : Nat) : Bool :=
  decide (n ≤ ops.size) &&
  ((List.range ops.size).all fun k => match ops[k]? with
    | some o => (o.after.all fun e => !Region.binds .any e || decide (e.on < k)) && (match o.dst with | some d => decide (d < N) | none => true)
    | none => false) &&
  ((List.range n).all fun j => (List.range j).all fun i => waits ops j i || match ops[i]?, ops[j]? with | some oi, some oj => oi.apart ops oj | _, _ => false) &&
  ((List.range ops.size).all fun k => decide (k < n) || (List.range k).all fun i => waitsN ops 16 k i)

section
variable {P : Program} {ops : Array Oper} {Q : Exit → Act → World → Prop}
theorem tail_any16 (n : Nat) (hT : ∀ k i, n ≤ k → k < ops.size → i < k → waitsN ops 16 k i = true) (hE : ∀ k o e, ops[k]? = some o → e ∈ o.after → Region.binds .any e = true → e.on < k) :
    ∀ (f m : Nat) (listed : Array Bool) (a : Act) (w : World), m + f = ops.size → n ≤ m → listed.size = ops.size → (∀ j, j < ops.size → listed[j]? = some (decide (j < m))) →
      wpOps P ops Q (List.range' m f) a w → wpAny P .any ops Q f listed a w := by
  intro f
  induction f with
  | zero =>
    intro m listed a w hm _ hs hl h
    refine ⟨?_, by simpa [wpOps] using h⟩
    rw [List.eq_nil_iff_forall_not_mem]
    intro j hj
    obtain ⟨h0, o, ho, _⟩ := mem_ready.1 hj
    have hj2 : j < ops.size := (Array.getElem?_eq_some_iff.1 ho).1
    have := hl j hj2
    simp [Array.getD_eq_getD_getElem?, this] at h0
    omega
  | succ f ih =>
    intro m listed a w hm hn hs hl h
    have hmem : m ∈ Region.ready .any ops listed := by
      refine mem_ready.2 ⟨by simp [Array.getD_eq_getD_getElem?, hl m (by omega)], ops[m]'(by omega), by simp [show m < ops.size by omega], fun e he hb => ?_⟩
      have := hE m _ e (Array.getElem?_eq_getElem (by omega)) he hb
      simp [Array.getD_eq_getD_getElem?, hl e.on (by omega), this]
    refine ⟨fun h0 => (by rw [h0] at hmem; cases hmem), fun i hi => ?_⟩
    obtain ⟨h0, o, ho, hall⟩ := mem_ready.1 hi
    have hio : i < ops.size := (Array.getElem?_eq_some_iff.1 ho).1
    have hmi : m ≤ i := by
      have := hl i hio
      simp [Array.getD_eq_getD_getElem?, this] at h0
      exact h0
    have him : i = m := by
      refine Classical.byContradiction fun hne => ?_
      have hL : ∀ j, listed[j]? = some true → j < m := by
        intro j hj
        have hjs : j < ops.size := by have := (Array.getElem?_eq_some_iff.1 hj).1; omega
        have := hl j hjs
        rw [hj] at this
        simpa using this.symm
      have : m < m := reach_listed (ops := ops) (L := fun j => j < m) (fun j o e hj ho he hb => by have := hE j o e ho he hb; omega) 16 i m (hT i m (by omega) hio (by omega)) (fun o' e ho' he hb => by
        rw [ho] at ho'; obtain rfl := Option.some.inj ho'
        have h2 := hall e he hb
        have h3 := hE i o e ho he hb
        refine hL e.on ?_
        have : e.on < listed.size := by omega
        simp [Array.getD_eq_getD_getElem?, this] at h2 ⊢; exact h2)
      omega
    subst him
    rw [List.range'_succ, wpOps_cons] at h
    refine wpOp_mono (fun a' w' h' => ih (i + 1) _ a' w' (by omega) (by omega) (by simp [hs]) (fun j hj => ?_) h') h
    rw [Array.getElem?_setIfInBounds]
    by_cases hij : i = j
    · subst hij; simp [hs, hj]
    · rw [if_neg hij, hl j hj]; congr 1; simp; omega

theorem grow_any16 {w0 : World} {D : List Deferred} {N n : Nat} {ps : Pairs} {E0 : Env} {QT : Act → World → Prop} (hB : gB16 ops n N = true) (hlen : ps.length = n) (hps : ∀ (i : Nat) (p : Oper × (Value → World → Prop)), ps[i]? = some p → ops[i]? = some p.1)
    (hE0 : ∀ t, Stb (E0 t)) (hob : ∀ (i : Nat) (p : Oper × (Value → World → Prop)), ps[i]? = some p → Stb p.2 ∧ Ob P ops w0 D N p.1 (envAll (ps.take i) E0) p.2) (hfin : Fin w0 D N QT (envAll ps E0))
    (hQT : ∀ a w, QT a w → wpOps P ops Q (List.range' n (ops.size - n)) a w) :
    ∀ (fuel : Nat) (listed : Array Bool) (a : Act) (w : World), listed.size = ops.size → listed.toList.count false = fuel → Gr w0 w → a.defers = D → a.tmps.size = N →
      (∀ (j : Nat) (o : Oper) (e : Edge), listed[j]? = some true → ops[j]? = some o → e ∈ o.after → Region.binds .any e = true → listed[e.on]? = some true) →
      (∀ k : Nat, n ≤ k → k < ops.size → listed[k]? = some false) →
      (envL (fun j => listed[j]? == some true) ps 0 E0).ok a w → wpAny P .any ops Q fuel listed a w := by
  simp only [gB16, Bool.and_eq_true, decide_eq_true_eq, List.all_eq_true, List.mem_range] at hB
  obtain ⟨⟨⟨hn, hB1⟩, hB2⟩, hB3⟩ := hB
  have hE : ∀ (k : Nat) (o : Oper) (e : Edge), ops[k]? = some o → e ∈ o.after → Region.binds .any e = true → e.on < k := by
    intro k o e ho he hb
    have := hB1 k (Array.getElem?_eq_some_iff.1 ho).1
    rw [ho] at this
    simp only [Bool.and_eq_true] at this
    have h2 := Array.all_eq_true_iff_forall_mem.1 this.1 e he
    simpa [hb] using h2
  have hD : ∀ (k : Nat) (o : Oper) (d : Tmp), ops[k]? = some o → o.dst = some d → d < N := by
    intro k o d ho hd
    have := hB1 k (Array.getElem?_eq_some_iff.1 ho).1
    rw [ho] at this
    simp only [Bool.and_eq_true] at this
    simpa [hd] using this.2
  have hT : ∀ k i, n ≤ k → k < ops.size → i < k → waitsN ops 16 k i = true := by
    intro k i hk hko hi
    have := hB3 k hko
    simp only [Bool.or_eq_true, decide_eq_true_eq, List.all_eq_true, List.mem_range] at this
    rcases this with h | h
    · omega
    · exact h i hi
  have hA : ∀ (i j : Nat) (oi oj : Oper), i < j → j < n → ops[i]? = some oi → ops[j]? = some oj → waits ops j i = true ∨ oi.apart ops oj = true := by
    intro i j oi oj hij hj hi hjo
    have := hB2 j hj i hij
    rw [hi, hjo] at this
    simpa using this
  intro fuel
  induction fuel with
  | zero =>
    intro listed a w hs hc hG hDf hN hcl htl hen
    by_cases h0 : ops.size - n = 0
    · have hall := count_all listed.toList n 0 (by simp [hs]; omega) (fun k h1 h2 => by omega) hc
      refine tail_any16 n hT hE 0 ops.size listed a w (by omega) hn hs (fun j hj => by have := hall j (by omega); simpa [hj] using this) ?_
      have := hQT a w (hfin a w hG hDf hN (by rw [envL_all ps 0 E0 (fun j hj => by have := hall j (by omega); simpa using this)] at hen; exact hen))
      rw [h0] at this; simpa [wpOps] using this
    · exfalso
      have h1 := htl n (Nat.le_refl _) (by omega)
      have := List.count_eq_zero.1 hc
      exact this (List.mem_of_getElem? (i := n) (by simpa using h1))
  | succ fuel ih =>
    intro listed a w hs hc hG hDf hN hcl htl hen
    by_cases hf : fuel + 1 = ops.size - n
    · have hall := count_all listed.toList n (ops.size - n) (by simp [hs]; omega) (fun k h1 h2 => by simpa using htl k h1 (by omega)) (by rw [hc, hf])
      refine tail_any16 n hT hE (fuel + 1) n listed a w (by omega) (Nat.le_refl _) hs (fun j hj => ?_) ?_
      · by_cases hjn : j < n
        · have := hall j hjn; simpa [hjn] using this
        · rw [htl j (by omega) hj]; simp [hjn]
      · rw [hf]
        exact hQT a w (hfin a w hG hDf hN (by rw [envL_all ps 0 E0 (fun j hj => by have := hall j (by omega); simpa using this)] at hen; exact hen))
    · -- some of the first n is still to come
      have hgetD : ∀ j d, j < ops.size → listed.getD j d = true → listed[j]? = some true := by
        intro j d hj h
        have : j < listed.size := by omega
        simp [Array.getD_eq_getD_getElem?, this] at h ⊢; exact h
      have hex : ∃ k, k < n ∧ listed[k]? = some false := by
        refine Classical.byContradiction fun hno => hf ?_
        have h1 : ∀ j, j < n → listed[j]? = some true := by
          intro j hj
          cases hb : listed[j]? with
          | none => rw [Array.getElem?_eq_none_iff] at hb; omega
          | some b => cases b with
            | true => rfl
            | false => exact absurd ⟨j, hj, hb⟩ hno
        have h2 : listed.toList = List.replicate n true ++ List.replicate (ops.size - n) false := by
          apply List.ext_getElem?
          intro i
          by_cases hi : i < n
          · rw [List.getElem?_append_left (by simpa using hi), List.getElem?_replicate, if_pos hi]; simpa using h1 i hi
          · rw [List.getElem?_append_right (by simpa using hi), List.getElem?_replicate]
            by_cases hi2 : i < ops.size
            · rw [if_pos (by simp; omega)]; simpa using htl i (by omega) hi2
            · rw [if_neg (by simp; omega), List.getElem?_eq_none (by simp [hs]; omega)]
        rw [h2, List.count_append, List.count_replicate_self] at hc
        have : (List.replicate n true).count false = 0 := by rw [List.count_replicate]; simp
        omega
      have hleast : ∃ k, k < n ∧ listed[k]? = some false ∧ ∀ j, j < k → listed[j]? = some true := by
        obtain ⟨k, hk, hkf⟩ := hex
        induction k using Nat.strongRecOn with
        | _ k ihk =>
          by_cases h : ∃ j, j < k ∧ listed[j]? = some false
          · obtain ⟨j, hj, hjf⟩ := h; exact ihk j hj (by omega) hjf
          · refine ⟨k, hk, hkf, fun j hj => ?_⟩
            cases hb : listed[j]? with
            | none => rw [Array.getElem?_eq_none_iff] at hb; omega
            | some b => cases b with
              | true => rfl
              | false => exact absurd ⟨j, hj, hb⟩ h
      refine ⟨fun h0 => ?_, fun i hi => ?_⟩
      · exfalso
        obtain ⟨k, hk, hkf, hkl⟩ := hleast
        have : k ∈ Region.ready .any ops listed := mem_ready.2 ⟨by simp [Array.getD_eq_getD_getElem?, hkf], ops[k]'(by omega), by simp [show k < ops.size by omega], fun e he hb => by
          have := hE k _ e (Array.getElem?_eq_getElem (by omega)) he hb
          simp [Array.getD_eq_getD_getElem?, hkl e.on this]⟩
        rw [h0] at this; cases this
      · obtain ⟨hi0, o, ho, hall⟩ := mem_ready.1 hi
        have hio : i < ops.size := (Array.getElem?_eq_some_iff.1 ho).1
        have hif : listed[i]? = some false := by
          have : i < listed.size := by omega
          simp [Array.getD_eq_getD_getElem?, this] at hi0 ⊢; exact hi0
        have hdep : ∀ e ∈ o.after, Region.binds .any e = true → listed[e.on]? = some true := fun e he hb => hgetD e.on false (by have := hE i o e ho he hb; omega) (hall e he hb)
        have hin : i < n := by
          refine Classical.byContradiction fun hni => ?_
          obtain ⟨k, hk, hkf, _⟩ := hleast
          have := reach_listed (ops := ops) (L := fun j => listed[j]? = some true) hcl 16 i k (hT i k (by omega) hio (by omega)) (fun o' e ho' he hb => by
            rw [ho] at ho'; obtain rfl := Option.some.inj ho'
            exact hdep e he hb)
          rw [hkf] at this; simp at this
        obtain ⟨p, hp⟩ : ∃ p, ps[i]? = some p := ⟨ps[i]'(by omega), List.getElem?_eq_getElem (by omega)⟩
        have hpo : p.1 = o := by have := hps i p hp; rw [ho] at this; exact (Option.some.inj this).symm
        obtain ⟨hstb, hobi⟩ := hob i p hp
        rw [hpo] at hobi
        -- what touches i's temporaries
        have hlater : ∀ j q, i < j → ps[j]? = some q → (o.apart ops q.1 = false) → listed[j]? = some false := by
          intro j q hij hq hap
          have hjn : j < n := by rw [← hlen]; exact (List.getElem?_eq_some_iff.1 hq).1
          have hjo := hps j q hq
          rcases hA i j o q.1 hij hjn ho hjo with hw | hw
          · obtain ⟨o', e, ho', he, hb, hon⟩ := waits_spec hw
            cases hb2 : listed[j]? with
            | none => rw [Array.getElem?_eq_none_iff] at hb2; omega
            | some b => cases b with
              | false => rfl
              | true => have := hcl j o' e hb2 ho' he hb; rw [hon, hif] at this; simp at this
          · rw [hw] at hap; cases hap
        have hlook : ∀ t ∈ o.looksAt ops, (envAll (ps.take i) E0) t (a.tmps.getD t undef) w := by
          intro t ht
          have h1 := hen t
          have h2 : envL (fun j => listed[j]? == some true) ps 0 E0 t = envL (fun j => decide (j < i)) ps 0 E0 t := by
            refine envL_congr ps 0 E0 E0 rfl fun j q hq hd => ?_
            simp only [Nat.zero_add]
            have hjn : j < n := by rw [← hlen]; exact (List.getElem?_eq_some_iff.1 hq).1
            have hjo := hps j q hq
            by_cases hij : j < i
            · rcases hA j i q.1 o hij hin hjo ho with hw | hw
              · obtain ⟨o', e, ho', he, hb, hon⟩ := waits_spec hw
                rw [ho] at ho'; obtain rfl := Option.some.inj ho'
                have := hdep e he hb
                rw [hon] at this; simp [this, hij]
              · exact absurd ht ((Oper.apart_spec hw).1 t hd)
            · by_cases hji : j = i
              · subst hji; simp [hif]
              · have hap : o.apart ops q.1 = false := by
                  cases hap : o.apart ops q.1 with
                  | false => rfl
                  | true => exact absurd ht ((Oper.apart_spec hap).2.2 t hd)
                have := hlater j q (by omega) hq hap
                simp [this, hij]
          rw [h2, envL_lt i ps 0 E0 (by omega)] at h1
          simpa using h1
        have hset : ∀ j, (listed.setIfInBounds i true)[j]? = if j = i then some true else listed[j]? := by
          intro j
          rw [Array.getElem?_setIfInBounds]
          by_cases hij : i = j
          · subst hij; simp [hs, hio]
          · rw [if_neg hij, if_neg (fun h => hij h.symm)]
        have next : ∀ (u : Value) (w' : World), Gr w w' → p.2 u w' → wpAny P .any ops Q fuel (listed.setIfInBounds i true) (a.put o.dst u) w' := by
          intro u w' hg hu
          refine ih _ _ _ (by simp [hs]) ?_ (hG.trans hg) (by rw [put_defers]; exact hDf) (by rw [put_size]; exact hN) ?_ ?_ ?_
          · have := count_set listed.toList i (by simpa using hif)
            rw [Array.toList_setIfInBounds]; omega
          · intro j oj e hj hoj he hb
            rw [hset] at hj ⊢
            by_cases hji : j = i
            · subst hji
              rw [ho] at hoj; obtain rfl := Option.some.inj hoj
              have := hdep e he hb
              split
              · rfl
              · exact this
            · rw [if_neg hji] at hj
              split
              · rfl
              · exact hcl j oj e hj hoj he hb
          · intro k hk hko
            rw [hset, if_neg (by omega)]; exact htl k hk hko
          · intro t
            rw [put_tmps a o.dst u t (fun d hd => by rw [hN]; exact hD i o d ho hd)]
            by_cases hd : o.dst = some t
            · rw [if_pos hd, envL_last ps 0 i p E0 hp (by rw [hpo]; exact hd) (by simp [hset]) (fun j q hij hq hdq => ?_)]
              · exact hu
              · have hap : o.apart ops q.1 = false := by
                  cases hap : o.apart ops q.1 with
                  | false => rfl
                  | true => exact absurd hdq ((Oper.apart_spec hap).2.1 t hd)
                have := hlater j q hij hq hap
                simp [hset, show j ≠ i by omega, this]
            · rw [if_neg hd]
              have h1 : envL (fun j => (listed.setIfInBounds i true)[j]? == some true) ps 0 E0 t = envL (fun j => listed[j]? == some true) ps 0 E0 t := by
                refine envL_congr ps 0 E0 E0 rfl fun j q hq hdq => ?_
                simp only [Nat.zero_add, hset]
                by_cases hji : j = i
                · subst hji
                  rw [hp] at hq; obtain rfl := Option.some.inj hq
                  rw [hpo] at hdq; exact absurd hdq hd
                · rw [if_neg hji]
              rw [h1]
              have hst : ∀ (L : Nat → Bool) (qs : Pairs) (k : Nat) (E : Env), (∀ t, Stb (E t)) → (∀ q ∈ qs, Stb q.2) → ∀ t, Stb (envL L qs k E t) := by
                intro L qs
                induction qs with
                | nil => intro k E h _ t; exact h t
                | cons q qs ihq =>
                  intro k E h hq t
                  simp only [envL]
                  refine ihq (k + 1) _ (fun t' => ?_) (fun q' hq' => hq q' (by simp [hq'])) t
                  split
                  · simp only [Env.upd]; split
                    · exact hq q (by simp)
                    · exact h t'
                  · exact h t'
              refine hst _ ps 0 E0 hE0 (fun q hq => ?_) t _ _ _ hg (hen t)
              obtain ⟨j, hj⟩ := List.getElem?_of_mem hq
              exact (hob j q hj).1
        unfold wpOp
        rw [ho]
        rcases hobi a w hG hDf hN hlook with ⟨hw, hg⟩ | ⟨hw, hg⟩
        · simp only [hw, if_true]
          refine .inl ?_
          unfold gAt at hg
          unfold Oper.wp
          generalize (execOp a.eval o).run P w = r at hg ⊢
          cases r with
          | halt x w' => simp only [gUpon] at hg
          | ok nx w' =>
            cases nx <;> simp only [gUpon] at hg <;> simp only [Oper.upon]
            case value u => exact next u w' hg.1 hg.2
            case skip => exact next undef w' hg.1 hg.2
            case enter f args => exact hg.2.mono fun e w'' ⟨v, he, hg2, hv⟩ => by subst he; exact next v w'' (hg.1.trans hg2) hv
        · simp only [hw]
          exact next undef w (Gr.refl w) hg

/-- a region that draws its order: the first operations by one walk in the order of the text, the tail behind them -/
theorem wp_region_grow16 {id n N : Nat} {l : List Oper} {a : Act} {w : World} (hm : P.follows .mixedOrders = true) (hsz : a.tmps.size = N) (hB : gB16 l.toArray n N = true)
    (h : wpG P l.toArray w.drew a.defers N (wpList P l.toArray Q (l.drop n)) (l.take n) (fun t u _ => u = a.tmps.getD t undef)) : (Code.region id l.toArray true).wp P Q a w := by
  obtain ⟨ps, hpm, hob, hfin⟩ := wpG_pairs _ _ h
  have hn : n ≤ l.length := by
    simp only [gB16, Bool.and_eq_true, decide_eq_true_eq] at hB
    simpa using hB.1.1.1
  have hlen : ps.length = n := by
    have := congrArg List.length hpm
    simp at this; omega
  refine wp_region_any hm (grow_any16 (n := n) (N := N) (w0 := w.drew) (D := a.defers) (QT := wpList P l.toArray Q (l.drop n)) hB hlen (fun i p hp => ?_) (fun t => stb_pure _) hob hfin (fun a' w' h' => ?_) _ _ _ _ (by simp) (by simp) (Gr.refl _) rfl hsz ?_ ?_ ?_)
  · have h1 : (ps.map (·.1))[i]? = some p.1 := by simp [hp]
    rw [hpm, List.getElem?_take] at h1
    split at h1
    · simpa using h1
    · simp at h1
  · rw [show l.toArray.size - n = (l.drop n).length by simp, wpOps_eq_wpList (l.drop n) n (fun j => by simp)]
    exact h'
  · intro j o e hj; simp [Array.getElem?_replicate] at hj
  · intro k _ hk; simp [Array.getElem?_replicate]; simpa using hk
  · intro t
    have : ∀ (qs : Pairs) (k : Nat) (E : Env), envL (fun j => (Array.replicate l.toArray.size false)[j]? == some true) qs k E = E := by
      intro qs
      induction qs with
      | nil => intro k E; rfl
      | cons q qs ihq =>
        intro k E
        simp only [envL]
        rw [ihq]
        have : ((Array.replicate l.toArray.size false)[k]? == some true) = false := by simp [Array.getElem?_replicate]
        rw [if_neg (by rw [this]; simp)]
    rw [this]

end

section
variable {P : Program} {w0 : World} {D : List Deferred} {N : Nat} {a : Act}
theorem region_grow16 {Q : Exit → Act → World → Prop} {w : World} (n N : Nat) {id : Nat} {l l1 l2 : List Oper} (hm : P.follows .mixedOrders = true) (hsz : a.tmps.size = N) (hB : gB16 l.toArray n N = true) (h1 : l.take n = l1) (h2 : l.drop n = l2)
    (h : wpG P l.toArray w.drew a.defers N (wpList P l.toArray Q l2) l1 (EG [] a)) : (Code.region id l.toArray true).wp P Q a w :=
  wp_region_grow16 (n := n) hm hsz hB (by rw [h1, h2]; exact h)
end
end Go.Proofs.YtaoggehdkddgeaaGreatDoor
end
section
namespace Go.Proofs.YtaoggehdkddgeaaGreatDoor
section
open Go

section
variable {P : Program} {ops : Array Oper} {Q : Exit → Act → World → Prop} {md : Region.Mode} {S : World → Prop} {fuel : Nat} {listed : Array Bool} {a : Act} {w : World}
def hUpon (P : Program) (C : Value → World → Prop) : Result Next → Prop
  | .ok (.value u) w' => C u w'
  | .ok .skip w' => C undef w'
  | .ok (.enter f args) w' => Calls P f args w' (fun e w'' => ∃ v, e = .returned v ∧ C v w'')
  | _ => False
/-- what is shown first, and what follows of it -/
def Thn (p q : Prop) : Prop := p ∧ (p → q)
theorem Thn.mk {p q : Prop} (h : p) (k : p → q) : Thn p q := ⟨h, k⟩
/-- operation i yields v wherever S holds -/
theorem held_take (i : Nat) {oi : Oper} {v : Value} {d : Tmp} (hi : ops[i]? = some oi) (hd : oi.dst = some d) (hs : Region.noSelect ops = true) (hf : Region.free md ops listed i = true) (hr : (Region.ready md ops listed).contains i = true)
    (hQ : ∀ c a w, Q (.panic c) (a.put (some d) v) w → Q (.panic c) a w) (hw : Region.wanted oi (yielded ops a.tmps) = true) (hy : ∀ w, S w → (execOp a.eval oi).run P w = .ok (.value v) w) (hS : S w)
    (h : wpAnyH P md ops Q S fuel (listed.setIfInBounds i true) (a.put (some d) v) w) : wpAnyH P md ops Q S (fuel + 1) listed a w :=
  wpAnyH_take hi hs hf hr (by rw [hd]; exact hQ) (Or.inl ⟨hw, hy⟩) hS (by rw [hd]; exact h)
/-- operation i is left out: its guard says so -/
theorem held_skip (i : Nat) {oi : Oper} {d : Tmp} (hi : ops[i]? = some oi) (hd : oi.dst = some d) (hs : Region.noSelect ops = true) (hf : Region.free md ops listed i = true) (hr : (Region.ready md ops listed).contains i = true)
    (hQ : ∀ c a w, Q (.panic c) (a.put (some d) undef) w → Q (.panic c) a w) (hw : Region.wanted oi (yielded ops a.tmps) = false) (hS : S w)
    (h : wpAnyH P md ops Q S fuel (listed.setIfInBounds i true) (a.put (some d) undef) w) : wpAnyH P md ops Q S (fuel + 1) listed a w :=
  wpAnyH_take hi hs hf hr (by rw [hd]; exact hQ) (Or.inr ⟨hw, rfl⟩) hS (by rw [hd]; exact h)
/-- operation i alone may come up: it is carried out, and S shown anew -/
theorem held_step (i : Nat) {oi : Oper} {d : Tmp} (hr : Region.ready md ops listed = [i]) (hi : ops[i]? = some oi) (hd : oi.dst = some d) (hw : Region.wanted oi (yielded ops a.tmps) = true)
    (h : hUpon P (fun v w' => Thn (S w') (wpAnyH P md ops Q S fuel (listed.setIfInBounds i true) (a.put (some d) v) w')) ((execOp a.eval oi).run P w)) : wpAnyH P md ops Q S (fuel + 1) listed a w := by
  refine wpAnyH_ready hr (by simp) (AllReadyH.cons hi (fun K hK => ?_) AllReadyH.nil)
  rw [if_pos hw]
  unfold Oper.wp
  generalize (execOp a.eval oi).run P w = r at h ⊢
  cases r with
  | halt x w' => simp only [hUpon] at h
  | ok nx w' =>
    cases nx <;> simp only [hUpon] at h <;> simp only [Oper.upon]
    case value u => rw [hd]; exact hK.out _ _ h.1 h.2
    case skip => rw [hd]; exact hK.out _ _ h.1 h.2
    case enter f args => exact h.mono fun e w'' ⟨v, he, h1, h2⟩ => by subst he; rw [hd]; exact hK.out _ _ h1 h2
end
end
section
open Go Go.RowKit

end
section
open Go

section
variable {P : Program} {ops : Array Oper} {Q : Exit → Act → World → Prop} {md : Region.Mode} {S : World → Prop} {fuel : Nat} {listed : Array Bool} {a : Act} {w : World}
end
end
end Go.Proofs.YtaoggehdkddgeaaGreatDoor
end
