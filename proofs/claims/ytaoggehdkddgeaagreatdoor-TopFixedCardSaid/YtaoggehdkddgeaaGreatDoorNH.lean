/- Ascending lists of strings, and what Check gives, as plain Lean. -/
import Derived.Test.YtaoggehdkddgeaaGreatDoorNA
import Derived.Maps.OwnSet
import Derived.Maps.StringElems
import Derived.Maps.RangeWalk
import Derived.Test.YtaoggehdkddgeaaGreatDoorGenA
import Derived.Sort.KeysCollected
import Derived.Test.YtaoggehdkddgeaaGreatDoorIter
import Derived.Test.YtaoggehdkddgeaaGreatDoorGPiR
import Derived.Test.YtaoggehdkddgeaaGreatDoorGEnA
import Derived.Test.YtaoggehdkddgeaaGreatDoorNI
namespace Go.Proofs.YtaoggehdkddgeaaGreatDoor
section
open Go Go.RowKit Go.Shelf
theorem ltB_irr (a : ByteArray) : ltB a a = false := bl_irr _
theorem ltB_trans {a b c : ByteArray} (h : ltB a b = true) (k : ltB b c = true) : ltB a c = true := bl_trans _ _ _ h k
theorem ltB_tri (a b : ByteArray) : ltB a b = true ∨ a = b ∨ ltB b a = true := by
  rcases bl_tri a.toList b.toList with h | h | h
  · exact .inl h
  · exact .inr (.inl (str_inj h))
  · exact .inr (.inr h)
theorem ltB_asym {a b : ByteArray} (h : ltB a b = true) : ltB b a = false := by
  cases hb : ltB b a with
  | false => rfl
  | true => have := ltB_trans h hb; rw [ltB_irr] at this; cases this
def AscL (l : List ByteArray) : Prop := l.Pairwise fun a b => ltB a b = true
theorem asc_unique : ∀ (l m : List ByteArray), AscL l → AscL m → (∀ x, x ∈ l ↔ x ∈ m) → l = m := by
  intro l
  induction l with
  | nil =>
    intro m _ _ h
    cases m with
    | nil => rfl
    | cons y m => have := (h y).2 (List.mem_cons_self ..); cases this
  | cons x l ih =>
    intro m hl hm h
    cases m with
    | nil => have := (h x).1 (List.mem_cons_self ..); cases this
    | cons y m =>
      obtain ⟨hl1, hl2⟩ := List.pairwise_cons.1 hl
      obtain ⟨hm1, hm2⟩ := List.pairwise_cons.1 hm
      have hxy : x = y := by
        rcases List.mem_cons.1 ((h x).1 (List.mem_cons_self ..)) with e | e
        · exact e
        · rcases List.mem_cons.1 ((h y).2 (List.mem_cons_self ..)) with e2 | e2
          · exact e2.symm
          · have a1 := hm1 x e
            have a2 := hl1 y e2
            rw [ltB_asym a1] at a2; cases a2
      subst hxy
      rw [ih m hl2 hm2]
      intro z
      constructor
      · intro hz
        rcases List.mem_cons.1 ((h z).1 (List.mem_cons_of_mem _ hz)) with e | e
        · have := hl1 z hz; rw [e, ltB_irr] at this; cases this
        · exact e
      · intro hz
        rcases List.mem_cons.1 ((h z).2 (List.mem_cons_of_mem _ hz)) with e | e
        · have := hm1 z hz; rw [e, ltB_irr] at this; cases this
        · exact e
/-- how many elements lie ahead of a string -/
def cntL (l : List ByteArray) (s : ByteArray) : Nat := (l.takeWhile fun x => ltB x s).length
/-- adds a string to an ascending list -/
def addL (l : List ByteArray) (s : ByteArray) : List ByteArray := if l[cntL l s]? = some s then l else l.take (cntL l s) ++ s :: l.drop (cntL l s)
theorem addL_mem (l : List ByteArray) (s x : ByteArray) : x ∈ addL l s ↔ x = s ∨ x ∈ l := by
  unfold addL
  split
  · rename_i h
    have := List.mem_of_getElem? h
    constructor
    · exact .inr
    · rintro (rfl | h)
      · exact this
      · exact h
  · rw [List.mem_append, List.mem_cons]
    have e : x ∈ l ↔ x ∈ l.take (cntL l s) ∨ x ∈ l.drop (cntL l s) := by
      rw [← List.mem_append, List.take_append_drop]
    rw [e]
    constructor
    · rintro (h | h | h)
      · exact .inr (.inl h)
      · exact .inl h
      · exact .inr (.inr h)
    · rintro (h | h | h)
      · exact .inr (.inl h)
      · exact .inl h
      · exact .inr (.inr h)
theorem cntL_cons (y : ByteArray) (l : List ByteArray) (s : ByteArray) : cntL (y :: l) s = if ltB y s then cntL l s + 1 else 0 := by
  unfold cntL
  rw [List.takeWhile_cons]
  split <;> simp_all
theorem addL_cons (y : ByteArray) (l : List ByteArray) (s : ByteArray) : addL (y :: l) s = if ltB y s then y :: addL l s else if y = s then y :: l else s :: y :: l := by
  unfold addL
  rw [cntL_cons]
  by_cases h : ltB y s = true
  · rw [if_pos h, if_pos h, List.getElem?_cons_succ, List.take_succ_cons, List.drop_succ_cons]
    split <;> simp_all
  · rw [if_neg h, if_neg h, List.getElem?_cons_zero]
    by_cases e : y = s
    · rw [if_pos (by rw [e]), if_pos e]
    · rw [if_neg (by simpa using e), if_neg e]; rfl
theorem addL_asc {s : ByteArray} : ∀ {l : List ByteArray}, AscL l → AscL (addL l s) := by
  intro l
  induction l with
  | nil => intro _; show AscL (if _ then _ else _); simp [AscL, cntL]
  | cons y l ih =>
    intro h
    obtain ⟨h1, h2⟩ := List.pairwise_cons.1 h
    rw [addL_cons]
    split
    · rename_i hy
      refine List.pairwise_cons.2 ⟨fun z hz => ?_, ih h2⟩
      rcases (addL_mem l s z).1 hz with rfl | hz
      · exact hy
      · exact h1 z hz
    · rename_i hy
      split
      · exact h
      · rename_i hne
        have hs : ltB s y = true := by
          rcases ltB_tri y s with a | a | a
          · exact absurd a hy
          · exact absurd a hne
          · exact a
        refine List.pairwise_cons.2 ⟨fun z hz => ?_, h⟩
        rcases List.mem_cons.1 hz with rfl | hz
        · exact hs
        · exact ltB_trans hs (h1 z hz)
/-- the stream that is given for a path -/
def givenD (Z : List (ByteArray × ByteArray)) (p : ByteArray) : Option ByteArray := (Z.find? fun z => decide (z.1 = p)).map (·.2)
theorem given_none {Z : List (ByteArray × ByteArray)} {p : ByteArray} : givenD Z p = none ↔ ∀ z ∈ Z, z.1 ≠ p := by
  unfold givenD
  rw [Option.map_eq_none_iff, List.find?_eq_none]
  simp
/-- whether something is wrong with an entry -/
def badE (Z : List (ByteArray × ByteArray)) (x : En) : Bool :=
  match givenD Z x.path with
  | none => true
  | some s => !(decide ((s.size : Int) = x.len) && decide (sha s = x.dig))
/-- what Check gives, of a valid package -/
def chkD (L : List En) (Z : List (ByteArray × ByteArray)) : List ByteArray :=
  (Z.map (·.1)).foldl (fun out p => if L.any (fun x => decide (x.path = p)) then out else addL out p)
    (L.foldl (fun out x => if badE Z x then addL out x.path else out) [])
theorem fold_bad (Z : List (ByteArray × ByteArray)) : ∀ (L : List En) (out : List ByteArray), AscL out → AscL (L.foldl (fun out x => if badE Z x then addL out x.path else out) out) ∧
    ∀ p, p ∈ L.foldl (fun out x => if badE Z x then addL out x.path else out) out ↔ p ∈ out ∨ ∃ x ∈ L, badE Z x = true ∧ x.path = p := by
  intro L
  induction L with
  | nil => intro out h; exact ⟨h, fun p => by simp⟩
  | cons x L ih =>
    intro out h
    rw [List.foldl_cons]
    by_cases hb : badE Z x = true
    · rw [if_pos hb]
      obtain ⟨h1, h2⟩ := ih _ (addL_asc (s := x.path) h)
      refine ⟨h1, fun p => ?_⟩
      rw [h2, addL_mem]
      constructor
      · rintro ((rfl | h) | ⟨y, hy, h⟩)
        · exact .inr ⟨x, List.mem_cons_self .., hb, rfl⟩
        · exact .inl h
        · exact .inr ⟨y, List.mem_cons_of_mem _ hy, h⟩
      · rintro (h | ⟨y, hy, h, e⟩)
        · exact .inl (.inr h)
        · rcases List.mem_cons.1 hy with rfl | hy
          · exact .inl (.inl e.symm)
          · exact .inr ⟨y, hy, h, e⟩
    · rw [if_neg hb]
      obtain ⟨h1, h2⟩ := ih _ h
      refine ⟨h1, fun p => ?_⟩
      rw [h2]
      constructor
      · rintro (h | ⟨y, hy, h⟩)
        · exact .inl h
        · exact .inr ⟨y, List.mem_cons_of_mem _ hy, h⟩
      · rintro (h | ⟨y, hy, h, e⟩)
        · exact .inl h
        · rcases List.mem_cons.1 hy with rfl | hy
          · exact absurd h hb
          · exact .inr ⟨y, hy, h, e⟩
theorem fold_more (L : List En) : ∀ (Q out : List ByteArray), AscL out → AscL (Q.foldl (fun out p => if L.any (fun x => decide (x.path = p)) then out else addL out p) out) ∧
    ∀ p, p ∈ Q.foldl (fun out p => if L.any (fun x => decide (x.path = p)) then out else addL out p) out ↔ p ∈ out ∨ (p ∈ Q ∧ ∀ x ∈ L, x.path ≠ p) := by
  intro Q
  induction Q with
  | nil => intro out h; exact ⟨h, fun p => by simp⟩
  | cons q Q ih =>
    intro out h
    rw [List.foldl_cons]
    by_cases hb : L.any (fun x => decide (x.path = q)) = true
    · rw [if_pos hb]
      obtain ⟨h1, h2⟩ := ih _ h
      refine ⟨h1, fun p => ?_⟩
      rw [h2]
      rw [List.any_eq_true] at hb
      obtain ⟨x, hx, e⟩ := hb
      have e := of_decide_eq_true e
      constructor
      · rintro (h | ⟨h, k⟩)
        · exact .inl h
        · exact .inr ⟨List.mem_cons_of_mem _ h, k⟩
      · rintro (h | ⟨h, k⟩)
        · exact .inl h
        · rcases List.mem_cons.1 h with rfl | h
          · exact absurd e (k x hx)
          · exact .inr ⟨h, k⟩
    · rw [if_neg hb]
      obtain ⟨h1, h2⟩ := ih _ (addL_asc (s := q) h)
      refine ⟨h1, fun p => ?_⟩
      rw [h2, addL_mem]
      have hn : ∀ x ∈ L, x.path ≠ q := fun x hx e => hb (List.any_eq_true.2 ⟨x, hx, decide_eq_true e⟩)
      constructor
      · rintro ((rfl | h) | ⟨h, k⟩)
        · exact .inr ⟨List.mem_cons_self .., hn⟩
        · exact .inl h
        · exact .inr ⟨List.mem_cons_of_mem _ h, k⟩
      · rintro (h | ⟨h, k⟩)
        · exact .inl (.inr h)
        · rcases List.mem_cons.1 h with rfl | h
          · exact .inl (.inl rfl)
          · exact .inr ⟨h, k⟩
theorem chk_asc (L : List En) (Z : List (ByteArray × ByteArray)) : AscL (chkD L Z) := (fold_more L _ _ (fold_bad Z L [] List.Pairwise.nil).1).1
theorem chk_mem (L : List En) (Z : List (ByteArray × ByteArray)) (p : ByteArray) : p ∈ chkD L Z ↔ (∃ x ∈ L, badE Z x = true ∧ x.path = p) ∨ ((∃ z ∈ Z, z.1 = p) ∧ ∀ x ∈ L, x.path ≠ p) := by
  unfold chkD
  rw [(fold_more L _ _ (fold_bad Z L [] List.Pairwise.nil).1).2, (fold_bad Z L [] List.Pairwise.nil).2]
  simp
/-- a list that is ascending and has the members of Check's answer is that answer -/
theorem chk_eq {L : List En} {Z : List (ByteArray × ByteArray)} {l : List ByteArray} (h : AscL l) (hm : ∀ p, p ∈ l ↔ (∃ x ∈ L, badE Z x = true ∧ x.path = p) ∨ ((∃ z ∈ Z, z.1 = p) ∧ ∀ x ∈ L, x.path ≠ p)) : l = chkD L Z :=
  asc_unique _ _ h (chk_asc L Z) fun p => (hm p).trans (chk_mem L Z p).symm
end
section
open Go Go.RowKit
open Go.Maps (Keyed has IsMap)

def kS (p : ByteArray) : Lit := .string p.data.toList
theorem ba_ext {a b : ByteArray} (h : a.data.toList = b.data.toList) : a = b := by
  cases a; cases b; simp only [ByteArray.mk.injEq]; exact Array.toList_inj.1 h
theorem kS_inj {p q : ByteArray} (h : kS p = kS q) : p = q := by
  unfold kS at h; injection h with h; exact ba_ext h
theorem kS_key (p : ByteArray) : WideAt.IsKeyLit (kS p) := by simp [WideAt.IsKeyLit, kS]
theorem kS_of {p : ByteArray} (h : p.size ≤ maxLen) : keyOf Tryz.prog 9 (.string p) = some (kS p) := WideMaps.keyOf_string_mk Tryz.underlying9 h
theorem strK : Keyed Tryz.prog 9 := Maps.string_keyed Tryz.underlying9
/-- block b is a map of at most n entries that holds F -/
def GivAt (b n : Nat) (F : ByteArray → Option ByteArray) (w : World) : Prop :=
  ∃ D : DataW Unit, w.ownsMap Tryz.prog 9 (plainElem Tryz.prog 9) b n D ∧
    ∀ p : ByteArray, p.size ≤ maxLen → has D (kS p) = (F p).isSome ∧ ∀ zd, D.atKey (kS p) zd = match F p with | none => zd | some s => .lit (.string s.data.toList)
/-- block b is a set of at most n strings, which S says -/
def WrAt (b n : Nat) (S : ByteArray → Bool) (w : World) : Prop :=
  ∃ D : DataW Unit, w.ownsMap Tryz.prog 9 (plainElem Tryz.prog 4) b n D ∧ ∀ p : ByteArray, p.size ≤ maxLen → has D (kS p) = S p
theorem GivAt.made (w : World) : GivAt w.heap.size 0 (fun _ => none) (w.alloc (.map #[] 0)) :=
  ⟨_, World.ownsMap_made w _ _ _, fun _ _ => ⟨rfl, fun _ => rfl⟩⟩
theorem WrAt.made (w : World) : WrAt w.heap.size 0 (fun _ => false) (w.alloc (.map #[] 0)) :=
  ⟨_, World.ownsMap_made w _ _ _, fun _ _ => rfl⟩
theorem own_chg {k : TypeId} {R : Value → Option (DataW Unit × List MemPlace)} {b n : Nat} {D : DataW Unit} {w x : World} {g : Option Nat} (h : w.ownsMap Tryz.prog k R b n D) (hc : Chg g w x) (hb : some b ≠ g) : x.ownsMap Tryz.prog k R b n D := by
  obtain ⟨es, clock, h1, h2⟩ := h
  exact ⟨es, clock, hc.block h1 hb, h2⟩
theorem GivAt.keep {b n : Nat} {F : ByteArray → Option ByteArray} {w x : World} {g : Option Nat} (h : GivAt b n F w) (hc : Chg g w x) (hb : some b ≠ g) : GivAt b n F x := by
  obtain ⟨D, h1, h2⟩ := h
  exact ⟨D, own_chg h1 hc hb, h2⟩
theorem WrAt.keep {b n : Nat} {S : ByteArray → Bool} {w x : World} {g : Option Nat} (h : WrAt b n S w) (hc : Chg g w x) (hb : some b ≠ g) : WrAt b n S x := by
  obtain ⟨D, h1, h2⟩ := h
  exact ⟨D, own_chg h1 hc hb, h2⟩
theorem GivAt.gr {b n : Nat} {F : ByteArray → Option ByteArray} {w x : World} (h : GivAt b n F w) (hg : Gr w x) : GivAt b n F x := h.keep (g := none) (Chg.of_gr hg) (by simp)
theorem WrAt.gr {b n : Nat} {S : ByteArray → Bool} {w x : World} (h : WrAt b n S w) (hg : Gr w x) : WrAt b n S x := h.keep (g := none) (Chg.of_gr hg) (by simp)
theorem GivAt.lt {b n : Nat} {F : ByteArray → Option ByteArray} {w : World} (h : GivAt b n F w) : b < w.heap.size := by
  obtain ⟨D, h1, -⟩ := h
  exact h1.lt
theorem WrAt.lt {b n : Nat} {S : ByteArray → Bool} {w : World} (h : WrAt b n S w) : b < w.heap.size := by
  obtain ⟨D, h1, -⟩ := h
  exact h1.lt
theorem GivAt.look {b n : Nat} {F : ByteArray → Option ByteArray} {w : World} (h : GivAt b n F w) (p : ByteArray) (hp : p.size ≤ maxLen) :
    (Instr.lookup 113 (.map (some b)) (.string p) true).run Tryz.prog w = .ok (.tuple #[.string ((F p).getD ⟨#[]⟩), .bool (F p).isSome]) w := by
  obtain ⟨D, h1, h2⟩ := h
  obtain ⟨v, ps, hrun, hv⟩ := h1.look_ok strK Tryz.underlying113 (z := .string ⟨#[]⟩) (by kernel_rfl) (zd := .lit (.string [])) (zp := []) (plainElem_string Tryz.underlying9 (Nat.zero_le _)) (kS_of hp)
  obtain ⟨e1, e2⟩ := h2 p hp
  obtain ⟨c, rfl, hc, -⟩ := plainElem_string_inv Tryz.underlying9 hv
  rw [e2] at hc
  rw [hrun, e1]
  cases hF : F p with
  | none =>
    rw [hF] at hc
    simp only [Prod.mk.injEq, DataW.lit.injEq, Lit.string.injEq] at hc
    obtain rfl : c = ⟨#[]⟩ := ba_ext hc.1.symm
    rfl
  | some s =>
    rw [hF] at hc
    simp only [Prod.mk.injEq, DataW.lit.injEq, Lit.string.injEq] at hc
    obtain rfl : c = s := ba_ext hc.1.symm
    rfl
theorem GivAt.put {b n : Nat} {F : ByteArray → Option ByteArray} {w : World} (h : GivAt b n F w) (p s : ByteArray) (hp : p.size ≤ maxLen) (hs : s.size ≤ maxLen) (hn : n < maxLen) :
    ∃ w', (Instr.mapUpdate 113 (.map (some b)) (.string p) (.string s)).run Tryz.prog w = .ok () w' ∧ GivAt b (n + 1) (fun q => if q = p then some s else F q) w' ∧ Chg (some b) w w' := by
  obtain ⟨D, h1, h2⟩ := h
  obtain ⟨w', hrun, h3, h4⟩ := h1.update strK Tryz.underlying113 hn (kS_of hp) (plainElem_string Tryz.underlying9 hs)
  refine ⟨w', hrun, ⟨_, h3, fun q hq => ?_⟩, Chg.of_grownBy h4⟩
  by_cases e : q = p
  · subst e
    simp only [if_true]
    exact ⟨Maps.has_put_same h1.isMap (kS_key _) _, fun zd => Maps.atKey_put_same h1.isMap (kS_key _) _ _⟩
  · simp only [if_neg e]
    have hk : kS q ≠ kS p := fun h => e (kS_inj h)
    exact ⟨(Maps.has_put_other hk _).trans (h2 q hq).1, fun zd => (Maps.atKey_put_other hk _ _).trans ((h2 q hq).2 zd)⟩
theorem WrAt.put {b n : Nat} {S : ByteArray → Bool} {w : World} (h : WrAt b n S w) (p : ByteArray) (hp : p.size ≤ maxLen) (hn : n < maxLen) :
    ∃ w', (Instr.mapUpdate 115 (.map (some b)) (.string p) (.bool true)).run Tryz.prog w = .ok () w' ∧ WrAt b (n + 1) (fun q => decide (q = p) || S q) w' ∧ Chg (some b) w w' := by
  obtain ⟨D, h1, h2⟩ := h
  obtain ⟨w', hrun, h3, h4⟩ := h1.update strK Tryz.underlying115 hn (kS_of hp) (plainElem_bool Tryz.underlying4 true)
  refine ⟨w', hrun, ⟨_, h3, fun q hq => ?_⟩, Chg.of_grownBy h4⟩
  by_cases e : q = p
  · subst e
    show has (D.put _ _) (kS q) = (decide (q = q) || S q)
    rw [Maps.has_put_same h1.isMap (kS_key _), decide_eq_true rfl]; rfl
  · show has (D.put _ _) (kS q) = (decide (q = p) || S q)
    rw [Maps.has_put_other (fun h => e (kS_inj h)), h2 q hq, decide_eq_false e]; rfl
theorem WrAt.drop {b n : Nat} {S : ByteArray → Bool} {w : World} (h : WrAt b n S w) (p : ByteArray) (hp : p.size ≤ maxLen) (ty : TypeId) :
    ∃ w', (Builtin.delete_ #[115, 9] ty #[.map (some b), .string p]).run Tryz.prog w = .ok (.tuple #[]) w' ∧ WrAt b n (fun q => !decide (q = p) && S q) w' ∧ Chg (some b) w w' := by
  obtain ⟨D, h1, h2⟩ := h
  obtain ⟨w', hrun, h3, h4⟩ := h1.drop strK Tryz.underlying115 (kS_of hp) ty
  refine ⟨w', hrun, ⟨_, h3, fun q hq => ?_⟩, Chg.of_grownBy h4.grown⟩
  by_cases e : q = p
  · subst e
    show has (D.del _) (kS q) = (!decide (q = q) && S q)
    rw [Maps.has_del_same, decide_eq_true rfl]; rfl
  · show has (D.del _) (kS q) = (!decide (q = p) && S q)
    rw [Maps.has_del_other (fun h => e (kS_inj h)), h2 q hq, decide_eq_false e]; rfl
/-- the loop over the map in block b whose iterator lies in block r: left says which strings are still to come -/
def GivRng (b r n : Nat) (F : ByteArray → Option ByteArray) (left : ByteArray → Bool) (cnt : Nat) (w : World) : Prop :=
  ∃ (D : DataW Unit) (lf : Lit → Bool), w.ranges Tryz.prog 9 (plainElem Tryz.prog 9) b r n D lf cnt ∧
    (∀ p : ByteArray, p.size ≤ maxLen → has D (kS p) = (F p).isSome ∧ ∀ zd, D.atKey (kS p) zd = match F p with | none => zd | some s => .lit (.string s.data.toList)) ∧
    ∀ p : ByteArray, p.size ≤ maxLen → lf (kS p) = left p
theorem same_kS (q p : ByteArray) : (kS q).sameKey (kS p) = decide (q = p) := by
  by_cases e : q = p
  · subst e
    rw [WideAt.sameKey_self (kS_key _), decide_eq_true rfl]
  · rw [decide_eq_false e]
    exact Maps.sameKey_ne (fun h => e (kS_inj h))
theorem GivRng.giv {b r n cnt : Nat} {F : ByteArray → Option ByteArray} {left : ByteArray → Bool} {w : World} (h : GivRng b r n F left cnt w) : GivAt b n F w := by
  obtain ⟨D, lf, h1, h2, -⟩ := h
  exact ⟨D, h1.owns, h2⟩
theorem GivRng.rest {b r n cnt : Nat} {F : ByteArray → Option ByteArray} {left : ByteArray → Bool} {w : World} (h : GivRng b r n F left cnt w) : w.rangeLeft b r = cnt := by
  obtain ⟨D, lf, h1, -⟩ := h
  exact h1.left_eq
theorem GivRng.keep {b r n cnt : Nat} {F : ByteArray → Option ByteArray} {left : ByteArray → Bool} {w x : World} {g : Option Nat} (h : GivRng b r n F left cnt w) (hc : Chg g w x) (hb : some b ≠ g) (hr : some r ≠ g) : GivRng b r n F left cnt x := by
  obtain ⟨D, lf, ⟨es, clock, since, seen, c0, h1, h2, h3, h4, h5, h6⟩, k⟩ := h
  exact ⟨D, lf, ⟨es, clock, since, seen, c0, hc.block h1 hb, h2, h3, h4, hc.block h5 hr, h6⟩, k⟩
theorem gr_of_grown {w x : World} (h : w.grownBy x none) : Gr w x := (Gr.refl w).grown h (Nat.le_refl _) (fun k e => by cases e)
theorem GivAt.range {b n : Nat} {F : ByteArray → Option ByteArray} {w : World} (h : GivAt b n F w) :
    ∃ w' cnt, (Instr.range 113 (.map (some b))).run Tryz.prog w = .ok (.pointer (some ⟨w.heap.size, 0, none⟩)) w' ∧ GivRng b w.heap.size n F (fun p => (F p).isSome) cnt w' ∧ cnt ≤ n ∧ Gr w w' ∧ w'.heap.size = w.heap.size + 1 := by
  obtain ⟨D, h1, h2⟩ := h
  obtain ⟨w', hrun, h3, h4, h5⟩ := h1.range strK Tryz.underlying113
  exact ⟨w', _, hrun, ⟨D, _, h3, h2, fun p hp => (h2 p hp).1⟩, h1.size_le, gr_of_grown h4, h5⟩
theorem GivRng.next {b r n cnt : Nat} {F : ByteArray → Option ByteArray} {left : ByteArray → Bool} {w : World} (h : GivRng b r n F left cnt w) (ty : TypeId) :
    (cnt = 0 ∧ (∀ p : ByteArray, p.size ≤ maxLen → left p = false) ∧ (Instr.next (.pointer (some ⟨r, 0, none⟩)) false ty).run Tryz.prog w = .ok (.tuple #[.bool false]) w) ∨
    ∃ p s w' cnt', p.size ≤ maxLen ∧ left p = true ∧ (Instr.next (.pointer (some ⟨r, 0, none⟩)) false ty).run Tryz.prog w = .ok (.tuple #[.bool true, .string p, .string s]) w' ∧
      GivRng b r n F (fun q => left q && !decide (q = p)) cnt' w' ∧ cnt' < cnt ∧ Chg (some r) w w' ∧ w'.heap.size = w.heap.size ∧ (Instr.entry (.pointer (some ⟨r, 0, none⟩))).run Tryz.prog w' = .ok (.tuple #[.string p, .string s]) w' := by
  obtain ⟨D, lf, h1, h2, h3⟩ := h
  rcases h1.next strK ty with ⟨h0, hl, hrun⟩ | ⟨key, v, kl, y, w', cnt', hkey, hlk, hv, -, hrun, hrg, hlt, hgr, hsz, hen⟩
  · exact .inl ⟨h0, fun p hp => by rw [← h3 p hp]; exact hl _, hrun⟩
  · obtain ⟨p, rfl, hkl, hp⟩ := WideMaps.string_of_keyOf Tryz.underlying9 hkey
    obtain ⟨s, rfl, -, -⟩ := plainElem_string_inv Tryz.underlying9 hv
    have e : kl = kS p := hkl
    subst e
    exact .inr ⟨p, s, w', cnt', hp, by rw [← h3 p hp]; exact hlk, hrun, ⟨D, _, hrg, h2, fun q hq => by rw [h3 q hq, same_kS]⟩, hlt, Chg.of_grownBy hgr, hsz, hen⟩
theorem GivRng.has {b r n cnt : Nat} {F : ByteArray → Option ByteArray} {left : ByteArray → Bool} {w : World} (h : GivRng b r n F left cnt w) {p : ByteArray} (hp : p.size ≤ maxLen) (hl : left p = true) : (F p).isSome = true := by
  obtain ⟨D, lf, ⟨es, clock, since, seen, c0, h1, h2, h3, rfl, h5, h6, h7, h8, h9, h10⟩, k1, k2⟩ := h
  rw [← k2 p hp] at hl
  obtain ⟨x, hx, he⟩ := h9 _ hl
  rw [← (k1 p hp).1]
  exact List.any_eq_true.2 ⟨WideElems.rg Tryz.prog 9 (plainElem Tryz.prog 9) x, mem_sorted.2 (List.mem_map.2 ⟨x, hx, rfl⟩), by rw [he]; exact WideAt.sameKey_self (kS_key _)⟩
end
section
open Go Go.RowKit Go.Maps Go.Sort Go.Shelf

set_option maxHeartbeats 1000000 in
theorem sorted_keys (b nn : Nat) (D0 : DataW Unit) (R : Value → Option (DataW Unit × List MemPlace)) (w : World) (hown : w.ownsMap Tryz.prog 9 R b nn D0) (hmax : Maps.size D0 ≤ maxLen) (hbytes : Maps.size D0 * 16 ≤ 140737488355328) :
    CallsIn Fence.wide 5 Tryz.prog 47 #[.func (.func 100) #[] #[.pointer (some ⟨w.heap.size, 0, none⟩)]] (w.alloc (.cells #[.map (some b)] 115)) fun e w' => ∃ (v : Value) (ss : List (List UInt8)), e = .returned v ∧ ss.Perm (strKeys D0) ∧
      w'.ownsRow (w.alloc (.cells #[.map (some b)] 115)).heap.size 9 1 v ss.length ((ss.mergeSort (fun x y => decide (x ≤ y))).map encStr) ∧ (v = .slice none 0 0 ↔ ss = []) ∧ Below (w.alloc (.cells #[.map (some b)] 115)).heap.size (w.alloc (.cells #[.map (some b)] 115)) w' := by
  have hbl := hown.lt
  have hseq : SeqGives Fence.wide 2 Tryz.prog 100 #[.pointer (some ⟨w.heap.size, 0, none⟩)] encStr (fun ss => ss.Perm (strKeys D0)) (Maps.size D0) (w.alloc (.cells #[.map (some b)] 115)) :=
    AnyZ.keys_gives (ρ := Tryz.keys48_ren) { Tryz.keys48 with } Fence.wide _ trivial rfl (by omega) w.heap.size b nn D0 _ (by simp) (by simp) (by
      obtain ⟨es, clock, hb, Ft, hs, hD⟩ := hown
      exact ⟨es, clock, (Below.heap_alloc _ _ b hbl).trans hb, Ft, hs, hD⟩)
  exact AnyZ.sorted_in Tryz.sorted47 Fence.wide 5 trivial trivial trivial trivial rfl (by omega) (Tryz.sorts47 _) (enters_of Tryz.func99 (by kernel_rfl) rfl) 100 #[.pointer (some ⟨w.heap.size, 0, none⟩)] trivial (enters_of Tryz.func100 (by kernel_rfl) rfl) _ _ hmax hbytes _ hseq
/-- the keys of a map's reading are strings, no two of them the same -/
theorem keys_of {b n : Nat} {R : Value → Option (DataW Unit × List MemPlace)} {D : DataW Unit} {w : World} (h : w.ownsMap Tryz.prog 9 R b n D) :
    (strKeys D).Nodup ∧ (∀ x ∈ strKeys D, ∃ p : ByteArray, p.size ≤ maxLen ∧ x = p.data.toList ∧ has D (kS p) = true) ∧ ∀ p : ByteArray, has D (kS p) = true → p.data.toList ∈ strKeys D := by
  obtain ⟨E, rfl, hpw, -⟩ := h.entries strK
  obtain ⟨es, clock, _, F, _, hD⟩ := h
  have hS : ∀ p ∈ E, ∃ s : ByteArray, s.size ≤ maxLen ∧ p.1 = kS s := by
    intro p hp
    have hD' : E = (es.toList.map (WideElems.rg Tryz.prog 9 R)).foldr DataW.insert [] := by injection hD
    rw [hD', mem_sorted] at hp
    obtain ⟨x, hx, rfl⟩ := List.mem_map.1 hp
    obtain ⟨y, hy⟩ := F.reads x hx
    obtain ⟨s, -, hs, hs2⟩ := WideMaps.string_of_keyOf Tryz.underlying9 (WideElems.rd_key hy)
    exact ⟨s, hs2, by rw [WideElems.rg_of hy]; exact hs⟩
  have hf : ∀ s : ByteArray, strOf (kS s) = s.data.toList := fun _ => rfl
  refine ⟨?_, ?_, ?_⟩
  · show (E.map fun p => strOf p.1).Nodup
    unfold List.Nodup
    rw [List.pairwise_map]
    refine hpw.imp_of_mem fun {p q} hp hq hne he => ?_
    obtain ⟨s, -, e1⟩ := hS p hp
    obtain ⟨t, -, e2⟩ := hS q hq
    rw [e1, e2, hf, hf] at he
    exact hne (by rw [e1, e2, ba_ext he])
  · intro x hx
    obtain ⟨p, hp, rfl⟩ := List.mem_map.1 (show x ∈ E.map fun p => strOf p.1 from hx)
    obtain ⟨s, hs, e1⟩ := hS p hp
    refine ⟨s, hs, by rw [e1, hf], ?_⟩
    exact List.any_eq_true.2 ⟨p, hp, by rw [e1]; exact WideAt.sameKey_self (kS_key _)⟩
  · intro s hs
    obtain ⟨p, hp, he⟩ := List.any_eq_true.1 hs
    refine List.mem_map.2 ⟨p, hp, ?_⟩
    rw [WideAt.sameKey_eq he, hf]
theorem sort_asc {ss : List (List UInt8)} (hn : ss.Nodup) : AscL ((ss.mergeSort (fun x y => decide (x ≤ y))).map fun l => (⟨l.toArray⟩ : ByteArray)) := by
  unfold AscL
  rw [List.pairwise_map]
  have h1 : (ss.mergeSort (fun x y => decide (x ≤ y))).Pairwise fun a b => decide (a ≤ b) = true := List.pairwise_mergeSort (fun a b c h1 h2 => by
    simp only [decide_eq_true_eq] at h1 h2 ⊢; exact List.le_trans h1 h2) (fun a b => by
    simp only [Bool.or_eq_true, decide_eq_true_eq]; exact List.le_total a b) ss
  have h2 : (ss.mergeSort (fun x y => decide (x ≤ y))).Nodup := (List.mergeSort_perm ss _).nodup_iff.2 hn
  refine (h1.and h2).imp fun {a b} ⟨h3, h4⟩ => ?_
  have h3 := of_decide_eq_true h3
  rcases ltB_tri ⟨a.toArray⟩ ⟨b.toArray⟩ with h | h | h
  · exact h
  · injection h with h
    exact absurd (Array.toList_inj.2 h) h4
  · rw [ltB_eq, decide_eq_true_eq] at h
    exact absurd h (List.not_lt.2 h3)
theorem sorted_set (b n : Nat) (S : ByteArray → Bool) (w : World) (h : WrAt b n S w) (hn : n ≤ 100000) :
    CallsIn Fence.wide 5 Tryz.prog 47 #[.func (.func 100) #[] #[.pointer (some ⟨w.heap.size, 0, none⟩)]] (w.alloc (.cells #[.map (some b)] 115)) fun e w' =>
      ∃ v L, e = .returned v ∧ AscL L ∧ (∀ p, p ∈ L ↔ (p.size ≤ maxLen ∧ S p = true)) ∧ OwnL w.heap.size L v w' ∧ Gr w w' := by
  obtain ⟨D, hown, hS⟩ := h
  have hsz := hown.size_le
  refine (sorted_keys b n D _ w hown (Nat.le_trans hsz (Nat.le_trans hn (by unfold maxLen; decide))) (by omega)).mono ?_
  rintro e w' ⟨v, ss, rfl, hp, hrow, -, hb⟩
  obtain ⟨k1, k2, k3⟩ := keys_of hown
  have hnd : ss.Nodup := hp.nodup_iff.2 k1
  have hG : Gr w w' := (Gr.alloc w _).trans hb
  refine ⟨v, (ss.mergeSort (fun x y => decide (x ≤ y))).map fun l => ⟨l.toArray⟩, rfl, sort_asc hnd, fun p => ?_, ?_, hG⟩
  · rw [List.mem_map]
    constructor
    · rintro ⟨x, hx, rfl⟩
      obtain ⟨q, hq, rfl, hh⟩ := k2 x (hp.mem_iff.1 ((List.mergeSort_perm ss _).mem_iff.1 hx))
      have e : (⟨(q.data.toList).toArray⟩ : ByteArray) = q := ba_ext (by simp)
      rw [e]
      exact ⟨hq, by rw [← hS q hq]; exact hh⟩
    · rintro ⟨hq, hh⟩
      rw [← hS p hq] at hh
      exact ⟨p.data.toList, (List.mergeSort_perm ss _).mem_iff.2 (hp.mem_iff.2 (k3 p hh)), ba_ext (by simp)⟩
  · have h1 := (Own.of_row hrow).mono (show w.heap.size ≤ _ by rw [World.size_alloc]; omega)
    unfold OwnL
    rw [List.length_map, List.length_mergeSort]
    have e : sC ((ss.mergeSort (fun x y => decide (x ≤ y))).map fun l => (⟨l.toArray⟩ : ByteArray)) = (ss.mergeSort (fun x y => decide (x ≤ y))).map encStr := by
      unfold sC; rw [List.map_map]; rfl
    rw [e]; exact h1
end
section
open Go Go.RowKit Go.Shelf
attribute [local go_sem] gAt gUpon
attribute [local simp] Gr.refl Gr.alloc

/-- what is wrong, entry by entry -/
def wrS (Z : List (ByteArray × ByteArray)) (l : List En) : ByteArray → Bool := l.foldl (fun S x p => if p = x.path then badE Z x else S p) fun p => (givenD Z p).isSome
theorem wrS_step {Z : List (ByteArray × ByteArray)} {l : List En} {j : Nat} {x : En} (h : l[j]? = some x) : wrS Z (l.take (j + 1)) = fun p => if p = x.path then badE Z x else wrS Z (l.take j) p := by
  unfold wrS
  rw [List.take_add_one, h, Option.toList_some, List.foldl_append]; rfl
theorem given_step {Z : List (ByteArray × ByteArray)} {k : Nat} {p s : ByteArray} (h : Z[k]? = some (p, s)) : givenD (Z.take (k + 1)) = fun q => match givenD (Z.take k) q with | some t => some t | none => if q = p then some s else none := by
  funext q
  unfold givenD
  rw [List.take_add_one, h, Option.toList_some, List.find?_append]
  cases (Z.take k).find? fun z => decide (z.1 = q) with
  | some z => rfl
  | none =>
    simp only [Option.none_or, Option.map_none, List.find?_cons, List.find?_nil]
    by_cases e : q = p
    · subst e; simp
    · rw [decide_eq_false (fun h => e h.symm), if_neg e]; rfl
theorem asc_ne {l : List En} (h : ascN l l.length = true) : l.Pairwise fun x y => x.path ≠ y.path := by
  have key : ∀ (i j : Nat) (x y : En), l[i]? = some x → l[j]? = some y → i < j → ltB x.path y.path = true := by
    intro i j
    induction j with
    | zero => intro x y _ _ h; omega
    | succ j ih =>
      intro x y hx hy hij
      have hj : j + 1 < l.length := (List.getElem?_eq_some_iff.1 hy).1
      have hs : ltB (l.getD j en0).path (l.getD (j + 1) en0).path = true := by
        unfold ascN at h
        exact List.all_eq_true.1 h j (List.mem_range.2 (by omega))
      rw [getD_at hy] at hs
      rcases Nat.lt_or_ge i j with h1 | h1
      · have hz : l[j]? = some l[j] := List.getElem?_eq_getElem (by omega)
        rw [getD_at hz] at hs
        exact ltB_trans (ih x _ hx hz h1) hs
      · obtain rfl : i = j := by omega
        rw [getD_at hx] at hs; exact hs
  rw [List.pairwise_iff_getElem]
  intro i j hi hj hij e
  have := key i j _ _ (List.getElem?_eq_getElem hi) (List.getElem?_eq_getElem hj) hij
  rw [e, ltB_irr] at this; cases this
theorem wrS_iff (Z : List (ByteArray × ByteArray)) : ∀ (n : Nat) (l : List En), l.length = n → (l.Pairwise fun x y => x.path ≠ y.path) → ∀ p, wrS Z l p = true ↔ (∃ x ∈ l, badE Z x = true ∧ x.path = p) ∨ ((∃ z ∈ Z, z.1 = p) ∧ ∀ x ∈ l, x.path ≠ p) := by
  intro n
  induction n with
  | zero =>
    intro l hl _ p
    obtain rfl := List.eq_nil_of_length_eq_zero hl
    show (givenD Z p).isSome = true ↔ _
    constructor
    · intro h
      refine .inr ⟨?_, fun x hx => by cases hx⟩
      have hn : givenD Z p ≠ none := fun e => by rw [e] at h; cases h
      rw [Ne, given_none] at hn
      exact Classical.byContradiction fun hc => hn fun z hz he => hc ⟨z, hz, he⟩
    · rintro (⟨x, hx, _⟩ | ⟨⟨z, hz, he⟩, _⟩)
      · cases hx
      · cases hg : givenD Z p with
        | some _ => rfl
        | none => exact absurd he (given_none.1 hg z hz)
  | succ n ih =>
    intro l hl hp p
    obtain ⟨q, x, rfl⟩ : ∃ q x, l = q ++ [x] := by
      rcases snoc_cases l with rfl | h
      · cases hl
      · exact h
    have hq : q.length = n := by simpa using hl
    obtain ⟨h1, -, h3⟩ := List.pairwise_append.1 hp
    have e : wrS Z (q ++ [x]) p = if p = x.path then badE Z x else wrS Z q p := by
      unfold wrS; rw [List.foldl_append]; rfl
    rw [e]
    by_cases hpx : p = x.path
    · rw [if_pos hpx]
      constructor
      · intro h; exact .inl ⟨x, by simp, h, hpx.symm⟩
      · rintro (⟨y, hy, hb, he⟩ | ⟨_, hn⟩)
        · rcases List.mem_append.1 hy with hy | hy
          · exact absurd (he.trans hpx) (h3 y hy x (by simp))
          · rw [← List.mem_singleton.1 hy]; exact hb
        · exact absurd hpx.symm (hn x (by simp))
    · rw [if_neg hpx, ih q hq h1 p]
      constructor
      · rintro (⟨y, hy, hb, he⟩ | ⟨hz, hn⟩)
        · exact .inl ⟨y, List.mem_append_left _ hy, hb, he⟩
        · refine .inr ⟨hz, fun y hy => ?_⟩
          rcases List.mem_append.1 hy with hy | hy
          · exact hn y hy
          · rw [List.mem_singleton.1 hy]; exact fun e => hpx e.symm
      · rintro (⟨y, hy, hb, he⟩ | ⟨hz, hn⟩)
        · rcases List.mem_append.1 hy with hy | hy
          · exact .inl ⟨y, hy, hb, he⟩
          · rw [List.mem_singleton.1 hy] at he; exact absurd he.symm hpx
        · exact .inr ⟨hz, fun y hy => hn y (List.mem_append_left _ hy)⟩
theorem GivAt.more {b n m : Nat} {F : ByteArray → Option ByteArray} {w : World} (h : GivAt b n F w) (hm : n ≤ m) : GivAt b m F w := by
  obtain ⟨D, h1, h2⟩ := h
  exact ⟨D, h1.mono hm, h2⟩
theorem WrAt.more {b n m : Nat} {S S' : ByteArray → Bool} {w : World} (h : WrAt b n S w) (hm : n ≤ m) (hS : ∀ p : ByteArray, p.size ≤ maxLen → S p = S' p) : WrAt b m S' w := by
  obtain ⟨D, h1, h2⟩ := h
  exact ⟨D, h1.mono hm, fun p hp => (h2 p hp).trans (hS p hp)⟩
/-- what Check gives -/
def checkD (id ver : Int) (l : List En) (Z : List (ByteArray × ByteArray)) : List ByteArray := if validD id ver l then chkD l Z else []
theorem keys_call (mb : Option Nat) (w : World) : Calls Tryz.prog 48 #[.map mb] w fun e w' => e = .returned (.func (.func 100) #[] #[.pointer (some ⟨w.heap.size, 0, none⟩)]) ∧ w' = w.alloc (.cells #[.map mb] 115) :=
  (callsIn_wide (n := 5)).1 (Tryz.maps_Keys_48 mb w)
theorem sorted_call (b n : Nat) (S : ByteArray → Bool) (w : World) (h : WrAt b n S w) (hn : n ≤ 100000) :
    Calls Tryz.prog 47 #[.func (.func 100) #[] #[.pointer (some ⟨w.heap.size, 0, none⟩)]] (w.alloc (.cells #[.map (some b)] 115)) fun e w' =>
      ∃ v L, e = .returned v ∧ AscL L ∧ (∀ p, p ∈ L ↔ (p.size ≤ maxLen ∧ S p = true)) ∧ OwnL w.heap.size L v w' ∧ Gr w w' := (callsIn_wide (n := 5)).1 (sorted_set b n S w h hn)
set_option maxRecDepth 100000 in
set_option maxHeartbeats 2000000 in
theorem check_any (id ver : Int) (v vp vs : Value) (l : List En) (ps ss : List ByteArray) (w : World) (hv : Rws 4 enC v l w) (hp : StrsAt vp ps w) (hs : StrsAt vs ss w) (hl : l.length ≤ 9223372036854775806) (hlp : ps.length ≤ 10000)
    (hpl : ∀ x ∈ l, x.path.size ≤ 9223372036854775807) (hsp : ∀ x ∈ ps, x.size ≤ maxLen) (hss : ∀ x ∈ ss, x.size ≤ maxLen ∧ x.size ≤ 140737488355000) (hT : Tab w) :
    Calls Tryz.prog 16 #[.agg #[.int .i64 id, .int .i64 ver, v], vp, vs] w fun e w' => ∃ u, e = .returned u ∧ OwnL w.heap.size (checkD id ver l (ps.zip ss)) u w' ∧ Gr w w' := by
  obtain ⟨pv, cv, rfl⟩ := hv.shape
  obtain ⟨pp, cp, rfl⟩ := hp.shape
  obtain ⟨pq, cs, rfl⟩ := hs.shape
  have HV := Lib.hid hv
  have HP := Lib.hid hp
  have HS := Lib.hid hs
  have HT := Lib.hid hT
  have HSP := Lib.hid hsp
  have HSS := Lib.hid hss
  have HVa := Lib.hid (fun y (hg : Gr w y) => valid_any id ver _ l y (hv.gr hg) hl hpl)
  obtain ⟨B, hB⟩ : ∃ B, validD id ver l = B := ⟨_, rfl⟩
  rw [hB] at HVa
  have HB := Lib.hid hB
  obtain ⟨Z, hZ⟩ : ∃ Z, ps.zip ss = Z := ⟨_, rfl⟩
  have HZ := Lib.hid hZ
  rw [hZ]
  obtain ⟨bb, hbb⟩ : ∃ b, w.heap.size = b := ⟨_, rfl⟩
  have Hbb := Lib.hid hbb
  clear hv hp hs hT hsp hss hpl hB hZ hl
  go_enter Tryz.func16, Tryz.ntmps16
  go_wp2_with fail
  have hA := heap_alloc_new w (.cells #[.int .i64 id, .int .i64 ver, .slice pv l.length cv] 43)
  rw [hbb] at hA
  have HA := Lib.hid hA
  have HGA := Lib.hid (Gr.alloc w (.cells #[.int .i64 id, .int .i64 ver, .slice pv l.length cv] 43))
  clear hA
  refine (HVa.out _ HGA.out).mono ?_
  rintro e w1 ⟨rfl, hg1⟩
  have HG1 := Lib.hid (HGA.out.trans hg1)
  have HA1 := Lib.hid (hg1.block HA.out)
  have hsz1 : bb + 1 ≤ w1.heap.size := by have := (Array.getElem?_eq_some_iff.1 HA1.out).1; omega
  clear hg1 HGA HA HVa
  cases B with
  | false =>
    go_wp2_with fail
    go_ret
    refine ⟨_, rfl, ?_, HG1.out⟩
    unfold checkD; rw [HB.out]; exact Own.nil _ _ _
  | true =>
  obtain ⟨N, hN⟩ : ∃ N, Z.length = N := ⟨_, rfl⟩
  have hmin : min (ps.length : Int) (ss.length : Int) = (N : Int) := by rw [← hN, ← HZ.out, List.length_zip]; omega
  have HN := Lib.hid hN
  have hNp : N ≤ ps.length := by rw [← hN, ← HZ.out, List.length_zip]; omega
  have hNs : N ≤ ss.length := by rw [← hN, ← HZ.out, List.length_zip]; omega
  clear hN
  have hmm : ∀ (t : TypeId) (y : World), (Instr.makeMap t none).run Tryz.prog y = .ok (.map (some y.heap.size)) (y.alloc (.map #[] 0)) := fun t y => run_makeMap _ _
  go_wp2_with fail
  obtain ⟨bG, hbG⟩ : ∃ b, w1.heap.size = b := ⟨_, rfl⟩
  have HW2 := Lib.hid (GivAt.made w1)
  have HG2 := Lib.hid (HG1.out.trans (Gr.alloc w1 (.map #[] 0)))
  have HA2 := Lib.hid ((Gr.alloc w1 (.map #[] 0)).block HA1.out)
  have hbb2 : bb < bG := by omega
  rw [hbG] at HW2 ⊢
  clear HG1 HA1 hsz1 hbG hmin
  generalize w1.alloc (.map #[] 0) = w2 at HW2 HG2 HA2 ⊢
  go_loopw [26] (fun v26 W => ∃ k : Nat, k ≤ N ∧ v26 = .int .i64 (k : Int) ∧ Hid (GivAt bG k (givenD (Z.take k)) W) ∧ Hid (Gr w W) ∧ Hid (W.heap[bb]? = some (.cells #[.int .i64 id, .int .i64 ver, .slice pv l.length cv] 43 (0, 0)))) (fun v26 _ => N - (intOf v26).toNat)
  case atStart => exact ⟨0, Nat.zero_le _, rfl, HW2, HG2, HA2⟩
  clear HW2 HG2 HA2
  case round =>
    obtain ⟨k, hk, rfl, HW, HG, HA⟩ := hrel
    by_cases hlt : k < N
    · have ht : decide (k < N) = true := decide_eq_true hlt
      have ht' : decide ((k : Int) < (N : Int)) = true := decide_eq_true (by omega)
      obtain ⟨xp, hxp⟩ : ∃ x, ps[k]? = some x := ⟨_, List.getElem?_eq_getElem (by omega)⟩
      obtain ⟨xs, hxs⟩ : ∃ x, ss[k]? = some x := ⟨_, List.getElem?_eq_getElem (by omega)⟩
      have HSt := Lib.hid (given_step (show Z[k]? = some (xp, xs) by rw [← HZ.out, List.getElem?_zip_eq_some]; exact ⟨hxp, hxs⟩))
      have hps := HSP.out xp (List.mem_of_getElem? hxp)
      have hss := (HSS.out xs (List.mem_of_getElem? hxs)).1
      obtain ⟨gp, op, rfl, hcp⟩ : ∃ g off, pp = some ⟨g, off, none⟩ ∧ wr.cell? ⟨g, off + k, none⟩ = some (.string xp) := by
        rcases HP.out.gr HG.out with ⟨he, h0⟩ | ⟨g, off, cap, he, _, _, hc⟩
        · rw [h0] at hxp; exact absurd hxp (by simp)
        · injection he with e1 e2 e3
          exact ⟨g, off, e1, hc k xp hxp⟩
      obtain ⟨gq, oq, rfl, hcq⟩ : ∃ g off, pq = some ⟨g, off, none⟩ ∧ wr.cell? ⟨g, off + k, none⟩ = some (.string xs) := by
        rcases HS.out.gr HG.out with ⟨he, h0⟩ | ⟨g, off, cap, he, _, _, hc⟩
        · rw [h0] at hxs; exact absurd hxs (by simp)
        · injection he with e1 e2 e3
          exact ⟨g, off, e1, hc k xs hxs⟩
      have i0 : (0 : Int) ≤ (k : Int) := by omega
      have i1 : (k : Int) < (ps.length : Int) := by omega
      have i2 : (k : Int) < (ss.length : Int) := by omega
      have hlook := HW.out.look xp hps
      obtain ⟨G, hG⟩ : ∃ G, givenD (Z.take k) xp = G := ⟨_, rfl⟩
      rw [hG] at hlook
      have HGd := Lib.hid hG
      clear hxp hxs hG
      cases G with
      | some t =>
        have HW3 : Hid (GivAt bG (k + 1) (givenD (Z.take (k + 1))) wr) := Lib.hid (by
          have e : givenD (Z.take (k + 1)) = givenD (Z.take k) := by
            rw [HSt.out]; funext q
            cases hq : givenD (Z.take k) q with
            | some u => rfl
            | none =>
              simp only
              rw [if_neg (fun e => by rw [e, HGd.out] at hq; cases hq)]
          rw [e]; exact HW.out.more (Nat.le_succ k))
        clear HSt HGd HW
        go_wp2_with fail
        go_roundw
        case rel => exact ⟨k + 1, by omega, by go_num, HW3, HG, HA⟩
        case measure => simp [intOf]; omega
      | none =>
        have S1 : ∀ q : GrS wr.drew, q.w.cell? ⟨gp, op + k, none⟩ = some (.string xp) := fun q => q.h.cell (w := wr.drew) hcp
        have S2 : ∀ q : GrS wr.drew, q.w.cell? ⟨gq, oq + k, none⟩ = some (.string xs) := fun q => q.h.cell (w := wr.drew) hcq
        go_upto_region 9 with fail
        refine region_grow 9 98 (by kernel_rfl) rfl (by kernel_rfl) rfl rfl ?_
        simp only [List.take_succ_cons, List.take_zero, List.drop_succ_cons, List.drop_zero]
        refine seg 9 rfl rfl rfl rfl ?_
        simp only [List.take_succ_cons, List.take_zero, List.drop_succ_cons, List.drop_zero]
        repeat (go_big_quiet_step (fail))
        refine wpQuiet_nil ?_
        intro _
        refine grow_end0 rfl rfl ?_
        intro w3 hG
        have HG3 : Hid (Gr wr w3) := Lib.hid ((Gr.drew wr).trans hG)
        clear hG S1 S2 hlook hcp hcq
        obtain ⟨w4, hrun, hw4, hc4⟩ := (HW.out.gr HG3.out).put xp xs hps hss (by unfold maxLen; omega)
        have HW4 : Hid (GivAt bG (k + 1) (givenD (Z.take (k + 1))) w4) := Lib.hid (by
          have e : givenD (Z.take (k + 1)) = fun q => if q = xp then some xs else givenD (Z.take k) q := by
            rw [HSt.out]; funext q
            by_cases e : q = xp
            · subst e; simp only [HGd.out]
            · simp only [if_neg e]
              cases givenD (Z.take k) q <;> rfl
          rw [e]; exact hw4)
        have HG4 : Hid (Gr w w4) := Lib.hid (gr_step (HG.out.trans HG3.out) (Gr.refl _) hc4 (fun g e => by cases e; have := Hbb.out; omega))
        have HA4 := Lib.hid (hc4.block (HG3.out.block HA.out) (by simp; omega))
        clear hw4 hc4 HG3 HSt HGd HW HG HA
        go_wp2_with fail
        go_roundw
        case rel => exact ⟨k + 1, by omega, by go_num, HW4, HG4, HA4⟩
        case measure => simp [intOf]; omega
    · have ht : decide (k < N) = false := decide_eq_false hlt
      have ht' : decide ((k : Int) < (N : Int)) = false := decide_eq_false (by omega)
      obtain rfl : k = N := by omega
      have HWz : Hid (GivAt bG k (givenD Z) wr) := Lib.hid (by
        have h := HW.out
        rw [List.take_of_length_le (by rw [HN.out]; exact Nat.le_refl _)] at h; exact h)
      obtain ⟨bW, hbW⟩ : ∃ b, wr.heap.size = b := ⟨_, rfl⟩
      have hGW : bG < bW := by have := HWz.out.lt; omega
      have HS5 := Lib.hid (WrAt.made wr)
      have HG4 := Lib.hid (HG.out.trans (Gr.alloc wr (.map #[] 0)))
      have HA4 := Lib.hid ((Gr.alloc wr (.map #[] 0)).block HA.out)
      have hsz4 : (wr.alloc (.map #[] 0)).heap.size = bW + 1 := by rw [World.size_alloc, hbW]
      obtain ⟨w5, cnt, hrun, hrng, hcnt, hgr5, hsz5⟩ := (HWz.out.gr (Gr.alloc wr (.map #[] 0))).range
      rw [hsz4] at hrun hrng
      have HR5 := Lib.hid hrng
      have HW5 : Hid (WrAt bW 0 (fun p => (givenD Z p).isSome && !(fun p => (givenD Z p).isSome) p) w5) := Lib.hid (by
        rw [← hbW]; exact (HS5.out.gr hgr5).more (Nat.le_refl _) (fun p _ => by simp))
      have HG5 := Lib.hid (HG4.out.trans hgr5)
      have HA5 := Lib.hid (hgr5.block HA4.out)
      clear HW HN HS5 HG4 HA4 hrng hgr5 hsz5 HWz HG HA ht ht' hlt hk
      go_wp2_with fail
      clear hrun hsz4
      go_loopw [53] (fun v53 W => ∃ (left : ByteArray → Bool) (cnt m : Nat), m + cnt ≤ k ∧ Hid (GivRng bG (bW + 1) k (givenD Z) left cnt W) ∧ Hid (WrAt bW m (fun p => (givenD Z p).isSome && !left p) W) ∧ Hid (Gr w W) ∧ Hid (W.heap[bb]? = some (.cells #[.int .i64 id, .int .i64 ver, .slice pv l.length cv] 43 (0, 0)))) (fun _ W => W.rangeLeft bG (bW + 1))
      case atStart => exact ⟨_, cnt, 0, by omega, HR5, HW5, HG5, HA5⟩
      clear HR5 HW5 HG5 HA5
      case round =>
        obtain ⟨left, cnt', m, hm, HR, HW, HG, HA⟩ := hrel
        rcases HR.out.next 0 with ⟨-, hl0, hrun⟩ | ⟨xp, xs, w6, cnt2, hxp, hlx, hrun, hR6, hlt, hc6, -, hen⟩
        · have HSw : Hid (WrAt bW k (wrS Z (l.take 0)) wr) := Lib.hid (HW.out.more (by omega) (fun p hp => by
            show ((givenD Z p).isSome && !left p) = (givenD Z p).isSome
            rw [hl0 p hp]; simp))
          have HGv := Lib.hid HR.out.giv
          have HBW := Lib.hid HW.out.lt
          obtain ⟨k0, k1, k2⟩ := row3 HA.out
          clear HW HR hl0
          go_wp2_with fail
          clear hrun k0 k1 k2
          go_loopw [62] (fun v62 W => ∃ j : Nat, j ≤ l.length ∧ v62 = .int .i64 (j : Int) ∧ Hid (GivAt bG k (givenD Z) W) ∧ Hid (WrAt bW (k + j) (wrS Z (l.take j)) W) ∧ Hid (Gr w W) ∧ Hid (bW < W.heap.size)) (fun v62 _ => l.length - (intOf v62).toNat)
          case atStart => exact ⟨0, Nat.zero_le _, rfl, HGv, HSw, HG, HBW⟩
          clear HGv HSw HG HA HBW
          case round =>
            obtain ⟨j, hj, rfl, HGv, HW, HG, HBW⟩ := hrel
            have hlen64 : l.length ≤ 64 := (valid_head HB.out).2.1
            by_cases hlt : j < l.length
            · have ht : decide (j < l.length) = true := decide_eq_true hlt
              have ht' : decide ((j : Int) < (l.length : Int)) = true := decide_eq_true (by omega)
              obtain ⟨x, hx⟩ : ∃ x, l[j]? = some x := ⟨_, List.getElem?_eq_getElem hlt⟩
              have hpx : x.path.size ≤ maxLen := Nat.le_trans ((valid_head HB.out).2.2.2.1 x (List.mem_of_getElem? hx)).path (by unfold maxLen; decide)
              have HSt := Lib.hid (wrS_step (Z := Z) hx)
              have HBx : Hid (badE Z x = match givenD Z x.path with | none => true | some s => !(decide ((s.size : Int) = x.len) && decide (sha s = x.dig))) := Lib.hid rfl
              obtain ⟨g, off, rfl, hlc, hcy⟩ := (HV.out.gr HG.out).at_ hx
              have y0 := hcy 0 _ rfl
              have y1 := hcy 1 _ rfl
              have y2 := hcy 2 _ rfl
              have y3 := hcy 3 _ rfl
              rw [Nat.add_zero] at y0
              rw [← Nat.add_assoc] at y1 y2 y3
              obtain ⟨xb, hxb⟩ : ∃ b, badE Z x = b := ⟨_, rfl⟩
              rw [hxb] at HSt HBx
              obtain ⟨pa, f, n, d⟩ := x
              simp only at y0 y1 y2 y3 HSt HBx hpx
              clear hcy hx hxb
              go_upto_region 19 with fail
              refine wp_gen (F := fun z => Gr wr z ∧ z.heap[wr.heap.size]? = some (.cells #[.string pa, .int .i64 f, .int .i64 n, .string d] 51 (0, 0))) ⟨Gr.alloc _ _, heap_alloc_new _ _⟩ ?_
              rintro wB ⟨hgB, hrB⟩
              obtain ⟨b0, b1, b2, b3⟩ := row4 hrB
              generalize wr.heap.size = be at b0 b1 b2 b3 hrB ⊢
              have HGB := Lib.hid (HG.out.trans hgB)
              have HGvB := Lib.hid (HGv.out.gr hgB)
              have HWB := Lib.hid (HW.out.gr hgB)
              have HBB := Lib.hid (Nat.lt_of_lt_of_le HBW.out hgB.size)
              have HrB := Lib.hid hrB
              clear hgB hrB y0 y1 y2 y3 HGv HW HG HBW
              have hlook := HGvB.out.look pa hpx
              obtain ⟨G, hGG⟩ : ∃ G, givenD Z pa = G := ⟨_, rfl⟩
              rw [hGG] at hlook HBx
              have HSS2 := Lib.hid (fun (s : ByteArray) (hs : givenD Z pa = some s) => show s.size ≤ 140737488355000 from by
                unfold givenD at hs
                rw [Option.map_eq_some_iff] at hs
                obtain ⟨z, hz, rfl⟩ := hs
                have hz := List.mem_of_find?_eq_some hz
                rw [← HZ.out] at hz
                exact (HSS.out z.2 (List.of_mem_zip hz).2).2)
              cases G with
              | none =>
                obtain rfl : xb = true := HBx.out
                clear hGG HSS2
                go_upto_region 20 with fail
                refine region_grow 15 98 (by kernel_rfl) rfl (by kernel_rfl) rfl rfl ?_
                simp only [List.take_succ_cons, List.take_zero, List.drop_succ_cons, List.drop_zero]
                refine seg 10 rfl rfl rfl rfl ?_
                simp only [List.take_succ_cons, List.take_zero, List.drop_succ_cons, List.drop_zero]
                repeat (go_big_quiet_step (fail))
                refine wpQuiet_nil ?_
                intro _
                refine grow_skip rfl rfl rfl rfl ?_
                simp only [Act.put, List.setIfInBounds_toArray, List.set_cons_zero, List.set_cons_succ]
                refine seg 4 rfl rfl rfl rfl ?_
                simp only [List.take_succ_cons, List.take_zero, List.drop_succ_cons, List.drop_zero]
                repeat (go_big_quiet_step (fail))
                refine wpQuiet_nil ?_
                intro _
                refine grow_end0 rfl rfl ?_
                intro w8 hG
                have HG8 : Hid (Gr wB w8) := Lib.hid ((Gr.drew wB).trans hG)
                clear hG b0 b1 b2 b3 hlook
                obtain ⟨d0, d1, d2, d3⟩ := row4 (HG8.out.block HrB.out)
                obtain ⟨w9, hrun9, hw9, hc9⟩ := (HWB.out.gr HG8.out).put pa hpx (by unfold maxLen; omega)
                have HW9 : Hid (WrAt bW (k + (j + 1)) (wrS Z (l.take (j + 1))) w9) := Lib.hid (by
                  rw [HSt.out]
                  exact hw9.more (by omega) (fun p _ => by
                    by_cases e : p = pa
                    · simp [e]
                    · simp [e]))
                have HG9 : Hid (Gr w w9) := Lib.hid (gr_step (HGB.out.trans HG8.out) (Gr.refl _) hc9 (fun g e => by cases e; have := Hbb.out; omega))
                have HGv9 := Lib.hid ((HGvB.out.gr HG8.out).keep hc9 (by simp; omega))
                have HB9 := Lib.hid (Nat.lt_of_lt_of_le HBB.out (Nat.le_trans HG8.out.size hc9.size))
                clear hw9 hc9 HG8 HrB HWB HGvB HBB HGB HSt HBx
                go_wp2_with fail
                go_roundw
                case rel => exact ⟨j + 1, by omega, by go_num, HGv9, HW9, HG9, HB9⟩
                case measure => simp [intOf]; omega
              | some s =>
                have hs8 := HSS2.out s hGG
                clear hGG HSS2
                have S2 : ∀ q : GrS wB.drew, q.w.cell? ⟨be, 2, none⟩ = some (.int .i64 n) := fun q => q.h.cell (w := wB.drew) b2
                have S3 : ∀ q : GrS wB.drew, q.w.cell? ⟨be, 3, none⟩ = some (.string d) := fun q => q.h.cell (w := wB.drew) b3
                by_cases hc1 : (s.size : Int) = n
                · have t1 : ((s.size : Int) == n) = true := by rw [hc1]; exact beq_self_eq_true n
                  have HSum := Lib.hid (fun y (ht : Tab y) => sum_any s y hs8 ht)
                  obtain ⟨C2, hC2⟩ : ∃ C, decide (sha s = d) = C := ⟨_, rfl⟩
                  have t2 : ((sha s).toList == d.toList) = C2 := by rw [beq_str, hC2]
                  obtain rfl : xb = !C2 := by rw [HBx.out]; simp only; rw [decide_eq_true hc1, hC2, Bool.true_and]
                  clear hC2 hc1
                  go_upto_region 20 with fail
                  refine region_grow 15 98 (by kernel_rfl) rfl (by kernel_rfl) rfl rfl ?_
                  simp only [List.take_succ_cons, List.take_zero, List.drop_succ_cons, List.drop_zero]
                  refine seg 10 rfl rfl rfl rfl ?_
                  simp only [List.take_succ_cons, List.take_zero, List.drop_succ_cons, List.drop_zero]
                  repeat (go_big_quiet_step (fail))
                  refine wpQuiet_nil ?_
                  intro _
                  refine grow_det (v := .string (sha s)) rfl rfl rfl rfl rfl ?_ ?_
                  · intro w1 hG
                    go_simp
                    refine (HSum.out w1 (HT.out.gr (HGB.out.trans ((Gr.drew wB).trans hG)))).mono ?_
                    rintro e w' ⟨rfl, hb⟩
                    exact ⟨rfl, hb⟩
                  simp only [Act.put, List.setIfInBounds_toArray, List.set_cons_zero, List.set_cons_succ]
                  refine seg 4 rfl rfl rfl rfl ?_
                  simp only [List.take_succ_cons, List.take_zero, List.drop_succ_cons, List.drop_zero]
                  repeat (go_big_quiet_step (fail))
                  refine wpQuiet_nil ?_
                  intro _
                  refine grow_end0 rfl rfl ?_
                  intro w8 hG
                  have HG8 : Hid (Gr wB w8) := Lib.hid ((Gr.drew wB).trans hG)
                  clear S2 S3 t1 t2 HSum
                  cases C2 with
                  | true =>
                    clear hG b0 b1 b2 b3 hlook
                    obtain ⟨d0, d1, d2, d3⟩ := row4 (HG8.out.block HrB.out)
                    obtain ⟨w9, hrun9, hw9, hc9⟩ := (HWB.out.gr HG8.out).drop pa hpx 0
                    have HW9 : Hid (WrAt bW (k + (j + 1)) (wrS Z (l.take (j + 1))) w9) := Lib.hid (by
                      rw [HSt.out]
                      exact hw9.more (by omega) (fun p _ => by
                        by_cases e : p = pa
                        · simp [e]
                        · simp [e]))
                    have HG9 : Hid (Gr w w9) := Lib.hid (gr_step (HGB.out.trans HG8.out) (Gr.refl _) hc9 (fun g e => by cases e; have := Hbb.out; omega))
                    have HGv9 := Lib.hid ((HGvB.out.gr HG8.out).keep hc9 (by simp; omega))
                    have HB9 := Lib.hid (Nat.lt_of_lt_of_le HBB.out (Nat.le_trans HG8.out.size hc9.size))
                    clear hw9 hc9 HG8 HrB HWB HGvB HBB HGB HSt HBx
                    go_wp2_with fail
                    go_roundw
                    case rel => exact ⟨j + 1, by omega, by go_num, HGv9, HW9, HG9, HB9⟩
                    case measure => simp [intOf]; omega
                  | false =>
                    clear hG b0 b1 b2 b3 hlook
                    obtain ⟨d0, d1, d2, d3⟩ := row4 (HG8.out.block HrB.out)
                    obtain ⟨w9, hrun9, hw9, hc9⟩ := (HWB.out.gr HG8.out).put pa hpx (by unfold maxLen; omega)
                    have HW9 : Hid (WrAt bW (k + (j + 1)) (wrS Z (l.take (j + 1))) w9) := Lib.hid (by
                      rw [HSt.out]
                      exact hw9.more (by omega) (fun p _ => by
                        by_cases e : p = pa
                        · simp [e]
                        · simp [e]))
                    have HG9 : Hid (Gr w w9) := Lib.hid (gr_step (HGB.out.trans HG8.out) (Gr.refl _) hc9 (fun g e => by cases e; have := Hbb.out; omega))
                    have HGv9 := Lib.hid ((HGvB.out.gr HG8.out).keep hc9 (by simp; omega))
                    have HB9 := Lib.hid (Nat.lt_of_lt_of_le HBB.out (Nat.le_trans HG8.out.size hc9.size))
                    clear hw9 hc9 HG8 HrB HWB HGvB HBB HGB HSt HBx
                    go_wp2_with fail
                    go_roundw
                    case rel => exact ⟨j + 1, by omega, by go_num, HGv9, HW9, HG9, HB9⟩
                    case measure => simp [intOf]; omega
                · have t1 : ((s.size : Int) == n) = false := by rw [beq_eq_false_iff_ne]; exact hc1
                  obtain rfl : xb = true := by rw [HBx.out]; simp only; rw [decide_eq_false hc1]; rfl
                  clear hc1
                  go_upto_region 20 with fail
                  refine region_grow 15 98 (by kernel_rfl) rfl (by kernel_rfl) rfl rfl ?_
                  simp only [List.take_succ_cons, List.take_zero, List.drop_succ_cons, List.drop_zero]
                  refine seg 10 rfl rfl rfl rfl ?_
                  simp only [List.take_succ_cons, List.take_zero, List.drop_succ_cons, List.drop_zero]
                  repeat (go_big_quiet_step (fail))
                  refine wpQuiet_nil ?_
                  intro _
                  refine grow_skip rfl rfl rfl rfl ?_
                  simp only [Act.put, List.setIfInBounds_toArray, List.set_cons_zero, List.set_cons_succ]
                  refine seg 4 rfl rfl rfl rfl ?_
                  simp only [List.take_succ_cons, List.take_zero, List.drop_succ_cons, List.drop_zero]
                  repeat (go_big_quiet_step (fail))
                  refine wpQuiet_nil ?_
                  intro _
                  refine grow_end0 rfl rfl ?_
                  intro w8 hG
                  have HG8 : Hid (Gr wB w8) := Lib.hid ((Gr.drew wB).trans hG)
                  clear S2 S3 t1
                  clear hG b0 b1 b2 b3 hlook
                  obtain ⟨d0, d1, d2, d3⟩ := row4 (HG8.out.block HrB.out)
                  obtain ⟨w9, hrun9, hw9, hc9⟩ := (HWB.out.gr HG8.out).put pa hpx (by unfold maxLen; omega)
                  have HW9 : Hid (WrAt bW (k + (j + 1)) (wrS Z (l.take (j + 1))) w9) := Lib.hid (by
                    rw [HSt.out]
                    exact hw9.more (by omega) (fun p _ => by
                      by_cases e : p = pa
                      · simp [e]
                      · simp [e]))
                  have HG9 : Hid (Gr w w9) := Lib.hid (gr_step (HGB.out.trans HG8.out) (Gr.refl _) hc9 (fun g e => by cases e; have := Hbb.out; omega))
                  have HGv9 := Lib.hid ((HGvB.out.gr HG8.out).keep hc9 (by simp; omega))
                  have HB9 := Lib.hid (Nat.lt_of_lt_of_le HBB.out (Nat.le_trans HG8.out.size hc9.size))
                  clear hw9 hc9 HG8 HrB HWB HGvB HBB HGB HSt HBx
                  go_wp2_with fail
                  go_roundw
                  case rel => exact ⟨j + 1, by omega, by go_num, HGv9, HW9, HG9, HB9⟩
                  case measure => simp [intOf]; omega
            · have ht : decide (j < l.length) = false := decide_eq_false hlt
              have ht' : decide ((j : Int) < (l.length : Int)) = false := decide_eq_false (by omega)
              obtain rfl : j = l.length := by omega
              have HWe : Hid (WrAt bW (k + l.length) (wrS Z l) wr) := Lib.hid (by
                have h := HW.out
                rw [List.take_of_length_le (Nat.le_refl _)] at h; exact h)
              have HSo := Lib.hid (sorted_call bW (k + l.length) (wrS Z l) wr HWe.out (by omega))
              clear HW
              go_wp2_with fail
              refine (keys_call (some bW) wr).mono ?_
              rintro e w8 ⟨rfl, rfl⟩
              go_wp2_with fail
              refine HSo.out.mono ?_
              rintro e w9 ⟨u, L, rfl, hasc, hmem, hown, hg9⟩
              have HOw := Lib.hid (hown.mono HG.out.size)
              have HG9 := Lib.hid (HG.out.trans hg9)
              have HL : Hid (L = checkD id ver l Z) := Lib.hid (by
                unfold checkD
                rw [HB.out, if_pos rfl]
                refine chk_eq hasc (fun p => ?_)
                rw [hmem p, ← wrS_iff Z l.length l rfl (asc_ne (by have h := HB.out; unfold validD at h; simp only [Bool.and_eq_true] at h; exact h.2.2)) p]
                refine ⟨fun h => h.2, fun h => ⟨?_, h⟩⟩
                rcases (wrS_iff Z l.length l rfl (asc_ne (by have h := HB.out; unfold validD at h; simp only [Bool.and_eq_true] at h; exact h.2.2)) p).1 h with ⟨x, hx, -, rfl⟩ | ⟨⟨z, hz, rfl⟩, -⟩
                · exact Nat.le_trans ((valid_head HB.out).2.2.2.1 x hx).path (by unfold maxLen; decide)
                · rw [← HZ.out] at hz
                  exact HSP.out z.1 (List.of_mem_zip hz).1)
              clear hasc hmem hown hg9 HSo
              go_wp2_with fail
              go_ret
              exact ⟨u, rfl, by rw [← HL.out]; exact HOw.out, HG9.out⟩
        · have hisS := HR.out.has hxp hlx
          obtain ⟨w7, hrun7, hw7, hc7⟩ := (HW.out.keep hc6 (by simp)).put xp hxp (by unfold maxLen; omega)
          have HW7 : Hid (WrAt bW (m + 1) (fun p => (givenD Z p).isSome && !(left p && !decide (p = xp))) w7) := Lib.hid (hw7.more (Nat.le_refl _) (fun p _ => by
            by_cases e : p = xp
            · subst e; simp [hisS]
            · simp [e]))
          have HR7 := Lib.hid (hR6.keep hc7 (by simp; omega) (by simp))
          have HG7 : Hid (Gr w w7) := Lib.hid (gr_step (gr_step HG.out (Gr.refl _) hc6 (fun g e => by cases e; have := Hbb.out; omega)) (Gr.refl _) hc7 (fun g e => by cases e; have := Hbb.out; omega))
          have HA7 := Lib.hid (hc7.block (hc6.block HA.out (by simp; omega)) (by simp; omega))
          have hle1 := HR.out.rest
          have hle2 := HR7.out.rest
          clear HW HR hw7 hc7 hc6 hR6 hisS hlx HG HA
          go_wp2_with fail
          go_roundw
          case rel => exact ⟨_, cnt2, m + 1, by omega, HR7, HW7, HG7, HA7⟩
          case measure => rw [hle1, hle2]; exact hlt
end
end Go.Proofs.YtaoggehdkddgeaaGreatDoor
