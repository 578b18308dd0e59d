/- The values of proofs and of extensions, as plain functions on lists; what is accepted, and what two accepted proofs have in common. No program in sight. -/
import Derived.Test.YtbkhkpcnclhoiaaDoorStack
namespace Go.Proofs.YtbkhkpcnclhoiaaDoor

theorem cat2_inj {m : UInt8} {a b c d : ByteArray} (h : cat m [a, b] = cat m [c, d]) (hs : a.size = c.size) : a = c ∧ b = d := by
  have h1 := congrArg (fun x : ByteArray => x.data.toList) h
  simp only [cat, List.flatMap_cons, List.flatMap_nil, List.append_nil, List.cons.injEq, true_and] at h1
  obtain ⟨h2, h3⟩ := List.append_inj h1 (by simpa using hs)
  exact ⟨ByteArray.ext (Array.toList_inj.1 h2), ByteArray.ext (Array.toList_inj.1 h3)⟩
theorem cat1_inj {m : UInt8} {a c : ByteArray} (h : cat m [a] = cat m [c]) : a = c := by
  have h1 := congrArg (fun x : ByteArray => x.data.toList) h
  simp only [cat, List.flatMap_cons, List.flatMap_nil, List.append_nil, List.cons.injEq, true_and] at h1
  exact ByteArray.ext (Array.toList_inj.1 h1)

/-! proofs: the list's last element comes first -/
theorem valR_size {s : ByteArray} : ∀ {r : List ByteArray} {n i : Nat} {v : ByteArray}, valR s r n i = some v → v.size = 32 := by
  intro r
  cases r with
  | nil =>
    intro n i v h
    rw [valR] at h
    split at h
    · cases h; exact leafD_size _
    · cases h
  | cons x r =>
    intro n i v h
    rw [valR] at h
    split at h
    · cases h
    split at h
    · obtain ⟨u, _, rfl⟩ := Option.map_eq_some_iff.1 h; exact nodeD_size _ _
    · obtain ⟨u, _, rfl⟩ := Option.map_eq_some_iff.1 h; exact nodeD_size _ _
theorem valR_len {s t : ByteArray} : ∀ {r q : List ByteArray} {n i : Nat} {v u : ByteArray}, valR s r n i = some v → valR t q n i = some u → r.length = q.length := by
  intro r
  induction r with
  | nil =>
    intro q n i v u h k
    rw [valR] at h
    split at h
    · rename_i hn
      cases q with
      | nil => rfl
      | cons y q => rw [valR, if_pos hn] at k; cases k
    · cases h
  | cons x r ih =>
    intro q n i v u h k
    rw [valR] at h
    split at h
    · cases h
    rename_i hn
    cases q with
    | nil => rw [valR, if_neg hn] at k; cases k
    | cons y q =>
      rw [valR, if_neg hn] at k
      split at h
      · rename_i hi
        rw [if_pos hi] at k
        obtain ⟨v', hv, _⟩ := Option.map_eq_some_iff.1 h
        obtain ⟨u', hu, _⟩ := Option.map_eq_some_iff.1 k
        rw [List.length_cons, List.length_cons, ih hv hu]
      · rename_i hi
        rw [if_neg hi] at k
        obtain ⟨v', hv, _⟩ := Option.map_eq_some_iff.1 h
        obtain ⟨u', hu, _⟩ := Option.map_eq_some_iff.1 k
        rw [List.length_cons, List.length_cons, ih hv hu]
/-- the proof of an entry is accepted -/
theorem proof_val : ∀ (f : Nat) (l : List ByteArray) (i : Nat) (s : ByteArray), l.length ≤ f → l[i]? = some s → valR s (proofD l i).reverse l.length i = some (rootD l) := by
  intro f
  induction f with
  | zero => intro l i s h hs; have : l = [] := List.eq_nil_of_length_eq_zero (by omega); subst this; cases hs
  | succ f ih =>
    intro l i s h hs
    have hi : i < l.length := (List.getElem?_eq_some_iff.1 hs).1
    by_cases h1 : l.length = 1
    · obtain ⟨x, rfl⟩ := List.length_eq_one_iff.1 h1
      have : i = 0 := by simp at hi; omega
      subst this
      simp at hs; subst hs
      rw [proofD_one _ _ (by simp), List.reverse_nil, valR, if_pos (by simp), rootD_one]
    · have hl := lp_spec l.length (by omega)
      have hp := lp_pos l.length
      rw [proofD_split l i (by omega), rootD_split l (by omega)]
      by_cases hlt : i < lp l.length
      · rw [if_pos hlt, List.reverse_append, List.reverse_cons, List.reverse_nil, List.nil_append, List.cons_append, List.nil_append, valR, if_neg h1, if_pos hlt]
        have ht : (l.take (lp l.length)).length = lp l.length := by rw [List.length_take]; omega
        have := ih (l.take (lp l.length)) i s (by omega) (by rw [List.getElem?_take, if_pos hlt]; exact hs)
        rw [ht] at this
        rw [this]; rfl
      · rw [if_neg hlt, List.reverse_append, List.reverse_cons, List.reverse_nil, List.nil_append, List.cons_append, List.nil_append, valR, if_neg h1, if_neg hlt]
        have ht : (l.drop (lp l.length)).length = l.length - lp l.length := List.length_drop
        have := ih (l.drop (lp l.length)) (i - lp l.length) s (by omega) (by rw [List.getElem?_drop]; rw [show lp l.length + (i - lp l.length) = i by omega]; exact hs)
        rw [ht] at this
        rw [this]; rfl
theorem proof_all : ∀ (f : Nat) (l : List ByteArray) (i : Nat), l.length ≤ f → ∀ x ∈ proofD l i, x.size = 32 := by
  intro f
  induction f with
  | zero => intro l i h x hx; rw [proofD_one _ _ (by omega)] at hx; cases hx
  | succ f ih =>
    intro l i h x hx
    by_cases h1 : l.length ≤ 1
    · rw [proofD_one _ _ h1] at hx; cases hx
    · have hl := lp_spec l.length (by omega)
      have hp := lp_pos l.length
      rw [proofD_split l i (by omega)] at hx
      split at hx
      · rcases List.mem_append.1 hx with hx | hx
        · exact ih _ _ (by rw [List.length_take]; omega) x hx
        · simp at hx; subst hx; exact rootD_size _
      · rcases List.mem_append.1 hx with hx | hx
        · exact ih _ _ (by rw [List.length_drop]; omega) x hx
        · simp at hx; subst hx; exact rootD_size _
/-- binary digits -/
def digits (n : Nat) : Nat := if n = 0 then 0 else Nat.log2 n + 1
theorem proof_short : ∀ (k : Nat) (l : List ByteArray) (i : Nat), l.length ≤ 2 ^ k → (proofD l i).length ≤ k := by
  intro k
  induction k with
  | zero => intro l i h; rw [proofD_one _ _ (by simpa using h)]; simp
  | succ k ih =>
    intro l i h
    by_cases h1 : l.length ≤ 1
    · rw [proofD_one _ _ h1]; simp
    · have hl := lp_spec l.length (by omega)
      have hp := lp_pos l.length
      have hle : lp l.length ≤ 2 ^ k := by
        unfold lp
        refine Nat.pow_le_pow_right (by decide) ?_
        have : Nat.log2 (l.length - 1) < k + 1 := (Nat.log2_lt (by omega)).2 (by omega)
        omega
      rw [proofD_split l i (by omega)]
      rw [Nat.pow_succ] at h
      split
      · rw [List.length_append, List.length_singleton]
        have := ih (l.take (lp l.length)) i (by rw [List.length_take]; omega)
        omega
      · rw [List.length_append, List.length_singleton]
        have := ih (l.drop (lp l.length)) (i - lp l.length) (by rw [List.length_drop]; omega)
        omega

/-- the strings of which the sum is computed for a proof, from the root on, and the value -/
def wayR (s : ByteArray) : List ByteArray → Nat → Nat → List ByteArray × ByteArray
  | [], _, _ => ([cat 0 [s]], leafD s)
  | x :: r, n, i => if n ≤ 1 then ([cat 0 [s]], leafD s) else if i < lp n then (cat 1 [(wayR s r (lp n) i).2, x] :: (wayR s r (lp n) i).1, nodeD (wayR s r (lp n) i).2 x)
      else (cat 1 [x, (wayR s r (n - lp n) (i - lp n)).2] :: (wayR s r (n - lp n) (i - lp n)).1, nodeD x (wayR s r (n - lp n) (i - lp n)).2)
theorem wayR_low (s x : ByteArray) (r : List ByteArray) {n i : Nat} (hn : 1 < n) (hi : i < lp n) : wayR s (x :: r) n i = (cat 1 [(wayR s r (lp n) i).2, x] :: (wayR s r (lp n) i).1, nodeD (wayR s r (lp n) i).2 x) := by
  rw [wayR, if_neg (by omega), if_pos hi]
theorem wayR_high (s x : ByteArray) (r : List ByteArray) {n i : Nat} (hn : 1 < n) (hi : ¬ i < lp n) : wayR s (x :: r) n i = (cat 1 [x, (wayR s r (n - lp n) (i - lp n)).2] :: (wayR s r (n - lp n) (i - lp n)).1, nodeD x (wayR s r (n - lp n) (i - lp n)).2) := by
  rw [wayR, if_neg (by omega), if_neg hi]
theorem wayR_val {s : ByteArray} : ∀ {r : List ByteArray} {n i : Nat} {v : ByteArray}, i < n → valR s r n i = some v → (wayR s r n i).2 = v := by
  intro r
  induction r with
  | nil =>
    intro n i v _ h
    rw [valR] at h
    split at h
    · cases h; rfl
    · cases h
  | cons x r ih =>
    intro n i v hin h
    rw [valR] at h
    split at h
    · cases h
    rename_i hn
    have hl := lp_spec n (by omega)
    rw [wayR, if_neg (by omega)]
    split at h
    · rename_i hi
      obtain ⟨u, hu, rfl⟩ := Option.map_eq_some_iff.1 h
      rw [if_pos hi, ih hi hu]
    · rename_i hi
      obtain ⟨u, hu, rfl⟩ := Option.map_eq_some_iff.1 h
      rw [if_neg hi, ih (by omega) hu]
/-- two different strings with the same place in two lists have the same sum -/
def collD : List ByteArray → List ByteArray → Bool
  | a :: l, b :: m => (decide (a ≠ b) && decide (sha a = sha b)) || collD l m
  | _, _ => false
theorem collD_head {a b : ByteArray} {l m : List ByteArray} (h : a ≠ b) (e : sha a = sha b) : collD (a :: l) (b :: m) = true := by
  rw [collD, Bool.or_eq_true]
  exact .inl (by rw [Bool.and_eq_true]; exact ⟨decide_eq_true h, decide_eq_true e⟩)
theorem collD_tail {a b : ByteArray} {l m : List ByteArray} (h : collD l m = true) : collD (a :: l) (b :: m) = true := by
  rw [collD, Bool.or_eq_true]; exact .inr h
theorem node_part {a b c d : ByteArray} (e : nodeD a b = nodeD c d) (hs : a.size = c.size) {l m : List ByteArray} (k : a = c → b = d → collD l m = true) : collD (cat 1 [a, b] :: l) (cat 1 [c, d] :: m) = true := by
  by_cases h : cat 1 [a, b] = cat 1 [c, d]
  · obtain ⟨h1, h2⟩ := cat2_inj h hs
    exact collD_tail (k h1 h2)
  · exact collD_head h e
theorem binding {s t : ByteArray} (hst : s ≠ t) : ∀ {r q : List ByteArray} {n i : Nat} {v : ByteArray}, i < n → (∀ x ∈ r, x.size = 32) → (∀ x ∈ q, x.size = 32) → valR s r n i = some v → valR t q n i = some v →
    collD (wayR s r n i).1 (wayR t q n i).1 = true := by
  intro r
  induction r with
  | nil =>
    intro q n i v hin _ _ h k
    have hq := valR_len h k
    have : q = [] := List.eq_nil_of_length_eq_zero (by simpa using hq.symm)
    subst this
    rw [valR] at h k
    split at h
    · rename_i hn
      rw [if_pos hn] at k
      cases h
      injection k with k
      exact collD_head (fun e => hst (cat1_inj e)) k.symm
    · cases h
  | cons x r ih =>
    intro q n i v hin hr hq h k
    cases q with
    | nil => have := valR_len h k; simp at this
    | cons y q =>
      rw [valR] at h k
      split at h
      · cases h
      rename_i hn
      rw [if_neg hn] at k
      have hl := lp_spec n (by omega)
      have hx := hr x (List.mem_cons_self ..)
      have hy := hq y (List.mem_cons_self ..)
      have hr' := fun z hz => hr z (List.mem_cons_of_mem x hz)
      have hq' := fun z hz => hq z (List.mem_cons_of_mem y hz)
      split at h
      · rename_i hi
        rw [if_pos hi] at k
        obtain ⟨u, hu, rfl⟩ := Option.map_eq_some_iff.1 h
        obtain ⟨u', hu', e⟩ := Option.map_eq_some_iff.1 k
        rw [wayR_low s x r (by omega) hi, wayR_low t y q (by omega) hi, wayR_val hi hu, wayR_val hi hu']
        refine node_part e.symm (by rw [valR_size hu, valR_size hu']) (fun h1 _ => ?_)
        subst h1
        exact ih hi hr' hq' hu hu'
      · rename_i hi
        rw [if_neg hi] at k
        obtain ⟨u, hu, rfl⟩ := Option.map_eq_some_iff.1 h
        obtain ⟨u', hu', e⟩ := Option.map_eq_some_iff.1 k
        rw [wayR_high s x r (by omega) hi, wayR_high t y q (by omega) hi, wayR_val (by omega) hu, wayR_val (by omega) hu']
        refine node_part e.symm (by rw [hx, hy]) (fun _ h1 => ?_)
        subst h1
        exact ih (by omega) hr' hq' hu hu'

/-! extensions -/
def extF : Nat → List ByteArray → Nat → Bool → List ByteArray
  | 0, _, _, _ => []
  | f + 1, l, m, w => if l.length ≤ m then (if w then [] else [rootD l]) else if m ≤ lp l.length then extF f (l.take (lp l.length)) m w ++ [rootD (l.drop (lp l.length))]
      else extF f (l.drop (lp l.length)) (m - lp l.length) false ++ [rootD (l.take (lp l.length))]
/-- the extension of the first m entries, m from 1 on -/
def extD (l : List ByteArray) (m : Nat) (w : Bool) : List ByteArray := extF (l.length + 1) l m w
theorem extF_fuel : ∀ (f g : Nat) (l : List ByteArray) (m : Nat) (w : Bool), 0 < m → l.length < f → l.length < g → extF f l m w = extF g l m w := by
  intro f
  induction f with
  | zero => intro g l m w _ h; omega
  | succ f ih =>
    intro g l m w hm hf hg
    cases g with
    | zero => omega
    | succ g =>
      rw [extF, extF]
      by_cases h1 : l.length ≤ m
      · rw [if_pos h1, if_pos h1]
      · rw [if_neg h1, if_neg h1]
        have hs := lp_spec l.length (by omega)
        have hp := lp_pos l.length
        by_cases h2 : m ≤ lp l.length
        · rw [if_pos h2, if_pos h2, ih g (l.take (lp l.length)) m w hm (by rw [List.length_take]; omega) (by rw [List.length_take]; omega)]
        · rw [if_neg h2, if_neg h2, ih g (l.drop (lp l.length)) _ false (by omega) (by rw [List.length_drop]; omega) (by rw [List.length_drop]; omega)]
theorem extD_end (l : List ByteArray) (m : Nat) (w : Bool) (h : l.length ≤ m) : extD l m w = if w then [] else [rootD l] := by
  unfold extD; rw [extF, if_pos h]
theorem extD_low (l : List ByteArray) (m : Nat) (w : Bool) (hm : 0 < m) (h : m < l.length) (h2 : m ≤ lp l.length) : extD l m w = extD (l.take (lp l.length)) m w ++ [rootD (l.drop (lp l.length))] := by
  have hs := lp_spec l.length (by omega)
  conv => lhs; unfold extD
  rw [extF, if_neg (by omega), if_pos h2]
  rw [extD, extF_fuel l.length ((l.take (lp l.length)).length + 1) _ _ _ hm (by rw [List.length_take]; omega) (by omega)]
theorem extD_high (l : List ByteArray) (m : Nat) (w : Bool) (h : m < l.length) (h2 : lp l.length < m) : extD l m w = extD (l.drop (lp l.length)) (m - lp l.length) false ++ [rootD (l.take (lp l.length))] := by
  have hs := lp_spec l.length (by omega)
  have hp := lp_pos l.length
  conv => lhs; unfold extD
  rw [extF, if_neg (by omega), if_neg (by omega)]
  rw [extD, extF_fuel l.length ((l.drop (lp l.length)).length + 1) _ _ _ (by omega) (by rw [List.length_drop]; omega) (by omega)]
theorem ext_all : ∀ (f : Nat) (l : List ByteArray) (m : Nat) (w : Bool), l.length ≤ f → 0 < m → ∀ x ∈ extD l m w, x.size = 32 := by
  intro f
  induction f with
  | zero =>
    intro l m w h hm x hx
    rw [extD_end _ _ _ (by omega)] at hx
    split at hx
    · cases hx
    · simp at hx; subst hx; exact rootD_size _
  | succ f ih =>
    intro l m w h hm x hx
    by_cases h1 : l.length ≤ m
    · rw [extD_end _ _ _ h1] at hx
      split at hx
      · cases hx
      · simp at hx; subst hx; exact rootD_size _
    · have hs := lp_spec l.length (by omega)
      have hp := lp_pos l.length
      by_cases h2 : m ≤ lp l.length
      · rw [extD_low _ _ _ hm (by omega) h2] at hx
        rcases List.mem_append.1 hx with hx | hx
        · exact ih _ _ _ (by rw [List.length_take]; omega) hm x hx
        · simp at hx; subst hx; exact rootD_size _
      · rw [extD_high _ _ _ (by omega) (by omega)] at hx
        rcases List.mem_append.1 hx with hx | hx
        · exact ih _ _ _ (by rw [List.length_drop]; omega) (by omega) x hx
        · simp at hx; subst hx; exact rootD_size _
theorem ext_short : ∀ (k : Nat) (l : List ByteArray) (m : Nat) (w : Bool), 0 < m → l.length ≤ 2 ^ k → (extD l m w).length ≤ k + 1 := by
  intro k
  induction k with
  | zero =>
    intro l m w hm h
    rw [extD_end _ _ _ (by simp at h; omega)]
    split <;> simp
  | succ k ih =>
    intro l m w hm h
    by_cases h1 : l.length ≤ m
    · rw [extD_end _ _ _ h1]; split <;> simp
    · have hl := lp_spec l.length (by omega)
      have hp := lp_pos l.length
      have hle : lp l.length ≤ 2 ^ k := by
        unfold lp
        refine Nat.pow_le_pow_right (by decide) ?_
        have : Nat.log2 (l.length - 1) < k + 1 := (Nat.log2_lt (by omega)).2 (by omega)
        omega
      rw [Nat.pow_succ] at h
      by_cases h2 : m ≤ lp l.length
      · rw [extD_low _ _ _ hm (by omega) h2, List.length_append, List.length_singleton]
        have := ih (l.take (lp l.length)) m w hm (by rw [List.length_take]; omega)
        omega
      · rw [extD_high _ _ _ (by omega) (by omega), List.length_append, List.length_singleton]
        have := ih (l.drop (lp l.length)) (m - lp l.length) false (by omega) (by rw [List.length_drop]; omega)
        omega

/-- the two values of an extension, its last element first -/
def bothR (old : ByteArray) : List ByteArray → Nat → Nat → Bool → Option (ByteArray × ByteArray)
  | [], m, n, w => if m < n then none else if w then some (old, old) else none
  | x :: r, m, n, w => if m < n then (if m ≤ lp n then (bothR old r m (lp n) w).map (fun p => (p.1, nodeD p.2 x)) else (bothR old r (m - lp n) (n - lp n) false).map (fun p => (nodeD x p.1, nodeD x p.2)))
      else if w then none else if r = [] then some (x, x) else none
/-- the extension is accepted -/
theorem ext_val : ∀ (f : Nat) (l : List ByteArray) (m : Nat) (w : Bool) (old : ByteArray), l.length ≤ f → 0 < m → m ≤ l.length → (w = true → old = rootD (l.take m)) →
    bothR old (extD l m w).reverse m l.length w = some (rootD (l.take m), rootD l) := by
  intro f
  induction f with
  | zero => intro l m w old h h1 h2; omega
  | succ f ih =>
    intro l m w old h hm hle hw
    by_cases he : l.length ≤ m
    · rw [extD_end _ _ _ he]
      have ht : l.take m = l := List.take_of_length_le he
      cases w with
      | true =>
        rw [if_pos rfl, List.reverse_nil, bothR, if_neg (by omega), if_pos rfl, hw rfl, ht]
      | false =>
        rw [if_neg (by decide), List.reverse_singleton, bothR, if_neg (by omega), if_neg (by decide), if_pos rfl, ht]
    · have hl := lp_spec l.length (by omega)
      have hp := lp_pos l.length
      by_cases h2 : m ≤ lp l.length
      · rw [extD_low _ _ _ hm (by omega) h2, List.reverse_append, List.reverse_singleton, List.singleton_append, bothR, if_pos (by omega), if_pos h2]
        have ht : (l.take (lp l.length)).length = lp l.length := by rw [List.length_take]; omega
        have htt : (l.take (lp l.length)).take m = l.take m := by rw [List.take_take, Nat.min_eq_left h2]
        have := ih (l.take (lp l.length)) m w old (by omega) hm (by omega) (by rw [htt]; exact hw)
        rw [ht, htt] at this
        rw [this, Option.map_some, rootD_split l (by omega)]
      · rw [extD_high _ _ _ (by omega) (by omega), List.reverse_append, List.reverse_singleton, List.singleton_append, bothR, if_pos (by omega), if_neg h2]
        have ht : (l.drop (lp l.length)).length = l.length - lp l.length := List.length_drop
        have := ih (l.drop (lp l.length)) (m - lp l.length) false old (by omega) (by omega) (by omega) (fun e => by cases e)
        rw [ht] at this
        rw [this, Option.map_some]
        obtain ⟨j, hj⟩ : ∃ j, lp l.length = 2 ^ j := ⟨_, rfl⟩
        have hlm : lp (l.take m).length = lp l.length := by
          rw [hj]
          refine (lp_unique _ j ?_ ?_).symm
          · rw [List.length_take]; omega
          · rw [List.length_take]; omega
        have hm2 : rootD (l.take m) = nodeD (rootD (l.take (lp l.length))) (rootD ((l.drop (lp l.length)).take (m - lp l.length))) := by
          rw [rootD_split (l.take m) (by rw [List.length_take]; omega), hlm, List.take_take, Nat.min_eq_left (by omega), List.drop_take]
        rw [hm2, ← rootD_split l (by omega)]
theorem both_size {old : ByteArray} (ho : old.size = 32) : ∀ {r : List ByteArray} {m n : Nat} {w : Bool} {a b : ByteArray}, (∀ x ∈ r, x.size = 32) → bothR old r m n w = some (a, b) → a.size = 32 ∧ b.size = 32 := by
  intro r
  induction r with
  | nil =>
    intro m n w a b _ h
    rw [bothR] at h
    split at h
    · cases h
    split at h
    · cases h; exact ⟨ho, ho⟩
    · cases h
  | cons x r ih =>
    intro m n w a b hr h
    rw [bothR] at h
    have hr' := fun z hz => hr z (List.mem_cons_of_mem x hz)
    split at h
    · split at h
      · obtain ⟨⟨a', b'⟩, hu, e⟩ := Option.map_eq_some_iff.1 h
        cases e
        exact ⟨(ih hr' hu).1, nodeD_size _ _⟩
      · obtain ⟨⟨a', b'⟩, hu, e⟩ := Option.map_eq_some_iff.1 h
        cases e
        exact ⟨nodeD_size _ _, nodeD_size _ _⟩
    · split at h
      · cases h
      split at h
      · cases h; exact ⟨hr x (List.mem_cons_self ..), hr x (List.mem_cons_self ..)⟩
      · cases h
theorem both_len {s t : ByteArray} : ∀ {r q : List ByteArray} {m n : Nat} {w : Bool} {v u : ByteArray × ByteArray}, bothR s r m n w = some v → bothR t q m n w = some u → r.length = q.length := by
  intro r
  induction r with
  | nil =>
    intro q m n w v u h k
    rw [bothR] at h
    split at h
    · cases h
    rename_i hn
    split at h
    · rename_i hw
      cases q with
      | nil => rfl
      | cons y q => rw [bothR, if_neg hn, if_pos hw] at k; cases k
    · cases h
  | cons x r ih =>
    intro q m n w v u h k
    rw [bothR] at h
    cases q with
    | nil =>
      rw [bothR] at k
      split at k
      · cases k
      rename_i hn
      split at k
      · rename_i hw
        rw [if_neg hn, if_pos hw] at h; cases h
      · cases k
    | cons y q =>
      rw [bothR] at k
      split at h
      · rename_i hn
        rw [if_pos hn] at k
        split at h
        · rename_i hi
          rw [if_pos hi] at k
          obtain ⟨v', hv, _⟩ := Option.map_eq_some_iff.1 h
          obtain ⟨u', hu, _⟩ := Option.map_eq_some_iff.1 k
          rw [List.length_cons, List.length_cons, ih hv hu]
        · rename_i hi
          rw [if_neg hi] at k
          obtain ⟨v', hv, _⟩ := Option.map_eq_some_iff.1 h
          obtain ⟨u', hu, _⟩ := Option.map_eq_some_iff.1 k
          rw [List.length_cons, List.length_cons, ih hv hu]
      · rename_i hn
        rw [if_neg hn] at k
        split at h
        · cases h
        rename_i hw
        rw [if_neg hw] at k
        split at h
        · rename_i hr
          split at k
          · rename_i hq
            rw [hr, hq]; rfl
          · cases k
        · cases h
/-- the strings of which the sum is computed for the new root of an extension, from the root on, and the value -/
def sidesR (old : ByteArray) : List ByteArray → Nat → Nat → Bool → List ByteArray × ByteArray
  | [], _, _, _ => ([], old)
  | x :: r, m, n, w => if n ≤ m then ([], if w then old else (x :: r).getLast (by simp)) else if m ≤ lp n then (cat 1 [(sidesR old r m (lp n) w).2, x] :: (sidesR old r m (lp n) w).1, nodeD (sidesR old r m (lp n) w).2 x)
      else (cat 1 [x, (sidesR old r (m - lp n) (n - lp n) false).2] :: (sidesR old r (m - lp n) (n - lp n) false).1, nodeD x (sidesR old r (m - lp n) (n - lp n) false).2)
theorem sides_low (old x : ByteArray) (r : List ByteArray) {m n : Nat} (w : Bool) (hn : m < n) (hi : m ≤ lp n) : sidesR old (x :: r) m n w = (cat 1 [(sidesR old r m (lp n) w).2, x] :: (sidesR old r m (lp n) w).1, nodeD (sidesR old r m (lp n) w).2 x) := by
  rw [sidesR, if_neg (by omega), if_pos hi]
theorem sides_high (old x : ByteArray) (r : List ByteArray) {m n : Nat} (w : Bool) (hn : m < n) (hi : ¬ m ≤ lp n) : sidesR old (x :: r) m n w = (cat 1 [x, (sidesR old r (m - lp n) (n - lp n) false).2] :: (sidesR old r (m - lp n) (n - lp n) false).1, nodeD x (sidesR old r (m - lp n) (n - lp n) false).2) := by
  rw [sidesR, if_neg (by omega), if_neg hi]
theorem sides_val {old : ByteArray} : ∀ {r : List ByteArray} {m n : Nat} {w : Bool} {a b : ByteArray}, bothR old r m n w = some (a, b) → (sidesR old r m n w).2 = b := by
  intro r
  induction r with
  | nil =>
    intro m n w a b h
    rw [bothR] at h
    split at h
    · cases h
    split at h
    · cases h; rfl
    · cases h
  | cons x r ih =>
    intro m n w a b h
    rw [bothR] at h
    split at h
    · rename_i hn
      rw [sidesR, if_neg (by omega)]
      split at h
      · rename_i hi
        obtain ⟨⟨a', b'⟩, hu, e⟩ := Option.map_eq_some_iff.1 h
        cases e
        rw [if_pos hi, ih hu]
      · rename_i hi
        obtain ⟨⟨a', b'⟩, hu, e⟩ := Option.map_eq_some_iff.1 h
        cases e
        rw [if_neg hi, ih hu]
    · rename_i hn
      rw [sidesR, if_pos (by omega)]
      split at h
      · cases h
      rename_i hw
      split at h
      · rename_i hr
        subst hr
        cases h
        rw [if_neg hw]; rfl
      · cases h
theorem ext_binding {a b : ByteArray} (ha : a.size = 32) (hb : b.size = 32) : ∀ {r q : List ByteArray} {m n : Nat} {w : Bool} {f g v : ByteArray}, (∀ x ∈ r, x.size = 32) → (∀ x ∈ q, x.size = 32) →
    bothR a r m n w = some (f, v) → bothR b q m n w = some (g, v) → f ≠ g → collD (sidesR a r m n w).1 (sidesR b q m n w).1 = true := by
  intro r
  induction r with
  | nil =>
    intro q m n w f g v _ _ h k hfg
    have hq := both_len h k
    have : q = [] := List.eq_nil_of_length_eq_zero (by simpa using hq.symm)
    subst this
    rw [bothR] at h k
    split at h
    · cases h
    rename_i hn
    rw [if_neg hn] at k
    split at h
    · rename_i hw
      rw [if_pos hw] at k
      cases h
      cases k
      exact (hfg rfl).elim
    · cases h
  | cons x r ih =>
    intro q m n w f g v hr hq h k hfg
    cases q with
    | nil => have := both_len h k; simp at this
    | cons y q =>
      rw [bothR] at h k
      have hx := hr x (List.mem_cons_self ..)
      have hy := hq y (List.mem_cons_self ..)
      have hr' := fun z hz => hr z (List.mem_cons_of_mem x hz)
      have hq' := fun z hz => hq z (List.mem_cons_of_mem y hz)
      split at h
      · rename_i hn
        rw [if_pos hn] at k
        split at h
        · rename_i hi
          rw [if_pos hi] at k
          obtain ⟨⟨f', v1⟩, hu, e⟩ := Option.map_eq_some_iff.1 h
          obtain ⟨⟨g', v2⟩, hu', e'⟩ := Option.map_eq_some_iff.1 k
          cases e
          simp only [Prod.mk.injEq] at e'
          obtain ⟨rfl, e'⟩ := e'
          rw [sides_low a x r w (by omega) hi, sides_low b y q w (by omega) hi, sides_val hu, sides_val hu']
          refine node_part e'.symm (by rw [(both_size ha hr' hu).2, (both_size hb hq' hu').2]) (fun h1 _ => ?_)
          subst h1
          exact ih hr' hq' hu hu' hfg
        · rename_i hi
          rw [if_neg hi] at k
          obtain ⟨⟨f', v1⟩, hu, e⟩ := Option.map_eq_some_iff.1 h
          obtain ⟨⟨g', v2⟩, hu', e'⟩ := Option.map_eq_some_iff.1 k
          cases e
          simp only [Prod.mk.injEq] at e'
          obtain ⟨rfl, e'⟩ := e'
          rw [sides_high a x r w (by omega) hi, sides_high b y q w (by omega) hi, sides_val hu, sides_val hu']
          refine node_part e'.symm (by rw [hx, hy]) (fun h0 h1 => ?_)
          subst h0 h1
          exact ih hr' hq' hu hu' (fun e => hfg (by rw [e]))
      · rename_i hn
        rw [if_neg hn] at k
        split at h
        · cases h
        rename_i hw
        rw [if_neg hw] at k
        split at h
        · split at k
          · cases h
            cases k
            exact (hfg rfl).elim
          · cases k
        · cases h
end Go.Proofs.YtbkhkpcnclhoiaaDoor
