/- The contracts of Leaf, Node and Chain, for the proofs over package digest. -/
import Derived.Test.YtaoggehdkddgeaaGreatDoorShaF
import Derived.Test.YtaoggehdkddgeaaGreatDoorShelf
section
namespace Go.Proofs.YtaoggehdkddgeaaGreatDoor
open Go.RowKit
attribute [local go_sem] gAt gUpon
attribute [local simp] Gr.refl Gr.alloc

/-- a mark and some strings, one behind the other -/
def cat (m : UInt8) (xs : List ByteArray) : ByteArray := ⟨(m :: xs.flatMap (·.data.toList)).toArray⟩
def leafD (s : ByteArray) : ByteArray := sha (cat 0 [s])
def nodeD (a b : ByteArray) : ByteArray := sha (cat 1 [a, b])
theorem leafD_size (s : ByteArray) : (leafD s).size = 32 := sha_size _
theorem nodeD_size (a b : ByteArray) : (nodeD a b).size = 32 := sha_size _
theorem join_flat (xs : List (List UInt8)) : Lib.join xs [] = xs.flatten := by
  induction xs with
  | nil => rfl
  | cons x xs ih =>
    cases xs with
    | nil => simp [Lib.join, List.intercalate]
    | cons y ys =>
      unfold Lib.join List.intercalate at *
      rw [List.intersperse_cons_cons, List.flatten_cons, List.flatten_cons, ih]
      simp
theorem cat_size (m : UInt8) (xs : List ByteArray) : (cat m xs).size = 1 + (xs.flatMap (·.data.toList)).length := by
  show (m :: xs.flatMap (·.data.toList)).toArray.size = _
  rw [List.size_toArray, List.length_cons]; omega

set_option maxRecDepth 100000 in
theorem marked1_any (m : UInt8) (bm bk o c : Nat) (xs : List ByteArray) (w : World) (hm : w.cell? ⟨bm, 0, none⟩ = some (.string ⟨#[m]⟩))
    (hc : ∀ (j : Nat) x, xs[j]? = some x → w.cell? ⟨bk, o + j, none⟩ = some (.string x)) (hbk : bk < w.heap.size) (hN : xs.length ≤ 1000) (hcap : xs.length ≤ c)
    (hlen : (xs.flatMap (·.data.toList)).length ≤ 140737488354000) (hT : Tab w) :
    Calls Tryz.prog 188 #[.slice (some ⟨bk, o, none⟩) xs.length c, .pointer (some ⟨bm, 0, none⟩)] w fun e w' => e = .returned (.string (sha (cat m xs))) ∧ Gr w w' := by
  have hS1 : ∀ n : GrS w.drew, n.w.cell? ⟨bm, 0, none⟩ = some (.string ⟨#[m]⟩) := fun n => n.h.cell (w := w.drew) hm
  have hj := join_flat (xs.map (·.data.toList))
  have hjl : (Lib.join (xs.map (·.data.toList)) []).length ≤ 140737488354000 := by rw [hj, ← List.flatMap_def]; exact hlen
  have HJ : Hid ((⟨#[m]⟩ : ByteArray) ++ ⟨(Lib.join (xs.map (·.data.toList)) []).toArray⟩ = cat m xs) := Lib.hid (by
    rw [hj, ← List.flatMap_def]; apply ByteArray.ext; simp [cat])
  have HC : Hid (∀ w1, Gr w.drew w1 → Calls Tryz.prog 189 #[.slice (some ⟨bk, o, none⟩) xs.length c, .string ⟨#[]⟩] w1 fun e w' => e = .returned (.string ⟨(Lib.join (xs.map (·.data.toList)) []).toArray⟩) ∧ Below w1.heap.size w1 w') :=
    Lib.hid (fun w1 hg => Tryz.strings_Join bk o c xs ⟨#[]⟩ w1 (fun j x hx => hg.cell (w := w.drew) (hc j x hx)) (Nat.lt_of_lt_of_le hbk hg.size) (by omega) hcap (by simpa using (by omega : (Lib.join (xs.map (·.data.toList)) []).length ≤ 140737488355328)))
  have HS : Hid (∀ w1, Gr w.drew w1 → Calls Tryz.prog 26 #[.string (cat m xs)] w1 fun e w' => e = .returned (.string (sha (cat m xs))) ∧ Gr w1 w') :=
    Lib.hid (fun w1 hg => sum_any (cat m xs) w1 (by rw [cat_size]; omega) ((show Tab w.drew from hT).gr hg))
  have hadd : ∀ w1, (Op.stringOp .add ⟨#[m]⟩ (⟨(Lib.join (xs.map (·.data.toList)) []).toArray⟩ : ByteArray)).run Tryz.prog w1 = .ok (.string (cat m xs)) w1 := by
    intro w1
    rw [run_string_add_sum, HJ.out]
    have h1 : (⟨(Lib.join (xs.map (·.data.toList)) []).toArray⟩ : ByteArray).size = (Lib.join (xs.map (·.data.toList)) []).length := List.size_toArray
    have h2 : (⟨#[m]⟩ : ByteArray).size = 1 := rfl
    rw [h1, h2]; omega
  clear hj hjl hc hlen hm HJ
  generalize (⟨(Lib.join (xs.map (·.data.toList)) []).toArray⟩ : ByteArray) = J at hadd HC
  generalize cat m xs = CT at hadd HS
  go_enter Tryz.func188, Tryz.ntmps188
  go_upto_region 1 with fail
  refine region_grow 6 9 (by kernel_rfl) rfl (by kernel_rfl) rfl rfl ?_
  simp only [List.take_succ_cons, List.take_zero, List.drop_succ_cons, List.drop_zero]
  refine seg 2 rfl rfl rfl rfl ?_
  simp only [List.take_succ_cons, List.take_zero, List.drop_succ_cons, List.drop_zero]
  repeat (go_big_quiet_step (fail))
  refine wpQuiet_nil ?_
  intro _
  refine grow_det (v := .string J) rfl rfl rfl rfl rfl ?_ ?_
  · intro w1 hG
    go_simp
    refine (HC.out w1 hG).mono ?_
    rintro e w' ⟨rfl, hb⟩
    exact ⟨rfl, hb⟩
  simp only [Act.put, List.setIfInBounds_toArray, List.set_cons_zero, List.set_cons_succ]
  refine seg 1 rfl rfl rfl rfl ?_
  simp only [List.take_succ_cons, List.take_zero, List.drop_succ_cons, List.drop_zero]
  repeat (go_big_quiet_step (fail))
  refine wpQuiet_nil ?_
  intro _
  refine grow_det (v := .string (sha CT)) rfl rfl rfl rfl rfl ?_ ?_
  · intro w1 hG
    go_simp
    refine (HS.out w1 hG).mono ?_
    rintro e w' ⟨rfl, hb⟩
    exact ⟨rfl, hb⟩
  simp only [Act.put, List.setIfInBounds_toArray, List.set_cons_zero, List.set_cons_succ]
  refine seg 1 rfl rfl rfl rfl ?_
  simp only [List.take_succ_cons, List.take_zero, List.drop_succ_cons, List.drop_zero]
  repeat (go_big_quiet_step (fail))
  refine wpQuiet_nil ?_
  intro _
  refine grow_end0 rfl rfl ?_
  intro w2 hG
  have HG : Hid (Gr w w2) := Lib.hid (Gr.trans (Gr.drew w) hG)
  clear hS1 hG
  go_wp2_with fail
  go_ret
  exact ⟨rfl, HG.out⟩

theorem marked_any (m : ByteArray) (w : World) : Calls Tryz.prog 145 #[.string m] w fun e w' => e = .returned (.func (.func 188) #[] #[.pointer (some ⟨w.heap.size, 0, none⟩)]) ∧ w.alloc (.cells #[.string m] 9) = w' := by
  go_enter Tryz.func145, Tryz.ntmps145
  go_wp2
  go_ret
  exact ⟨rfl, rfl⟩

theorem leaf_any (s : ByteArray) (w : World) (hs : s.size ≤ 140737488354000) (hT : Tab w) :
    Calls Tryz.prog 76 #[.string s] w fun e w' => e = .returned (.string (leafD s)) ∧ Gr w w' := by
  go_enter Tryz.func76, Tryz.ntmps76
  go_wp2_with fail
  refine (marked_any _ _).mono ?_
  rintro e w1 ⟨rfl, rfl⟩
  go_wp2_with fail
  refine (marked1_any 0 w.heap.size (w.heap.size + 1) 0 1 [s] _ (cell_old_at _ _ _ _ _ (by simp) (cell_new_at _ _ _ _ _ _ rfl rfl)) ?_ (by simp) (by simp) (by simp) (by simpa using hs) ((hT.gr (Gr.alloc _ _)).gr (Gr.alloc _ _))).mono ?_
  · intro j x hj
    match j, hj with
    | 0, hj => simp at hj; subst hj; exact cell_new_at _ _ _ _ _ _ (by simp) rfl
  rintro e w2 ⟨rfl, hG⟩
  have HG : Hid (Gr w w2) := Lib.hid (((Gr.alloc _ _).trans (Gr.alloc _ _)).trans hG)
  clear hG
  go_wp2_with fail
  go_ret
  exact ⟨rfl, HG.out⟩

theorem node_any (a b : ByteArray) (w : World) (hs : a.size + b.size ≤ 140737488354000) (hT : Tab w) :
    Calls Tryz.prog 75 #[.string a, .string b] w fun e w' => e = .returned (.string (nodeD a b)) ∧ Gr w w' := by
  go_enter Tryz.func75, Tryz.ntmps75
  go_wp2_with fail
  refine (marked_any _ _).mono ?_
  rintro e w1 ⟨rfl, rfl⟩
  go_wp2_with fail
  refine (marked1_any 1 w.heap.size (w.heap.size + 1) 0 2 [a, b] _ (cell_old_at _ _ _ _ _ (by simp) (cell_new_at _ _ _ _ _ _ rfl rfl)) ?_ (by simp) (by simp) (by simp) (by simpa using hs) ((hT.gr (Gr.alloc _ _)).gr (Gr.alloc _ _))).mono ?_
  · intro j x hj
    match j, hj with
    | 0, hj => simp at hj; subst hj; exact cell_new_at _ _ _ _ _ _ (by simp) rfl
    | 1, hj => simp at hj; subst hj; exact cell_new_at _ _ _ _ _ _ (by simp) rfl
  rintro e w2 ⟨rfl, hG⟩
  have HG : Hid (Gr w w2) := Lib.hid (((Gr.alloc _ _).trans (Gr.alloc _ _)).trans hG)
  clear hG
  go_wp2_with fail
  go_ret
  exact ⟨rfl, HG.out⟩

end Go.Proofs.YtaoggehdkddgeaaGreatDoor
end
section
namespace Go.Proofs.YtaoggehdkddgeaaGreatDoor
section
open Go.RowKit

/-- the greatest power of two that is less than n -/
def lp (n : Nat) : Nat := 2 ^ Nat.log2 (n - 1)
theorem lp_spec (n : Nat) (h : 2 ≤ n) : lp n < n ∧ n ≤ 2 * lp n := by
  have h1 : n - 1 ≠ 0 := by omega
  have h2 := Nat.log2_self_le h1
  have h3 := Nat.lt_log2_self (n := n - 1)
  unfold lp
  rw [Nat.pow_succ] at h3
  omega
theorem lp_pos (n : Nat) : 0 < lp n := Nat.pow_pos (by decide)
theorem lp_unique (n j : Nat) (h1 : 2 ^ j < n) (h2 : n ≤ 2 * 2 ^ j) : 2 ^ j = lp n := by
  have : Nat.log2 (n - 1) = j := by
    refine (Nat.log2_eq_iff (by have := Nat.pow_pos (n := j) (show 0 < 2 by decide); omega)).2 ⟨by omega, ?_⟩
    rw [Nat.pow_succ]; omega
  rw [lp, this]
theorem bitLen_lp (n : Nat) (h : 2 ≤ n) (hn : n ≤ 9223372036854775807) : ∃ j : Nat, Lib.bitLen (n - 1) = j + 1 ∧ j ≤ 62 ∧ 2 ^ j = lp n := by
  have h1 : n - 1 ≠ 0 := by omega
  have h2 := Nat.log2_self_le h1
  have h3 := Nat.lt_log2_self (n := n - 1)
  refine ⟨Nat.log2 (n - 1), ?_, ?_, rfl⟩
  · have h4 := Lib.bitLen_shift (Nat.log2 (n - 1)) (n - 1) h2 (by have : (2 : Nat) ^ 64 = 18446744073709551616 := by decide
                                                                  omega)
    have h5 : (n - 1) / 2 ^ Nat.log2 (n - 1) = 1 := by
      rw [Nat.div_eq_iff (Nat.pow_pos (by decide))]
      rw [Nat.pow_succ] at h3
      omega
    rw [h4, h5]; rfl
  · have : Nat.log2 (n - 1) < 63 := (Nat.log2_lt h1).2 (by have : (2 : Nat) ^ 63 = 9223372036854775808 := by decide
                                                           omega)
    omega
theorem lp_le (n : Nat) (h : 2 ≤ n) (hn : n ≤ 9223372036854775807) : lp n ≤ 4611686018427387904 := by
  obtain ⟨j, _, hj, h2⟩ := bitLen_lp n h hn
  rw [← h2]
  exact Nat.le_trans (Nat.pow_le_pow_right (by decide) hj) (by decide)

theorem left_any (n : Nat) (h : 2 ≤ n) (hn : n ≤ 9223372036854775807) (w : World) :
    Calls Tryz.prog 79 #[.int .i64 (n : Int)] w fun e w' => e = .returned (.int .i64 ((lp n : Nat) : Int)) ∧ w = w' := by
  obtain ⟨j, hb, hj, hp⟩ := bitLen_lp n h hn
  have hle := lp_le n h hn
  have e1 : IntKind.i64.wrap ((n : Int) - 1) = (n : Int) - 1 := IntWalk.i64_in _ (by omega)
  have hu : IntKind.u64.wrap ((n : Int) - 1) = (n : Int) - 1 := by rw [IntKind.wrap_u64]; omega
  have hbl : Lib.bitLen ((n : Int) - 1).toNat = j + 1 := by rw [show ((n : Int) - 1).toNat = n - 1 by omega]; exact hb
  have HP := Lib.hid hp
  have HB := Lib.hid hbl
  clear hp hb hbl
  have hn1 : (1 : Int) ≤ (n : Int) - 1 := by omega
  go_enter Tryz.func79, Tryz.ntmps79
  go_wp2_with fail
  refine (Tryz.bits_Len _ _ (by omega) (by omega)).mono ?_
  rintro e w' ⟨rfl, rfl⟩
  rw [HB.out]
  have hsh : ((((j + 1 : Nat) : Int) - 1)) = (j : Int) := by omega
  go_wp2_with fail
  go_ret
  refine ⟨?_, rfl⟩
  have h1 : wrap64 ((2 : Int) ^ j) = ((lp n : Nat) : Int) := by
    have h2 : (2 : Int) ^ j = ((lp n : Nat) : Int) := by rw [← HP.out]; simp
    rw [h2]
    exact IntWalk.wrap64_in _ ⟨by omega, by omega⟩
  show Ending.returned (.int .i64 (wrap64 ((2 : Int) ^ j))) = _
  rw [h1]

end
section
def emptyD : ByteArray := sha ⟨#[]⟩
def rootF : Nat → List ByteArray → ByteArray
  | 0, _ => emptyD
  | f + 1, l => if l.length = 0 then emptyD else if l.length = 1 then leafD (l.headD ⟨#[]⟩) else nodeD (rootF f (l.take (lp l.length))) (rootF f (l.drop (lp l.length)))
/-- the root of a list -/
def rootD (l : List ByteArray) : ByteArray := rootF l.length l
theorem rootF_fuel : ∀ (f g : Nat) (l : List ByteArray), l.length ≤ f → l.length ≤ g → rootF f l = rootF g l := by
  intro f
  induction f with
  | zero =>
    intro g l hf _
    have h0 : l.length = 0 := by omega
    cases g with
    | zero => rfl
    | succ g => rw [rootF, rootF, if_pos h0]
  | succ f ih =>
    intro g l hf hg
    cases g with
    | zero =>
      have h0 : l.length = 0 := by omega
      rw [rootF, rootF, if_pos h0]
    | succ g =>
      rw [rootF, rootF]
      by_cases h0 : l.length = 0
      · rw [if_pos h0, if_pos h0]
      · rw [if_neg h0, if_neg h0]
        by_cases h1 : l.length = 1
        · rw [if_pos h1, if_pos h1]
        · rw [if_neg h1, if_neg h1]
          have hs := lp_spec l.length (by omega)
          have hp := lp_pos l.length
          rw [ih g (l.take (lp l.length)) (by rw [List.length_take]; omega) (by rw [List.length_take]; omega), ih g (l.drop (lp l.length)) (by rw [List.length_drop]; omega) (by rw [List.length_drop]; omega)]
theorem rootD_one (x : ByteArray) : rootD [x] = leafD x := by
  unfold rootD
  rw [show [x].length = 0 + 1 from rfl, rootF, if_neg (by simp), if_pos (by simp)]; rfl
theorem rootD_split (l : List ByteArray) (h : 2 ≤ l.length) : rootD l = nodeD (rootD (l.take (lp l.length))) (rootD (l.drop (lp l.length))) := by
  have hs := lp_spec l.length h
  have hp := lp_pos l.length
  unfold rootD
  obtain ⟨f, hf⟩ : ∃ f, l.length = f + 1 := ⟨l.length - 1, by omega⟩
  conv => lhs; rw [hf, rootF]
  rw [if_neg (by omega), if_neg (by omega)]
  rw [rootF_fuel f (l.take (lp l.length)).length _ (by rw [List.length_take]; omega) (Nat.le_refl _), rootF_fuel f (l.drop (lp l.length)).length _ (by rw [List.length_drop]; omega) (Nat.le_refl _)]
theorem rootD_size (l : List ByteArray) : (rootD l).size = 32 := by
  match l with
  | [] => exact sha_size _
  | [x] => rw [rootD_one]; exact leafD_size _
  | x :: y :: l => rw [rootD_split _ (by simp)]; exact nodeD_size _ _

/-- a list whose length is a power of two -/
theorem rootD_double (a b : List ByteArray) (j : Nat) (ha : a.length = 2 ^ j) (hb : b.length = 2 ^ j) : rootD (a ++ b) = nodeD (rootD a) (rootD b) := by
  have hp : 0 < 2 ^ j := Nat.pow_pos (by decide)
  have hl : lp (a ++ b).length = a.length := by
    rw [ha]; exact (lp_unique _ j (by rw [List.length_append]; omega) (by rw [List.length_append]; omega)).symm
  rw [rootD_split _ (by rw [List.length_append]; omega), hl, List.take_left, List.drop_left]
/-- a list whose first part has as length a power of two that is greater than what follows -/
theorem rootD_front (a b : List ByteArray) (j : Nat) (ha : a.length = 2 ^ j) (hb0 : 0 < b.length) (hb : b.length < 2 ^ j) : rootD (a ++ b) = nodeD (rootD a) (rootD b) := by
  have hl : lp (a ++ b).length = a.length := by
    rw [ha]; exact (lp_unique _ j (by rw [List.length_append]; omega) (by rw [List.length_append]; omega)).symm
  rw [rootD_split _ (by rw [List.length_append]; omega), hl, List.take_left, List.drop_left]

def proofF : Nat → List ByteArray → Nat → List ByteArray
  | 0, _, _ => []
  | f + 1, l, i => if l.length ≤ 1 then [] else if i < lp l.length then proofF f (l.take (lp l.length)) i ++ [rootD (l.drop (lp l.length))] else proofF f (l.drop (lp l.length)) (i - lp l.length) ++ [rootD (l.take (lp l.length))]
/-- the proof of an entry -/
def proofD (l : List ByteArray) (i : Nat) : List ByteArray := proofF l.length l i
theorem proofF_fuel : ∀ (f g : Nat) (l : List ByteArray) (i : Nat), l.length ≤ f → l.length ≤ g → proofF f l i = proofF g l i := by
  intro f
  induction f with
  | zero =>
    intro g l i hf _
    cases g with
    | zero => rfl
    | succ g => rw [proofF, proofF, if_pos (by omega)]
  | succ f ih =>
    intro g l i hf hg
    cases g with
    | zero => rw [proofF, proofF, if_pos (by omega)]
    | succ g =>
      rw [proofF, proofF]
      by_cases h1 : l.length ≤ 1
      · rw [if_pos h1, if_pos h1]
      · rw [if_neg h1, if_neg h1]
        have hs := lp_spec l.length (by omega)
        have hp := lp_pos l.length
        rw [ih g (l.take (lp l.length)) i (by rw [List.length_take]; omega) (by rw [List.length_take]; omega), ih g (l.drop (lp l.length)) _ (by rw [List.length_drop]; omega) (by rw [List.length_drop]; omega)]
theorem proofD_one (l : List ByteArray) (i : Nat) (h : l.length ≤ 1) : proofD l i = [] := by
  unfold proofD
  cases hl : l.length with
  | zero => rfl
  | succ f => rw [proofF, if_pos h]
theorem proofD_split (l : List ByteArray) (i : Nat) (h : 2 ≤ l.length) : proofD l i =
    if i < lp l.length then proofD (l.take (lp l.length)) i ++ [rootD (l.drop (lp l.length))] else proofD (l.drop (lp l.length)) (i - lp l.length) ++ [rootD (l.take (lp l.length))] := by
  have hs := lp_spec l.length h
  have hp := lp_pos l.length
  unfold proofD
  obtain ⟨f, hf⟩ : ∃ f, l.length = f + 1 := ⟨l.length - 1, by omega⟩
  conv => lhs; rw [hf, proofF]
  rw [if_neg (by omega)]
  rw [proofF_fuel f (l.take (lp l.length)).length _ _ (by rw [List.length_take]; omega) (Nat.le_refl _), proofF_fuel f (l.drop (lp l.length)).length _ _ (by rw [List.length_drop]; omega) (Nat.le_refl _)]

/-- the value of a proof, its last element first -/
def valR (s : ByteArray) : List ByteArray → Nat → Nat → Option ByteArray
  | [], n, _ => if n = 1 then some (leafD s) else none
  | x :: r, n, i => if n = 1 then none else if i < lp n then (valR s r (lp n) i).map (nodeD · x) else (valR s r (n - lp n) (i - lp n)).map (nodeD x ·)
end
section
/-- complete parts, the smallest first: lengths are powers of two and grow -/
def Up : List (List ByteArray) → Prop
  | [] => True
  | [a] => ∃ j, a.length = 2 ^ j
  | a :: b :: ps => (∃ j, a.length = 2 ^ j) ∧ a.length < b.length ∧ Up (b :: ps)
/-- the same but for the first, that may be as long as the second -/
def Top : List (List ByteArray) → Prop
  | [] => False
  | [a] => ∃ j, a.length = 2 ^ j
  | a :: b :: ps => (∃ j, a.length = 2 ^ j) ∧ a.length ≤ b.length ∧ Up (b :: ps)
theorem Up.pow {a : List ByteArray} {ps : List (List ByteArray)} (h : Up (a :: ps)) : ∃ j, a.length = 2 ^ j := by
  cases ps with
  | nil => exact h
  | cons b ps => exact h.1
theorem Up.tail {a : List ByteArray} {ps : List (List ByteArray)} (h : Up (a :: ps)) : Up ps := by
  cases ps with
  | nil => trivial
  | cons b ps => exact h.2.2
theorem Up.pos {a : List ByteArray} {ps : List (List ByteArray)} (h : Up (a :: ps)) : 0 < a.length := by
  obtain ⟨j, hj⟩ := h.pow
  rw [hj]; exact Nat.pow_pos (by decide)
theorem pow_next {a b : List ByteArray} {i j : Nat} (ha : a.length = 2 ^ i) (hb : b.length = 2 ^ j) (h : a.length < b.length) : 2 * a.length ≤ b.length := by
  rw [ha, hb] at h
  have hij : i < j := (Nat.pow_lt_pow_iff_right (by decide)).1 h
  have h3 : 2 ^ (i + 1) ≤ 2 ^ j := Nat.pow_le_pow_right (by decide) hij
  rw [Nat.pow_succ] at h3
  omega
theorem Up.push {ps : List (List ByteArray)} (h : Up ps) (x : ByteArray) : Top ([x] :: ps) := by
  cases ps with
  | nil => exact ⟨0, rfl⟩
  | cons b ps => exact ⟨⟨0, rfl⟩, h.pos, h⟩
theorem Top.join {a b : List ByteArray} {ps : List (List ByteArray)} (h : Top (a :: b :: ps)) (e : a.length = b.length) : Top ((b ++ a) :: ps) := by
  obtain ⟨⟨j, hj⟩, _, hu⟩ := h
  have hl : (b ++ a).length = 2 ^ (j + 1) := by rw [List.length_append, Nat.pow_succ]; omega
  cases ps with
  | nil => exact ⟨j + 1, hl⟩
  | cons c ps =>
    obtain ⟨⟨i, hi⟩, hlt, hu⟩ := hu
    obtain ⟨k, hk⟩ := hu.pow
    have := pow_next hi hk hlt
    exact ⟨⟨j + 1, hl⟩, by rw [List.length_append]; omega, hu⟩
theorem Top.root {a b : List ByteArray} {ps : List (List ByteArray)} (h : Top (a :: b :: ps)) (e : a.length = b.length) : rootD (b ++ a) = nodeD (rootD b) (rootD a) := by
  obtain ⟨⟨j, hj⟩, _, hu⟩ := h
  exact rootD_double b a j (e ▸ hj) hj
theorem Top.up {a b : List ByteArray} {ps : List (List ByteArray)} (h : Top (a :: b :: ps)) (e : a.length ≠ b.length) : Up (a :: b :: ps) := by
  obtain ⟨hj, hle, hu⟩ := h
  exact ⟨hj, by omega, hu⟩
theorem Up.fold : ∀ (ps : List (List ByteArray)) (X : List ByteArray), Up ps → 0 < X.length → (∀ b, ps.head? = some b → X.length < b.length) →
    ps.foldl (fun out r => nodeD (rootD r) out) (rootD X) = rootD (ps.reverse.flatten ++ X) := by
  intro ps
  induction ps with
  | nil => intro X _ _ _; rfl
  | cons b ps ih =>
    intro X hu hX hb
    have hlt := hb b rfl
    obtain ⟨j, hj⟩ := hu.pow
    rw [List.foldl_cons, ← rootD_front b X j hj hX (by omega), ih (b ++ X) hu.tail (by rw [List.length_append]; omega) ?_]
    · rw [List.reverse_cons, List.flatten_append, List.append_assoc]; simp
    · intro c hc
      cases ps with
      | nil => cases hc
      | cons d ps =>
        cases hc
        obtain ⟨k, hk⟩ := hu.2.2.pow
        have := pow_next hj hk hu.2.1
        rw [List.length_append]; omega
/-- the stack's roots, joined, are the root of all -/
theorem Up.root {a : List ByteArray} {ps : List (List ByteArray)} (h : Up (a :: ps)) :
    ps.foldl (fun out r => nodeD (rootD r) out) (rootD a) = rootD (a :: ps).reverse.flatten := by
  rw [Up.fold ps a h.tail h.pos ?_]
  · rw [List.reverse_cons, List.flatten_append]; simp
  · intro b hb
    cases ps with
    | nil => cases hb
    | cons d ps => cases hb; exact h.2.1
/-- the parts' lengths are at most the length of all -/
theorem part_le {a : List ByteArray} : ∀ {ps : List (List ByteArray)}, a ∈ ps → a.length ≤ ps.reverse.flatten.length := by
  intro ps
  induction ps with
  | nil => intro h; cases h
  | cons b ps ih =>
    intro h
    rw [List.reverse_cons, List.flatten_append, List.length_append]
    simp only [List.flatten_cons, List.flatten_nil, List.append_nil]
    rcases List.mem_cons.1 h with rfl | h
    · omega
    · have := ih h; omega
/-- each part is not empty, so the count of parts is at most the length of all -/
theorem count_le : ∀ {ps : List (List ByteArray)}, Up ps → ps.length ≤ ps.reverse.flatten.length := by
  intro ps
  induction ps with
  | nil => intro _; simp
  | cons a ps ih =>
    intro h
    have h1 := ih h.tail
    have h2 := h.pos
    rw [List.reverse_cons, List.flatten_append, List.length_append, List.length_cons]
    simp only [List.flatten_cons, List.flatten_nil, List.append_nil]
    omega
theorem top_count {a : List ByteArray} {ps : List (List ByteArray)} (h : Top (a :: ps)) : (a :: ps).length ≤ (a :: ps).reverse.flatten.length := by
  have hp : Up ps := by
    cases ps with
    | nil => trivial
    | cons b ps => exact h.2.2
  have ha : 0 < a.length := by
    have : ∃ j, a.length = 2 ^ j := by
      cases ps with
      | nil => exact h
      | cons b ps => exact h.1
    obtain ⟨j, hj⟩ := this
    rw [hj]; exact Nat.pow_pos (by decide)
  have h1 := count_le hp
  rw [List.reverse_cons, List.flatten_append, List.length_append, List.length_cons]
  simp only [List.flatten_cons, List.flatten_nil, List.append_nil]
  omega
end
section
/-! proofs: the list's last element comes first -/
theorem valR_len {s t : ByteArray} : ∀ {r q : List ByteArray} {n i : Nat} {v u : ByteArray}, valR s r n i = some v → valR t q n i = some u → r.length = q.length := by
  intro r
  induction r with
  | nil =>
    intro q n i v u h k
    rw [valR] at h
    split at h
    · rename_i hn
      cases q with
      | nil => rfl
      | cons y q => rw [valR, if_pos hn] at k; cases k
    · cases h
  | cons x r ih =>
    intro q n i v u h k
    rw [valR] at h
    split at h
    · cases h
    rename_i hn
    cases q with
    | nil => rw [valR, if_neg hn] at k; cases k
    | cons y q =>
      rw [valR, if_neg hn] at k
      split at h
      · rename_i hi
        rw [if_pos hi] at k
        obtain ⟨v', hv, _⟩ := Option.map_eq_some_iff.1 h
        obtain ⟨u', hu, _⟩ := Option.map_eq_some_iff.1 k
        rw [List.length_cons, List.length_cons, ih hv hu]
      · rename_i hi
        rw [if_neg hi] at k
        obtain ⟨v', hv, _⟩ := Option.map_eq_some_iff.1 h
        obtain ⟨u', hu, _⟩ := Option.map_eq_some_iff.1 k
        rw [List.length_cons, List.length_cons, ih hv hu]
/-- the proof of an entry is accepted -/
theorem proof_val : ∀ (f : Nat) (l : List ByteArray) (i : Nat) (s : ByteArray), l.length ≤ f → l[i]? = some s → valR s (proofD l i).reverse l.length i = some (rootD l) := by
  intro f
  induction f with
  | zero => intro l i s h hs; have : l = [] := List.eq_nil_of_length_eq_zero (by omega); subst this; cases hs
  | succ f ih =>
    intro l i s h hs
    have hi : i < l.length := (List.getElem?_eq_some_iff.1 hs).1
    by_cases h1 : l.length = 1
    · obtain ⟨x, rfl⟩ := List.length_eq_one_iff.1 h1
      have : i = 0 := by simp at hi; omega
      subst this
      simp at hs; subst hs
      rw [proofD_one _ _ (by simp), List.reverse_nil, valR, if_pos (by simp), rootD_one]
    · have hl := lp_spec l.length (by omega)
      have hp := lp_pos l.length
      rw [proofD_split l i (by omega), rootD_split l (by omega)]
      by_cases hlt : i < lp l.length
      · rw [if_pos hlt, List.reverse_append, List.reverse_cons, List.reverse_nil, List.nil_append, List.cons_append, List.nil_append, valR, if_neg h1, if_pos hlt]
        have ht : (l.take (lp l.length)).length = lp l.length := by rw [List.length_take]; omega
        have := ih (l.take (lp l.length)) i s (by omega) (by rw [List.getElem?_take, if_pos hlt]; exact hs)
        rw [ht] at this
        rw [this]; rfl
      · rw [if_neg hlt, List.reverse_append, List.reverse_cons, List.reverse_nil, List.nil_append, List.cons_append, List.nil_append, valR, if_neg h1, if_neg hlt]
        have ht : (l.drop (lp l.length)).length = l.length - lp l.length := List.length_drop
        have := ih (l.drop (lp l.length)) (i - lp l.length) s (by omega) (by rw [List.getElem?_drop]; rw [show lp l.length + (i - lp l.length) = i by omega]; exact hs)
        rw [ht] at this
        rw [this]; rfl
theorem proof_all : ∀ (f : Nat) (l : List ByteArray) (i : Nat), l.length ≤ f → ∀ x ∈ proofD l i, x.size = 32 := by
  intro f
  induction f with
  | zero => intro l i h x hx; rw [proofD_one _ _ (by omega)] at hx; cases hx
  | succ f ih =>
    intro l i h x hx
    by_cases h1 : l.length ≤ 1
    · rw [proofD_one _ _ h1] at hx; cases hx
    · have hl := lp_spec l.length (by omega)
      have hp := lp_pos l.length
      rw [proofD_split l i (by omega)] at hx
      split at hx
      · rcases List.mem_append.1 hx with hx | hx
        · exact ih _ _ (by rw [List.length_take]; omega) x hx
        · simp at hx; subst hx; exact rootD_size _
      · rcases List.mem_append.1 hx with hx | hx
        · exact ih _ _ (by rw [List.length_drop]; omega) x hx
        · simp at hx; subst hx; exact rootD_size _
theorem proof_short : ∀ (k : Nat) (l : List ByteArray) (i : Nat), l.length ≤ 2 ^ k → (proofD l i).length ≤ k := by
  intro k
  induction k with
  | zero => intro l i h; rw [proofD_one _ _ (by simpa using h)]; simp
  | succ k ih =>
    intro l i h
    by_cases h1 : l.length ≤ 1
    · rw [proofD_one _ _ h1]; simp
    · have hl := lp_spec l.length (by omega)
      have hp := lp_pos l.length
      have hle : lp l.length ≤ 2 ^ k := by
        unfold lp
        refine Nat.pow_le_pow_right (by decide) ?_
        have : Nat.log2 (l.length - 1) < k + 1 := (Nat.log2_lt (by omega)).2 (by omega)
        omega
      rw [proofD_split l i (by omega)]
      rw [Nat.pow_succ] at h
      split
      · rw [List.length_append, List.length_singleton]
        have := ih (l.take (lp l.length)) i (by rw [List.length_take]; omega)
        omega
      · rw [List.length_append, List.length_singleton]
        have := ih (l.drop (lp l.length)) (i - lp l.length) (by rw [List.length_drop]; omega)
        omega

/-! extensions -/
end
section
open Go.RowKit Go.Shelf
attribute [local go_sem] gAt gUpon
attribute [local simp] Gr.refl Gr.alloc

/-- strings as cells -/
def sC (l : List ByteArray) : List Value := l.map Value.string
/-- lengths as cells -/
def nC (l : List Nat) : List Value := l.map fun n : Nat => Value.int .i64 (n : Int)
/-- v is a slice of strings that holds l -/
def StrsAt (v : Value) (l : List ByteArray) (w : World) : Prop :=
  (v = .slice none 0 0 ∧ l = []) ∨ ∃ g off cap, v = .slice (some ⟨g, off, none⟩) l.length cap ∧ l.length ≤ cap ∧ cap ≤ maxLen ∧
    ∀ (j : Nat) x, l[j]? = some x → w.cell? ⟨g, off + j, none⟩ = some (.string x)
theorem StrsAt.shape {v : Value} {l : List ByteArray} {w : World} (h : StrsAt v l w) : ∃ p cap, v = .slice p l.length cap := by
  rcases h with ⟨rfl, rfl⟩ | ⟨g, off, cap, rfl, _⟩
  · exact ⟨none, 0, rfl⟩
  · exact ⟨_, cap, rfl⟩
theorem StrsAt.gr {v : Value} {l : List ByteArray} {w x : World} (h : StrsAt v l w) (hg : Gr w x) : StrsAt v l x := by
  rcases h with h | ⟨g, off, cap, rfl, h1, h2, h4⟩
  · exact .inl h
  · exact .inr ⟨g, off, cap, rfl, h1, h2, fun j x hj => hg.cell (h4 j x hj)⟩
theorem info9 : (Tryz.prog.info? 9).map (fun i => (i.zero, i.size, i.bytes)) = some (some (.string ⟨#[]⟩), 1, 16) := by kernel_rfl
theorem info3 : (Tryz.prog.info? 3).map (fun i => (i.zero, i.size, i.bytes)) = some (some (.int .i64 0), 1, 8) := by kernel_rfl
theorem Own.slice {B s : Nat} {v : Value} {n : Nat} {xs : List Value} {w : World} (h : Own B s v n xs w) : ∃ p c, v = .slice p n c := by
  rcases h.2 with ⟨h1, h0⟩ | ⟨g, off, cap, h1, _⟩
  · exact ⟨none, 0, by rw [h1, h0]⟩
  · exact ⟨_, _, h1⟩
theorem Own.lt {B s : Nat} {v : Value} {n : Nat} {xs : List Value} {w : World} (h : Own B s v n xs w) (hn : 0 < n * s) {g : Nat} (hg : v.ownBlock = some g) : g < w.heap.size := by
  rcases h.2 with ⟨rfl, _⟩ | ⟨g', off, cap, rfl, hB, hc, hm, _, hw⟩
  · simp [Value.ownBlock] at hg
  · simp [Value.ownBlock] at hg; subst hg
    have := Nat.mul_le_mul_right s hc
    exact isSome_lt (hw 0 (by omega)).1
theorem Own.ge {B s : Nat} {v : Value} {n : Nat} {xs : List Value} {w : World} (h : Own B s v n xs w) {g : Nat} (hg : v.ownBlock = some g) : B ≤ g := by
  rcases h.2 with ⟨rfl, _⟩ | ⟨g', off, cap, rfl, hB, _⟩
  · simp [Value.ownBlock] at hg
  · simp [Value.ownBlock] at hg; subst hg; exact hB
theorem gr_step {b : Option Nat} {w wr w1 w2 : World} (hG : Gr w wr) (hg : Gr wr w1) (hc : Chg b w1 w2) (hb : ∀ g, b = some g → w.heap.size ≤ g) : Gr w w2 :=
  Below.trans (hG.trans hg) (hc.below hb (hG.trans hg).size)
theorem Own.take {B s : Nat} {g off n cap : Nat} {xs : List Value} {w : World} (h : Own B s (.slice (some ⟨g, off, none⟩) n cap) n xs w) (k : Nat) (hk : k ≤ n) : Own B s (.slice (some ⟨g, off, none⟩) k cap) k (xs.take (k * s)) w := by
  have hl := h.1
  rcases h.2 with ⟨h, _⟩ | ⟨g', off', cap', he, hB, hc, hm, hx, hw⟩
  · simp at h
  · simp at he
    obtain ⟨⟨rfl, rfl⟩, rfl⟩ := he
    have := Nat.mul_le_mul_right s hk
    refine ⟨by rw [List.length_take]; omega, .inr ⟨g, off, cap, rfl, hB, by omega, hm, ?_, hw⟩⟩
    intro j u hj
    rw [List.getElem?_take] at hj
    split at hj
    · exact hx j u hj
    · cases hj
theorem one_row {w : World} {b : Nat} {v : Value} {T : TypeId} (h : w.heap[b]? = some (.cells [v].toArray T (0, 0))) : ∀ (j : Nat) (u : Value), [v][j]? = some u → w.cell? ((⟨b, 0, none⟩ : Addr).add j) = some u := by
  intro j u hj
  match j, hj with
  | 0, hj =>
    simp at hj; subst hj
    exact cell_of_row _ _ _ _ _ _ h
/-- two slices that lie in different blocks -/
def Dis (v u : Value) (w : World) : Prop :=
  (∀ g, v.ownBlock = some g → g < w.heap.size) ∧ (∀ g, u.ownBlock = some g → g < w.heap.size) ∧ ∀ g, v.ownBlock = some g → u.ownBlock ≠ some g
theorem Dis.symm {v u : Value} {w : World} (h : Dis v u w) : Dis u v w := ⟨h.2.1, h.1, fun g hg hv => h.2.2 g hv hg⟩
theorem Dis.nil (v : Value) (w : World) (hv : v.ownBlock = none) : Dis v v w := ⟨by simp [hv], by simp [hv], by simp [hv]⟩
theorem Dis.keep {v u : Value} {w : World} (h : Dis v u w) : u.ownBlock = none ∨ u.ownBlock ≠ v.ownBlock := by
  cases hu : u.ownBlock with
  | none => exact .inl rfl
  | some g => exact .inr (fun e => h.2.2 g e.symm hu)
theorem Dis.grown {v u v' : Value} {w w1 w2 : World} (h : Dis v u w) (hg : Gr w w1) (hc : Chg v.ownBlock w1 w2) (hb : ∀ g, v'.ownBlock = some g → v.ownBlock = some g ∨ w1.heap.size ≤ g)
    {B s n : Nat} {xs : List Value} (ho : Own B s v' n xs w2) (hn : 0 < n * s) : Dis v' u w2 := by
  refine ⟨fun g hg' => ho.lt hn hg', fun g hu => ?_, fun g hv' hu => ?_⟩
  · have := h.2.1 g hu; have := hg.size; have := hc.size; omega
  · rcases hb g hv' with h1 | h1
    · exact h.2.2 g h1 hu
    · have := h.2.1 g hu; have := hg.size; omega
end
end Go.Proofs.YtaoggehdkddgeaaGreatDoor
end
