/- The contract of digest.VerifyExtension. -/
import Derived.Test.YtbkhkpcnclhoiaaDoorExt
namespace Go.Proofs.YtbkhkpcnclhoiaaDoor
open Go.RowKit Go.Shelf
attribute [local go_sem] gAt gUpon Oper.semAt_some
attribute [local simp] Gr.refl Gr.alloc

/-- the first value takes the steps in which it lies on the second side -/
def stepF (x : ByteArray × Bool) (v : ByteArray) : ByteArray := if x.2 then joinD x v else v
def foldFst {α : Type} (F : α → ByteArray × Bool) (ra : ByteArray) (pre : List α) : ByteArray := (pre.map F).foldl (fun out x => stepF x out) ra
theorem foldFst_push {α : Type} (F : α → ByteArray × Bool) (ra : ByteArray) (pre : List α) (k : α) : foldFst F ra (pre ++ [k]) = stepF (F k) (foldFst F ra pre) := by
  unfold foldFst; rw [List.map_append, List.foldl_append]; rfl
theorem stepF_size (x : ByteArray × Bool) (v : ByteArray) (h : v.size = 32) : (stepF x v).size = 32 := by
  unfold stepF; split
  · exact joinD_size _ _
  · exact h
theorem foldFst_size {α : Type} (F : α → ByteArray × Bool) (ra : ByteArray) (h : ra.size = 32) (pre : List α) : (foldFst F ra pre).size = 32 := by
  unfold foldFst
  generalize pre.map F = L
  induction L generalizing ra with
  | nil => exact h
  | cons x L ih => exact ih _ (stepF_size _ _ h)
theorem foldFst_rev {m : Nat} (L : List (ByteArray × Bool)) (hm : L.length = m) (F : _root_.Fin m → ByteArray × Bool) (hF : ∀ k, F k = L.reverse.getD k.1 (⟨#[]⟩, false)) (ra : ByteArray) : foldFst F ra (List.finRange m) = L.foldr stepF ra := by
  unfold foldFst
  rw [show F = fun k => L.reverse.getD k.1 (⟨#[]⟩, false) from funext hF, fin_getD _ _ (by rw [List.length_reverse]; exact hm), List.foldl_reverse]
theorem both_step (old : ByteArray) (Q : List ByteArray) (x : ByteArray) {M N : Nat} (b : Bool) (h1 : M < N) :
    bothR old (Q ++ [x]).reverse M N b = (bothR old Q.reverse (if decide (lp N < M) then M - lp N else M) (if decide (lp N < M) then N - lp N else lp N) (if decide (lp N < M) then false else b)).map (fun p => (stepF (x, decide (lp N < M)) p.1, joinD (x, decide (lp N < M)) p.2)) := by
  rw [List.reverse_append, List.reverse_singleton, List.singleton_append, bothR, if_pos h1]
  by_cases h : lp N < M
  · rw [if_neg (by omega), decide_eq_true h]; rfl
  · rw [if_pos (by omega), decide_eq_false h]; rfl

/-- two variables in boxes through the rounds -/
def Box2I {α : Type} (w : World) (n0 b1 b2 : Nat) (t : TypeId) (f g : List α → Value) (pre : List α) (W : World) : Prop := BoxI w n0 b1 t f pre W ∧ Boxed W b2 t (g pre)
theorem box2I_own {α : Type} (w x : World) (b1 b2 : Nat) (t : TypeId) (f g : List α → Value) (h1 : b1 < x.heap.size) (h2 : b2 < x.heap.size) (ht : 0 < x.heap.size) (hw : w.heap.size ≤ x.heap.size) : OwnFrom x.heap.size (Box2I w x.heap.size b1 b2 t f g) := by
  rintro s W W' row ⟨i1, i2⟩ hgr hr
  refine ⟨boxI_own w x b1 t f h1 ht hw s W W' row i1 hgr hr, (Chg.of_grownBy hgr).block i2 (fun e => ?_)⟩
  have := (hr _ e.symm).1; omega
theorem Box2I.gr {α : Type} {w W W' : World} {n0 b1 b2 : Nat} {t : TypeId} {f g : List α → Value} {pre : List α} (h : Box2I w n0 b1 b2 t f g pre W) (hG : Gr W W') : Box2I w n0 b1 b2 t f g pre W' := ⟨h.1.gr hG, hG.block h.2⟩

theorem boxI_other {α : Type} {w W W' : World} {n0 b1 b2 : Nat} {t : TypeId} {f : List α → Value} {pre : List α} {v : Value} (h : BoxI w n0 b1 t f pre W) (hG : Gr W W') (hne : b1 ≠ b2) (hb : w.heap.size ≤ b2) (ht : 0 ≠ b2) :
    BoxI w n0 b1 t f pre (W'.setCell ⟨b2, 0, none⟩ v) := by
  have h' := h.gr hG
  obtain ⟨i1, i3, i4, i5⟩ := h'
  have hc : Chg (some b2) W' (W'.setCell ⟨b2, 0, none⟩ v) := setCells_chg b2 [v] 0 W'
  exact ⟨i1.other hne v, i3.same (hc.at_ i3.lt (by simp; exact ht)), (show Below w.heap.size w W' from i4).trans (hc.below (fun k hk => by cases hk; exact hb) i4.size), Nat.le_trans i5 hc.size⟩
set_option maxRecDepth 100000 in
theorem ve_neg (old root : ByteArray) (m n : Int) (v : Value) (l : List ByteArray) (w : World) (hm : m < 0) :
    Calls Tryd.prog 22 #[.string old, .int .i64 m, .string root, .int .i64 n, v] w fun e w' => e = .returned (.bool false) ∧ Gr w w' := by
  have ht1 : decide (m < 0) = true := decide_eq_true hm
  refine (callsIn_wide (n := 6)).1 ?_
  refine callsIn_of_wp_marks Tryd.func22 rfl trivial ?_ rfl
  simp only [Tryd.ntmps22, List.size_toArray, List.length_cons, List.length_nil, Nat.reduceAdd, Nat.reduceSub, Array.replicate_succ, Array.replicate_zero, List.push_toArray, List.append_toArray, List.nil_append, List.cons_append]
  refine wpIn_wide.2 ?_
  go_wp2_with fail
  exact ⟨_, results_tmp rfl _ _ _, rfl, Gr.refl _⟩
set_option maxRecDepth 100000 in
theorem ve_big (old root : ByteArray) (m n : Int) (v : Value) (l : List ByteArray) (w : World) (hm : 0 ≤ m) (hn : n < m) :
    Calls Tryd.prog 22 #[.string old, .int .i64 m, .string root, .int .i64 n, v] w fun e w' => e = .returned (.bool false) ∧ Gr w w' := by
  have ht1 : decide (m < 0) = false := decide_eq_false (by omega)
  have ht2 : decide (n < m) = true := decide_eq_true hn
  refine (callsIn_wide (n := 6)).1 ?_
  refine callsIn_of_wp_marks Tryd.func22 rfl trivial ?_ rfl
  simp only [Tryd.ntmps22, List.size_toArray, List.length_cons, List.length_nil, Nat.reduceAdd, Nat.reduceSub, Array.replicate_succ, Array.replicate_zero, List.push_toArray, List.append_toArray, List.nil_append, List.cons_append]
  refine wpIn_wide.2 ?_
  go_wp2_with fail
  exact ⟨_, results_tmp rfl _ _ _, rfl, Gr.refl _⟩
set_option maxRecDepth 100000 in
theorem ve_odd (old root : ByteArray) (m n : Int) (v : Value) (l : List ByteArray) (w : World) (hv : StrsAt v l w) (hl : l.length ≤ 1099511627776) (hm : 0 ≤ m) (hn : m ≤ n) (ha : allD l = false) :
    Calls Tryd.prog 22 #[.string old, .int .i64 m, .string root, .int .i64 n, v] w fun e w' => e = .returned (.bool false) ∧ Gr w w' := by
  have ht1 : decide (m < 0) = false := decide_eq_false (by omega)
  have ht2 : decide (n < m) = false := decide_eq_false (by omega)
  have HA := Lib.hid (all_any v l w hv (by omega))
  rw [ha] at HA
  clear ha hv
  refine (callsIn_wide (n := 6)).1 ?_
  refine callsIn_of_wp_marks Tryd.func22 rfl trivial ?_ rfl
  simp only [Tryd.ntmps22, List.size_toArray, List.length_cons, List.length_nil, Nat.reduceAdd, Nat.reduceSub, Array.replicate_succ, Array.replicate_zero, List.push_toArray, List.append_toArray, List.nil_append, List.cons_append]
  refine wpIn_wide.2 ?_
  go_wp2_with fail
  refine HA.out.mono ?_
  rintro e w' ⟨rfl, rfl⟩
  clear HA
  go_wp2_with fail
  exact ⟨_, results_tmp rfl _ _ _, rfl, Gr.refl _⟩
set_option maxRecDepth 100000 in
theorem ve_old (old root : ByteArray) (m n : Int) (v : Value) (l : List ByteArray) (w : World) (hv : StrsAt v l w) (hl : l.length ≤ 1099511627776) (hm : 0 ≤ m) (hn : m ≤ n) (ha : allD l = true) (ho : old.size ≠ 32) :
    Calls Tryd.prog 22 #[.string old, .int .i64 m, .string root, .int .i64 n, v] w fun e w' => e = .returned (.bool false) ∧ Gr w w' := by
  have ht1 : decide (m < 0) = false := decide_eq_false (by omega)
  have ht2 : decide (n < m) = false := decide_eq_false (by omega)
  have ht3 : ((old.size : Int) == 32) = false := by rw [beq_eq_false_iff_ne]; omega
  have HA := Lib.hid (all_any v l w hv (by omega))
  rw [ha] at HA
  clear ha hv
  refine (callsIn_wide (n := 6)).1 ?_
  refine callsIn_of_wp_marks Tryd.func22 rfl trivial ?_ rfl
  simp only [Tryd.ntmps22, List.size_toArray, List.length_cons, List.length_nil, Nat.reduceAdd, Nat.reduceSub, Array.replicate_succ, Array.replicate_zero, List.push_toArray, List.append_toArray, List.nil_append, List.cons_append]
  refine wpIn_wide.2 ?_
  go_wp2_with fail
  refine HA.out.mono ?_
  rintro e w' ⟨rfl, rfl⟩
  clear HA
  go_wp2
  exact ⟨_, results_tmp rfl _ _ _, rfl, Gr.refl _⟩
set_option maxRecDepth 100000 in
theorem ve_root (old root : ByteArray) (m n : Int) (v : Value) (l : List ByteArray) (w : World) (hv : StrsAt v l w) (hl : l.length ≤ 1099511627776) (hm : 0 ≤ m) (hn : m ≤ n) (ha : allD l = true) (ho : old.size = 32) (hr : root.size ≠ 32) :
    Calls Tryd.prog 22 #[.string old, .int .i64 m, .string root, .int .i64 n, v] w fun e w' => e = .returned (.bool false) ∧ Gr w w' := by
  have ht1 : decide (m < 0) = false := decide_eq_false (by omega)
  have ht2 : decide (n < m) = false := decide_eq_false (by omega)
  have ht3 : ((old.size : Int) == 32) = true := by rw [beq_iff_eq]; omega
  have ht4 : ((root.size : Int) == 32) = false := by rw [beq_eq_false_iff_ne]; omega
  have HA := Lib.hid (all_any v l w hv (by omega))
  rw [ha] at HA
  clear ha hv
  refine (callsIn_wide (n := 6)).1 ?_
  refine callsIn_of_wp_marks Tryd.func22 rfl trivial ?_ rfl
  simp only [Tryd.ntmps22, List.size_toArray, List.length_cons, List.length_nil, Nat.reduceAdd, Nat.reduceSub, Array.replicate_succ, Array.replicate_zero, List.push_toArray, List.append_toArray, List.nil_append, List.cons_append]
  refine wpIn_wide.2 ?_
  go_wp2_with fail
  refine HA.out.mono ?_
  rintro e w' ⟨rfl, rfl⟩
  clear HA
  go_wp2
  exact ⟨_, results_tmp rfl _ _ _, rfl, Gr.refl _⟩
end Go.Proofs.YtbkhkpcnclhoiaaDoor
