/- The contracts of the function that Decode defers: where nothing panicked, and where an error number was thrown. -/
import Derived.Defers
import Derived.Recover
import Derived.Laws.Pointers
import Derived.Test.YtjnnhhengpinmaaGreatDoorMkA
import Derived.Test.YtjnnhhengpinmaaGreatDoorNC
import Derived.Test.YtjnnhhengpinmaaGreatDoorNH
import Derived.BigQuiet
import Derived.Test.YtjnnhhengpinmaaGreatDoorHeldP
namespace Go.Proofs.YtjnnhhengpinmaaGreatDoor
section
open Go Go.RowKit

theorem row1_set {W : World} {g : Nat} {a a' : Value} {t : TypeId} (h : W.heap[g]? = some (.cells #[a] t (0, 0))) : (W.setCell ⟨g, 0, none⟩ a').heap[g]? = some (.cells #[a'] t (0, 0)) := by
  rw [heap_setCell_same W g 0 _ t a' h]; rfl
theorem assert_errno (n : Int) (w : World) : (Instr.typeAssert (.iface 31 (.int .i64 n)) 20 31 true).run Tryz.prog w = .ok (.tuple #[.int .i64 n, .bool true]) w := by
  kernel_rfl
theorem catch_idle (bp be : Nat) (w : World) :
    CallsD Tryz.prog 70 #[.pointer (some ⟨bp, 0, none⟩), .pointer (some ⟨be, 0, none⟩)] .returning w fun e u' w' => e = .returned (.tuple #[]) ∧ u' = .returning ∧ w' = w := by
  refine callsD_of_wpS Tryz.func70 rfl fun c₀ cs hu => ?_
  simp only [Tryz.ntmps70, List.size_toArray, List.length_cons, List.length_nil, Nat.reduceAdd, Nat.reduceSub, Array.replicate_succ, Array.replicate_zero, List.push_toArray, List.append_toArray, List.nil_append, List.cons_append]
  apply wpS_seq
  apply wpS_region
  simp [wpOpsS, go_sem, recoverD, hu, Exit.thenS]
  refine wpS_of_wp ?_
  go_wp2_with fail
  refine ⟨rfl, .returning, ?_, _, results_none rfl _ _ _, rfl, rfl, rfl⟩
  cases c₀; simp_all
set_option maxRecDepth 100000 in
theorem catch_thrown (bp be : Nat) (n : Int) (older : List PanicEntry) (a b c d : Value) (t1 t2 : TypeId) (w : World) (hp : w.heap[bp]? = some (.cells #[a, b, c] t1 (0, 0))) (he : w.heap[be]? = some (.cells #[d] t2 (0, 0))) (hne : bp ≠ be) :
    CallsD Tryz.prog 70 #[.pointer (some ⟨bp, 0, none⟩), .pointer (some ⟨be, 0, none⟩)] (.panicking ({ v := .iface 31 (.int .i64 n), recovered := false } :: older)) w fun e u' w' =>
      e = .returned (.tuple #[]) ∧ u' = .panicking ({ v := .iface 31 (.int .i64 n), recovered := true } :: older) ∧
      w' = (((w.setCell ⟨bp, 0, none⟩ (.int .i64 0)).setCell ⟨bp, 1, none⟩ (.int .i64 0)).setCell ⟨bp, 2, none⟩ (.slice none 0 0)).setCell ⟨be, 0, none⟩ (.int .i64 n) := by
  obtain ⟨k0, k1, k2⟩ := row3 hp
  obtain ⟨f0, f1, f2⟩ := frozen3 hp
  have e0 := cell_of_row _ be 0 _ _ _ he
  have e1 := frozen_of_row _ be 0 _ _ he
  refine callsD_of_wpS Tryz.func70 rfl fun c₀ cs hu => ?_
  simp only [Tryz.ntmps70, List.size_toArray, List.length_cons, List.length_nil, Nat.reduceAdd, Nat.reduceSub, Array.replicate_succ, Array.replicate_zero, List.push_toArray, List.append_toArray, List.nil_append, List.cons_append]
  apply wpS_seq
  apply wpS_region
  simp [wpOpsS, go_sem, recoverD, hu, Exit.thenS]
  refine wpS_of_wp ?_
  have hta := assert_errno n w
  go_wp2_with fail
  exact ⟨rfl, _, rfl, _, results_none rfl _ _ _, rfl, rfl, rfl⟩
end
section
open Go Go.RowKit Go.Shelf
attribute [local go_sem] gAt gUpon
attribute [local simp] Gr.refl Gr.alloc

theorem rdZ_len : ∀ (f i z : Nat) (l : List UInt8) (y : Nat) (r : List UInt8), rdZ f i z l = some (y, r) → r.length < l.length := by
  intro f
  induction f with
  | zero => intro i z l y r h; simp [rdZ] at h
  | succ f ih =>
    intro i z l y r h
    cases l with
    | nil => simp [rdZ] at h
    | cons b l =>
      rw [rdZ] at h
      split at h
      · have := ih _ _ _ _ _ h; simp; omega
      · split at h
        · cases h
        · injection h with h; injection h with e1 e2
          subst e2; simp
theorem rdZ_drop : ∀ (f i z : Nat) (l : List UInt8) (y : Nat) (r : List UInt8), rdZ f i z l = some (y, r) → r = l.drop (l.length - r.length) := by
  intro f
  induction f with
  | zero => intro i z l y r h; simp [rdZ] at h
  | succ f ih =>
    intro i z l y r h
    have hlen := rdZ_len _ _ _ _ _ _ h
    cases l with
    | nil => simp [rdZ] at h
    | cons b l =>
      rw [rdZ] at h
      split at h
      · have h1 := ih _ _ _ _ _ h
        have h2 := rdZ_len _ _ _ _ _ _ h
        rw [List.length_cons, show l.length + 1 - r.length = (l.length - r.length) + 1 by omega, List.drop_succ_cons]; exact h1
      · split at h
        · cases h
        · injection h with h; injection h with e1 e2
          subst e2; simp
theorem rdI_drop {l r : List UInt8} {n : Int} (h : rdI l = some (n, r)) : r.length < l.length ∧ r = l.drop (l.length - r.length) := by
  unfold rdI at h
  rw [Option.map_eq_some_iff] at h
  obtain ⟨⟨y, r'⟩, h1, h2⟩ := h
  injection h2 with e1 e2
  simp only at e2
  subst e2
  exact ⟨rdZ_len _ _ _ _ _ _ h1, rdZ_drop _ _ _ _ _ _ h1⟩
/-- what is left behind a number, read from the text -/
theorem rdI_rest {s : ByteArray} {k : Nat} {r : List UInt8} {n : Int} (h : rdI (s.data.toList.drop k) = some (n, r)) : r.length < s.size ∧ k < s.size - r.length ∧ r = s.data.toList.drop (s.size - r.length) := by
  obtain ⟨h1, h2⟩ := rdI_drop h
  have hlen : s.data.toList.length = s.size := by simp
  rw [List.length_drop, hlen] at h1 h2
  refine ⟨by omega, by omega, ?_⟩
  rw [List.drop_drop] at h2
  rw [show k + (s.size - k - r.length) = s.size - r.length by omega] at h2
  exact h2
theorem rdS_rest {s x : ByteArray} {k : Nat} {r : List UInt8} (h : rdS (s.data.toList.drop k) = some (x, r)) : k ≤ s.size - r.length ∧ r.length ≤ s.size ∧ r = s.data.toList.drop (s.size - r.length) := by
  have hlen : s.data.toList.length = s.size := by simp
  unfold rdS at h
  split at h
  · cases h
  · rename_i n q hq
    split at h
    · rename_i hn
      injection h with h; injection h with e1 e2
      obtain ⟨h1, h2, h3⟩ := rdI_rest hq
      have hl : r.length = q.length - n.toNat := by rw [← e2, List.length_drop]
      refine ⟨by omega, by omega, ?_⟩
      rw [← e2, h3, List.drop_drop, List.length_drop, hlen]
      congr 1
      omega
    · cases h
/-- what String gives -/
def txtV (n : Nat) : Option (ByteArray × List UInt8) → Value
  | none => .tuple #[.string ⟨#[]⟩, .int .i64 0, .int .i64 10]
  | some (x, r) => .tuple #[.string x, .int .i64 ((n - r.length : Nat) : Int), .int .i64 0]
theorem cut_bytes (s : ByteArray) (a n : Nat) : s.extract a (a + n) = ⟨((s.data.toList.drop a).take n).toArray⟩ := by
  apply ba_ext
  rw [extB, Nat.add_sub_cancel_left]
set_option maxRecDepth 100000 in
theorem string_any (s : ByteArray) (k : Nat) (hs : s.size ≤ 9223372036854775000) (ha : k ≤ s.size) (w : World) :
    Calls Tryz.prog 134 #[.string s, .int .i64 (k : Int)] w fun e w' => e = .returned (txtV s.size (rdS (s.data.toList.drop k))) ∧ w = w' := by
  have HI := Lib.hid (int_any s k hs ha)
  obtain ⟨R, hR⟩ : ∃ R, rdI (s.data.toList.drop k) = R := ⟨_, rfl⟩
  cases R with
  | none =>
    have HR : Hid (rdS (s.data.toList.drop k) = none) := Lib.hid (by unfold rdS; rw [hR])
    rw [hR] at HI
    rw [HR.out]
    clear hR
    go_enter Tryz.func134, Tryz.ntmps134
    go_wp2_with fail
    refine (HI.out w).mono ?_
    rintro e w1 ⟨rfl, rfl⟩
    unfold intV
    clear HI
    go_wp2_with fail
    refine bodyPost_ret (results_tmp3 rfl _ _ _) rfl ?_
    exact ⟨rfl, rfl⟩
  | some p =>
    obtain ⟨n, q⟩ := p
    obtain ⟨h1, h2, h3⟩ := rdI_rest hR
    have hz := (rdI_inv hR).1
    unfold zigOk at hz; simp only [Bool.and_eq_true, decide_eq_true_eq] at hz
    rw [hR] at HI
    obtain ⟨nx, hnx⟩ : ∃ nx, s.size - q.length = nx := ⟨_, rfl⟩
    have hq : q.length = s.size - nx := by omega
    by_cases c1 : n < 0
    · have HR : Hid (rdS (s.data.toList.drop k) = none) := Lib.hid (by unfold rdS; rw [hR]; simp only; rw [if_neg (by omega)])
      rw [HR.out]
      have t1 : decide (n < 0) = true := decide_eq_true c1
      clear hR h3
      go_enter Tryz.func134, Tryz.ntmps134
      go_wp2_with fail
      refine (HI.out w).mono ?_
      rintro e w1 ⟨rfl, rfl⟩
      unfold intV
      clear HI
      go_wp2_with fail
      refine bodyPost_ret (results_tmp3 rfl _ _ _) rfl ?_
      exact ⟨rfl, rfl⟩
    · have t1 : decide (n < 0) = false := decide_eq_false c1
      by_cases c2 : 65536 < n
      · have HR : Hid (rdS (s.data.toList.drop k) = none) := Lib.hid (by unfold rdS; rw [hR]; simp only; rw [if_neg (by omega)])
        rw [HR.out]
        have t2 : decide (65536 < n) = true := decide_eq_true c2
        clear hR h3
        go_enter Tryz.func134, Tryz.ntmps134
        go_wp2_with fail
        refine (HI.out w).mono ?_
        rintro e w1 ⟨rfl, rfl⟩
        unfold intV
        clear HI
        go_wp2_with fail
        refine bodyPost_ret (results_tmp3 rfl _ _ _) rfl ?_
        exact ⟨rfl, rfl⟩
      · have t2 : decide (65536 < n) = false := decide_eq_false c2
        obtain ⟨m, rfl⟩ := Int.eq_ofNat_of_zero_le (show 0 ≤ n by omega)
        have e3 : (s.size : Int) - (nx : Int) = ((s.size - nx : Nat) : Int) := by omega
        by_cases c3 : s.size - nx < m
        · have HR : Hid (rdS (s.data.toList.drop k) = none) := Lib.hid (by unfold rdS; rw [hR]; simp only; rw [if_neg (by omega)])
          rw [HR.out]
          have t3 : decide ((s.size : Int) - (nx : Int) < (m : Int)) = true := decide_eq_true (by omega)
          have t3' : decide (s.size - nx < m) = true := decide_eq_true c3
          rw [show intV s.size (some ((m : Int), q)) = .tuple #[.int .i64 (m : Int), .int .i64 (nx : Int), .int .i64 0] by rw [← hnx]; rfl] at HI
          clear hR h3
          go_enter Tryz.func134, Tryz.ntmps134
          go_wp2_with fail
          refine (HI.out w).mono ?_
          rintro e w1 ⟨rfl, rfl⟩
          clear HI
          go_wp2_with fail
          refine bodyPost_ret (results_tmp3 rfl _ _ _) rfl ?_
          exact ⟨rfl, rfl⟩
        · have t3 : decide ((s.size : Int) - (nx : Int) < (m : Int)) = false := decide_eq_false (by omega)
          have t3' : decide (s.size - nx < m) = false := decide_eq_false c3
          obtain ⟨y, hy⟩ : ∃ y, nx + m = y := ⟨_, rfl⟩
          have HR : Hid (txtV s.size (rdS (s.data.toList.drop k)) = .tuple #[.string (s.extract nx y), .int .i64 (y : Int), .int .i64 0]) := Lib.hid (by
            unfold rdS; rw [hR]; simp only
            rw [if_pos (by omega), Int.toNat_natCast, ← hy, cut_bytes s nx m]
            show Value.tuple #[.string _, .int .i64 ((s.size - (q.drop m).length : Nat) : Int), .int .i64 0] = _
            rw [List.length_drop, hq, show s.size - (s.size - nx - m) = nx + m by omega]
            rw [hnx] at h3
            rw [← h3])
          rw [HR.out]
          rw [show intV s.size (some ((m : Int), q)) = .tuple #[.int .i64 (m : Int), .int .i64 (nx : Int), .int .i64 0] by rw [← hnx]; rfl] at HI
          have e4 : (nx : Int) + (m : Int) = (y : Int) := by omega
          have e5 : IntKind.i64.wrap (y : Int) = (y : Int) := IntWalk.i64_in _ (by omega)
          have b1 : (nx : Int) ≤ (y : Int) := by omega
          have b2 : (y : Int) ≤ (s.size : Int) := by omega
          clear hR h3
          go_enter Tryz.func134, Tryz.ntmps134
          go_wp2_with fail
          refine (HI.out w).mono ?_
          rintro e w1 ⟨rfl, rfl⟩
          clear HI
          go_wp2_with fail
          refine bodyPost_ret (results_tmp3 rfl _ _ _) rfl ?_
          exact ⟨rfl, rfl⟩
end
section
open Go Go.RowKit Go.Shelf
attribute [local go_sem] gAt gUpon
attribute [local simp] Gr.refl Gr.alloc

/-- the reader in block g -/
def RdAt (g : Nat) (s : ByteArray) (k : Nat) (w : World) : Prop := w.heap[g]? = some (.cells #[.string s, .int .i64 (k : Int)] 100 (0, 0))
def thrown (n : Int) : List PanicEntry := [{ v := .iface 31 (.int .i64 n), recovered := false }]
/-- what a method of the reader does: it gives what is read, or throws -/
def RdPost {α : Type} (g : Nat) (s : ByteArray) (mk : α → Value) (w : World) (o : Option (α × List UInt8)) (e : Ending) (w' : World) : Prop :=
  match o with
  | none => e = .panicked (thrown 10) ∧ Chg (some g) w w'
  | some (x, r) => e = .returned (mk x) ∧ RdAt g s (s.size - r.length) w' ∧ Chg (some g) w w'
theorem RdAt.gr {g : Nat} {s : ByteArray} {k : Nat} {w x : World} (h : RdAt g s k w) (hg : Gr w x) : RdAt g s k x := hg.block h
theorem take_ok (g : Nat) (s : ByteArray) (k n : Nat) (w : World) (h : RdAt g s k w) :
    Calls Tryz.prog 133 #[.pointer (some ⟨g, 0, none⟩), .int .i64 (n : Int), .int .i64 0] w fun e w' => e = .returned (.tuple #[]) ∧ RdAt g s n w' ∧ Chg (some g) w w' := by
  obtain ⟨k0, k1⟩ := row2 h
  have f1 := frozen_of_row _ g 1 _ _ h
  have HX : Hid (RdAt g s n (w.setCell ⟨g, 1, none⟩ (.int .i64 (n : Int))) ∧ Chg (some g) w (w.setCell ⟨g, 1, none⟩ (.int .i64 (n : Int)))) :=
    Lib.hid ⟨by unfold RdAt; rw [heap_setCell_same w g 1 _ _ _ h]; rfl, setCells_chg g [.int .i64 (n : Int)] 1 w⟩
  clear h
  go_enter Tryz.func133, Tryz.ntmps133
  go_wp2_with fail
  go_end0
  exact ⟨rfl, HX.out⟩
theorem take_bad (g : Nat) (w : World) :
    Calls Tryz.prog 133 #[.pointer (some ⟨g, 0, none⟩), .int .i64 0, .int .i64 10] w fun e w' => e = .panicked (thrown 10) ∧ w = w' := by
  go_enter Tryz.func133, Tryz.ntmps133
  go_wp2_with fail
  exact ⟨rfl, rfl, rfl⟩
theorem number_any (g : Nat) (s : ByteArray) (k : Nat) (w : World) (h : RdAt g s k w) (hs : s.size ≤ 9223372036854775000) (hk : k ≤ s.size) :
    Calls Tryz.prog 107 #[.pointer (some ⟨g, 0, none⟩)] w (RdPost g s (fun n => .int .i64 n) w (rdI (s.data.toList.drop k))) := by
  have HI := Lib.hid (int_any s k hs hk)
  have HR := Lib.hid h
  obtain ⟨k0, k1⟩ := row2 h
  have S0 : ∀ q : GrS w.drew, q.w.cell? ⟨g, 0, none⟩ = some (.string s) := fun q => q.h.cell (w := w.drew) k0
  have S1 : ∀ q : GrS w.drew, q.w.cell? ⟨g, 1, none⟩ = some (.int .i64 (k : Int)) := fun q => q.h.cell (w := w.drew) k1
  clear h k0 k1
  obtain ⟨R, hR⟩ : ∃ R, rdI (s.data.toList.drop k) = R := ⟨_, rfl⟩
  rw [hR] at HI ⊢
  clear hR
  cases R with
  | none =>
    unfold intV at HI
    go_enter Tryz.func107, Tryz.ntmps107
    go_upto_region 1 with fail
    refine region_grow 16 24 (by kernel_rfl) rfl (by kernel_rfl) rfl rfl ?_
    simp only [List.take_succ_cons, List.take_zero, List.drop_succ_cons, List.drop_zero]
    refine seg 8 rfl rfl rfl rfl ?_
    simp only [List.take_succ_cons, List.take_zero, List.drop_succ_cons, List.drop_zero]
    repeat (go_big_quiet_step (fail))
    refine wpQuiet_nil ?_
    intro _
    refine grow_det (v := .tuple #[.int .i64 0, .int .i64 0, .int .i64 10]) rfl rfl rfl rfl rfl ?_ ?_
    · intro w1 hG
      go_simp
      refine (HI.out w1).mono ?_
      rintro e w' ⟨rfl, rfl⟩
      exact ⟨rfl, Gr.refl _⟩
    simp only [Act.put, List.setIfInBounds_toArray, List.set_cons_zero, List.set_cons_succ]
    refine seg 7 rfl rfl rfl rfl ?_
    simp only [List.take_succ_cons, List.take_zero, List.drop_succ_cons, List.drop_zero]
    repeat (go_big_quiet_step (fail))
    refine wpQuiet_nil ?_
    intro _
    refine grow_end0 rfl rfl ?_
    intro w2 hG
    have HG : Hid (Gr w w2) := Lib.hid ((Gr.drew w).trans hG)
    clear hG S0 S1 HI
    go_wp2_with fail
    refine (take_bad g w2).mono ?_
    rintro e w3 ⟨rfl, rfl⟩
    go_simp
    exact ⟨rfl, rfl, Chg.of_gr HG.out⟩
  | some p =>
    obtain ⟨n, r⟩ := p
    obtain ⟨m, hm⟩ : ∃ m, s.size - r.length = m := ⟨_, rfl⟩
    have Hm := Lib.hid hm
    rw [show intV s.size (some (n, r)) = .tuple #[.int .i64 n, .int .i64 (m : Int), .int .i64 0] by rw [← hm]; rfl] at HI
    clear hm
    go_enter Tryz.func107, Tryz.ntmps107
    go_upto_region 1 with fail
    refine region_grow 16 24 (by kernel_rfl) rfl (by kernel_rfl) rfl rfl ?_
    simp only [List.take_succ_cons, List.take_zero, List.drop_succ_cons, List.drop_zero]
    refine seg 8 rfl rfl rfl rfl ?_
    simp only [List.take_succ_cons, List.take_zero, List.drop_succ_cons, List.drop_zero]
    repeat (go_big_quiet_step (fail))
    refine wpQuiet_nil ?_
    intro _
    refine grow_det (v := .tuple #[.int .i64 n, .int .i64 (m : Int), .int .i64 0]) rfl rfl rfl rfl rfl ?_ ?_
    · intro w1 hG
      go_simp
      refine (HI.out w1).mono ?_
      rintro e w' ⟨rfl, rfl⟩
      exact ⟨rfl, Gr.refl _⟩
    simp only [Act.put, List.setIfInBounds_toArray, List.set_cons_zero, List.set_cons_succ]
    refine seg 7 rfl rfl rfl rfl ?_
    simp only [List.take_succ_cons, List.take_zero, List.drop_succ_cons, List.drop_zero]
    repeat (go_big_quiet_step (fail))
    refine wpQuiet_nil ?_
    intro _
    refine grow_end0 rfl rfl ?_
    intro w2 hG
    have HG : Hid (Gr w w2) := Lib.hid ((Gr.drew w).trans hG)
    clear hG S0 S1 HI
    go_wp2_with fail
    refine (take_ok g s k m w2 (HR.out.gr HG.out)).mono ?_
    rintro e w3 ⟨rfl, hr, hc⟩
    have HR3 := Lib.hid hr
    have HC3 := Lib.hid hc
    clear hr hc
    go_wp2_with fail
    go_ret
    exact ⟨rfl, by rw [Hm.out]; exact HR3.out, (Chg.of_gr HG.out).trans HC3.out⟩
theorem text_any (g : Nat) (s : ByteArray) (k : Nat) (w : World) (h : RdAt g s k w) (hs : s.size ≤ 9223372036854775000) (hk : k ≤ s.size) :
    Calls Tryz.prog 108 #[.pointer (some ⟨g, 0, none⟩)] w (RdPost g s (fun x => .string x) w (rdS (s.data.toList.drop k))) := by
  have HI := Lib.hid (string_any s k hs hk)
  have HR := Lib.hid h
  obtain ⟨k0, k1⟩ := row2 h
  have S0 : ∀ q : GrS w.drew, q.w.cell? ⟨g, 0, none⟩ = some (.string s) := fun q => q.h.cell (w := w.drew) k0
  have S1 : ∀ q : GrS w.drew, q.w.cell? ⟨g, 1, none⟩ = some (.int .i64 (k : Int)) := fun q => q.h.cell (w := w.drew) k1
  clear h k0 k1
  obtain ⟨R, hR⟩ : ∃ R, rdS (s.data.toList.drop k) = R := ⟨_, rfl⟩
  rw [hR] at HI ⊢
  clear hR
  cases R with
  | none =>
    unfold txtV at HI
    go_enter Tryz.func108, Tryz.ntmps108
    go_upto_region 1 with fail
    refine region_grow 16 24 (by kernel_rfl) rfl (by kernel_rfl) rfl rfl ?_
    simp only [List.take_succ_cons, List.take_zero, List.drop_succ_cons, List.drop_zero]
    refine seg 8 rfl rfl rfl rfl ?_
    simp only [List.take_succ_cons, List.take_zero, List.drop_succ_cons, List.drop_zero]
    repeat (go_big_quiet_step (fail))
    refine wpQuiet_nil ?_
    intro _
    refine grow_det (v := .tuple #[.string ⟨#[]⟩, .int .i64 0, .int .i64 10]) rfl rfl rfl rfl rfl ?_ ?_
    · intro w1 hG
      go_simp
      refine (HI.out w1).mono ?_
      rintro e w' ⟨rfl, rfl⟩
      exact ⟨rfl, Gr.refl _⟩
    simp only [Act.put, List.setIfInBounds_toArray, List.set_cons_zero, List.set_cons_succ]
    refine seg 7 rfl rfl rfl rfl ?_
    simp only [List.take_succ_cons, List.take_zero, List.drop_succ_cons, List.drop_zero]
    repeat (go_big_quiet_step (fail))
    refine wpQuiet_nil ?_
    intro _
    refine grow_end0 rfl rfl ?_
    intro w2 hG
    have HG : Hid (Gr w w2) := Lib.hid ((Gr.drew w).trans hG)
    clear hG S0 S1 HI
    go_wp2_with fail
    refine (take_bad g w2).mono ?_
    rintro e w3 ⟨rfl, rfl⟩
    go_simp
    exact ⟨rfl, rfl, Chg.of_gr HG.out⟩
  | some p =>
    obtain ⟨x, r⟩ := p
    obtain ⟨m, hm⟩ : ∃ m, s.size - r.length = m := ⟨_, rfl⟩
    have Hm := Lib.hid hm
    rw [show txtV s.size (some (x, r)) = .tuple #[.string x, .int .i64 (m : Int), .int .i64 0] by rw [← hm]; rfl] at HI
    clear hm
    go_enter Tryz.func108, Tryz.ntmps108
    go_upto_region 1 with fail
    refine region_grow 16 24 (by kernel_rfl) rfl (by kernel_rfl) rfl rfl ?_
    simp only [List.take_succ_cons, List.take_zero, List.drop_succ_cons, List.drop_zero]
    refine seg 8 rfl rfl rfl rfl ?_
    simp only [List.take_succ_cons, List.take_zero, List.drop_succ_cons, List.drop_zero]
    repeat (go_big_quiet_step (fail))
    refine wpQuiet_nil ?_
    intro _
    refine grow_det (v := .tuple #[.string x, .int .i64 (m : Int), .int .i64 0]) rfl rfl rfl rfl rfl ?_ ?_
    · intro w1 hG
      go_simp
      refine (HI.out w1).mono ?_
      rintro e w' ⟨rfl, rfl⟩
      exact ⟨rfl, Gr.refl _⟩
    simp only [Act.put, List.setIfInBounds_toArray, List.set_cons_zero, List.set_cons_succ]
    refine seg 7 rfl rfl rfl rfl ?_
    simp only [List.take_succ_cons, List.take_zero, List.drop_succ_cons, List.drop_zero]
    repeat (go_big_quiet_step (fail))
    refine wpQuiet_nil ?_
    intro _
    refine grow_end0 rfl rfl ?_
    intro w2 hG
    have HG : Hid (Gr w w2) := Lib.hid ((Gr.drew w).trans hG)
    clear hG S0 S1 HI
    go_wp2_with fail
    refine (take_ok g s k m w2 (HR.out.gr HG.out)).mono ?_
    rintro e w3 ⟨rfl, hr, hc⟩
    have HR3 := Lib.hid hr
    have HC3 := Lib.hid hc
    clear hr hc
    go_wp2_with fail
    go_ret
    exact ⟨rfl, by rw [Hm.out]; exact HR3.out, (Chg.of_gr HG.out).trans HC3.out⟩
end
section
open Go Go.RowKit Go.Shelf
attribute [local go_sem] gAt gUpon pUpon
attribute [local simp] Gr.refl Gr.alloc

theorem Chg.new {g b : Nat} {w X Y : World} (h : Chg (some g) w X) (k : Chg (some b) X Y) (hb : w.heap.size ≤ b) : Chg (some g) w Y :=
  ⟨k.1.trans h.1, k.2.1.trans h.2.1, k.2.2.1.trans h.2.2.1, Nat.le_trans h.size k.size, fun i hi hne =>
    (k.2.2.2.2 i (Nat.lt_of_lt_of_le hi h.size) (fun e => by cases e; omega)).trans (h.2.2.2.2 i hi hne)⟩
theorem Chg.newO {g : Nat} {b : Option Nat} {w X Y : World} (h : Chg (some g) w X) (k : Chg b X Y) (hb : ∀ j, b = some j → w.heap.size ≤ j) : Chg (some g) w Y :=
  ⟨k.1.trans h.1, k.2.1.trans h.2.1, k.2.2.1.trans h.2.2.1, Nat.le_trans h.size k.size, fun i hi hne =>
    (k.2.2.2.2 i (Nat.lt_of_lt_of_le hi h.size) (fun e => by have := hb i e.symm; omega)).trans (h.2.2.2.2 i hi hne)⟩
/-- what pack does -/
def PkPost (g : Nat) (w : World) (o : Except Int (Int × Int × List En)) (e : Ending) (w' : World) : Prop :=
  match o with
  | .error c => e = .panicked (thrown c) ∧ Chg (some g) w w'
  | .ok p => ∃ v, e = .returned (.agg #[.int .i64 p.1, .int .i64 p.2.1, v]) ∧ Own w.heap.size 4 v p.2.2.length (p.2.2.flatMap enC) w' ∧ Chg (some g) w w'
/-- reading entries, with what was read ahead -/
def Rem (N : Nat) (l3 : List UInt8) (L : List En) (j : Nat) (l : List UInt8) : Prop :=
  rdEs N l3 = (rdEs (N - j) l).map fun p => (L ++ p.1, p.2)
theorem Rem.start (N : Nat) (l : List UInt8) : Rem N l [] 0 l := by
  unfold Rem
  rw [Nat.sub_zero]
  cases rdEs N l with
  | none => rfl
  | some p => rfl
theorem Rem.bad {N j : Nat} {l3 l : List UInt8} {L : List En} (h : Rem N l3 L j l) (hj : j < N) (he : rdE l = none) : rdEs N l3 = none := by
  unfold Rem at h
  rw [h, show N - j = (N - (j + 1)) + 1 by omega, rdEs, he]; rfl
theorem Rem.next {N j : Nat} {l3 l r : List UInt8} {L : List En} {x : En} (h : Rem N l3 L j l) (hj : j < N) (he : rdE l = some (x, r)) : Rem N l3 (L ++ [x]) (j + 1) r := by
  unfold Rem at h ⊢
  rw [h, show N - j = (N - (j + 1)) + 1 by omega, rdEs, he]
  simp only
  cases rdEs (N - (j + 1)) r with
  | none => rfl
  | some p => simp
theorem Rem.done {N : Nat} {l3 l : List UInt8} {L : List En} (h : Rem N l3 L N l) : rdEs N l3 = some (L, l) := by
  unfold Rem at h
  rw [h, Nat.sub_self]; simp [rdEs]
theorem rdE_1 {l : List UInt8} (h : rdS l = none) : rdE l = none := by unfold rdE; rw [h]
theorem rdE_2 {l l1 : List UInt8} {p : ByteArray} (h : rdS l = some (p, l1)) (h2 : rdI l1 = none) : rdE l = none := by unfold rdE; rw [h]; simp only; rw [h2]
theorem rdE_3 {l l1 l2 : List UInt8} {p : ByteArray} {f : Int} (h : rdS l = some (p, l1)) (h2 : rdI l1 = some (f, l2)) (h3 : rdI l2 = none) : rdE l = none := by unfold rdE; rw [h]; simp only; rw [h2]; simp only; rw [h3]
theorem rdE_4 {l l1 l2 l3 : List UInt8} {p : ByteArray} {f n : Int} (h : rdS l = some (p, l1)) (h2 : rdI l1 = some (f, l2)) (h3 : rdI l2 = some (n, l3)) (h4 : rdS l3 = none) : rdE l = none := by unfold rdE; rw [h]; simp only; rw [h2]; simp only; rw [h3]; simp only; rw [h4]
theorem rdE_5 {l l1 l2 l3 l4 : List UInt8} {p d : ByteArray} {f n : Int} (h : rdS l = some (p, l1)) (h2 : rdI l1 = some (f, l2)) (h3 : rdI l2 = some (n, l3)) (h4 : rdS l3 = some (d, l4)) : rdE l = some (⟨p, f, n, d⟩, l4) := by unfold rdE; rw [h]; simp only; rw [h2]; simp only; rw [h3]; simp only; rw [h4]
/-- a place in the text, and what lies behind it -/
def Pl (s : ByteArray) (k : Nat) (l : List UInt8) : Prop := k ≤ s.size ∧ l = s.data.toList.drop k
theorem Pl.num {s : ByteArray} {k : Nat} {l r : List UInt8} {n : Int} (h : Pl s k l) (hr : rdI l = some (n, r)) : Pl s (s.size - r.length) r := by
  obtain ⟨h1, rfl⟩ := h
  obtain ⟨a, b, c⟩ := rdI_rest hr
  exact ⟨by omega, c⟩
theorem Pl.txt {s x : ByteArray} {k : Nat} {l r : List UInt8} (h : Pl s k l) (hr : rdS l = some (x, r)) : Pl s (s.size - r.length) r := by
  obtain ⟨h1, rfl⟩ := h
  obtain ⟨a, b, c⟩ := rdS_rest hr
  exact ⟨by omega, c⟩
theorem number_at (g : Nat) (s : ByteArray) (k : Nat) (l : List UInt8) (w : World) (h : RdAt g s k w) (hs : s.size ≤ 9223372036854775000) (hk : Pl s k l) :
    Calls Tryz.prog 107 #[.pointer (some ⟨g, 0, none⟩)] w (RdPost g s (fun n => .int .i64 n) w (rdI l)) := by
  obtain ⟨h1, rfl⟩ := hk
  exact number_any g s k w h hs h1
theorem text_at (g : Nat) (s : ByteArray) (k : Nat) (l : List UInt8) (w : World) (h : RdAt g s k w) (hs : s.size ≤ 9223372036854775000) (hk : Pl s k l) :
    Calls Tryz.prog 108 #[.pointer (some ⟨g, 0, none⟩)] w (RdPost g s (fun x => .string x) w (rdS l)) := by
  obtain ⟨h1, rfl⟩ := hk
  exact text_any g s k w h hs h1
theorem Pl.end_ {s : ByteArray} {k : Nat} {l : List UInt8} (h : Pl s k l) : l = [] ↔ s.size ≤ k := by
  obtain ⟨h1, rfl⟩ := h
  rw [List.drop_eq_nil_iff]; simp
def loopI (w : World) (g bp : Nat) (s : ByteArray) (id ver : Int) (N : Nat) (l3 : List UInt8) (j : Nat) (V : Value) (L : List En) (k : Nat) (l : List UInt8) (W : World) : Prop :=
  L.length = j ∧ Pl s k l ∧ Rem N l3 L j l ∧ RdAt g s k W ∧ W.heap[bp]? = some (.cells #[.int .i64 id, .int .i64 ver, V] 24 (0, 0)) ∧ Own (bp + 1) 4 V j (L.flatMap enC) W ∧ Chg (some g) w W ∧ bp + 1 ≤ W.heap.size ∧ ∀ x ∈ L, x.path.size ≤ 65536
set_option maxRecDepth 100000 in
set_option maxHeartbeats 2000000 in
theorem pack_any (g : Nat) (s : ByteArray) (w : World) (h : RdAt g s 0 w) (hs : s.size ≤ 9223372036854775000) :
    Calls Tryz.prog 71 #[.pointer (some ⟨g, 0, none⟩)] w (PkPost g w (decL s.data.toList)) := by
  obtain ⟨O, hO⟩ : ∃ O, decL s.data.toList = O := ⟨_, rfl⟩
  rw [hO]
  have HOd := Lib.hid hO
  have HR := Lib.hid h
  have hgw : g < w.heap.size := (Array.getElem?_eq_some_iff.1 h).1
  have HP0 : Hid (Pl s 0 s.data.toList) := Lib.hid ⟨Nat.zero_le _, rfl⟩
  obtain ⟨bp, hbp⟩ : ∃ b, w.heap.size = b := ⟨_, rfl⟩
  have Hbp := Lib.hid hbp
  clear hO h
  go_enter Tryz.func71, Tryz.ntmps71
  go_wp2_with fail
  have hA := heap_alloc_new w (.cells #[.int .i64 0, .int .i64 0, .slice none 0 0] 24)
  rw [hbp] at hA
  have HA := Lib.hid hA
  have HGA := Lib.hid (Gr.alloc w (.cells #[.int .i64 0, .int .i64 0, .slice none 0 0] 24))
  have HSA : Hid ((w.alloc (.cells #[.int .i64 0, .int .i64 0, .slice none 0 0] 24)).heap.size = bp + 1) := Lib.hid (by rw [World.size_alloc, hbp])
  clear hA
  refine (number_at g s 0 _ _ (HR.out.gr HGA.out) hs HP0.out).mono ?_
  intro e w1 hp1
  obtain ⟨R1, hR1⟩ : ∃ R, rdI s.data.toList = R := ⟨_, rfl⟩
  rw [hR1] at hp1
  cases R1 with
  | none =>
    obtain ⟨rfl, hc⟩ := hp1
    obtain rfl : O = .error 10 := by rw [← HOd.out]; unfold decL rdH; rw [hR1]
    exact ⟨rfl, rfl, (Chg.of_gr HGA.out).trans hc⟩
  | some q1 =>
  obtain ⟨id, l1⟩ := q1
  obtain ⟨rfl, hr, hc⟩ := hp1
  have HP1 := Lib.hid (HP0.out.num hR1)
  have HR1 := Lib.hid hR1
  have HW1 := Lib.hid hr
  have HC1 : Hid (Chg (some g) w w1) := Lib.hid ((Chg.of_gr HGA.out).trans hc)
  have HA1 : Hid (w1.heap[bp]? = some (.cells #[.int .i64 0, .int .i64 0, .slice none 0 0] 24 (0, 0)) ∧ bp + 1 ≤ w1.heap.size) := Lib.hid ⟨hc.block HA.out (by simp; have := Hbp.out; omega), by rw [← HSA.out]; exact hc.size⟩
  clear hr hc hR1 HGA HA HSA HP0
  go_wp2_with fail
  refine (number_at g s _ _ _ HW1.out hs HP1.out).mono ?_
  intro e w2 hp1
  obtain ⟨R2, hR2⟩ : ∃ R, rdI l1 = R := ⟨_, rfl⟩
  rw [hR2] at hp1
  cases R2 with
  | none =>
    obtain ⟨rfl, hc⟩ := hp1
    obtain rfl : O = .error 10 := by rw [← HOd.out]; unfold decL rdH; rw [HR1.out]; simp only; rw [hR2]
    exact ⟨rfl, rfl, HC1.out.trans hc⟩
  | some q2 =>
  obtain ⟨ver, l2⟩ := q2
  obtain ⟨rfl, hr, hc⟩ := hp1
  have HP2 := Lib.hid (HP1.out.num hR2)
  have HR2 := Lib.hid hR2
  have HW2 := Lib.hid hr
  have HC2 : Hid (Chg (some g) w w2) := Lib.hid (HC1.out.trans hc)
  have HA2 : Hid (w2.heap[bp]? = some (.cells #[.int .i64 0, .int .i64 0, .slice none 0 0] 24 (0, 0)) ∧ bp + 1 ≤ w2.heap.size) := Lib.hid ⟨hc.block HA1.out.1 (by simp; have := Hbp.out; omega), Nat.le_trans HA1.out.2 hc.size⟩
  clear hr hc hR2 HW1 HC1 HA1 HP1
  obtain ⟨m0, m1, m2⟩ := row3 HA2.out.1
  obtain ⟨f0, f1, f2⟩ := frozen3 HA2.out.1
  have hch : Chg (some bp) w2 ((w2.setCell ⟨bp, 0, none⟩ (.int .i64 id)).setCell ⟨bp, 1, none⟩ (.int .i64 ver)) := setCells_chg bp [.int .i64 id, .int .i64 ver] 0 w2
  have HC3 : Hid (Chg (some g) w ((w2.setCell ⟨bp, 0, none⟩ (.int .i64 id)).setCell ⟨bp, 1, none⟩ (.int .i64 ver))) := Lib.hid (HC2.out.new hch (by have := Hbp.out; omega))
  have HA3 : Hid (((w2.setCell ⟨bp, 0, none⟩ (.int .i64 id)).setCell ⟨bp, 1, none⟩ (.int .i64 ver)).heap[bp]? = some (.cells #[.int .i64 id, .int .i64 ver, .slice none 0 0] 24 (0, 0)) ∧ bp + 1 ≤ ((w2.setCell ⟨bp, 0, none⟩ (.int .i64 id)).setCell ⟨bp, 1, none⟩ (.int .i64 ver)).heap.size) := Lib.hid ⟨by
    have h0 := heap_setCell_same w2 bp 0 _ _ (.int .i64 id) HA2.out.1
    have h1 := heap_setCell_same _ bp 1 _ _ (.int .i64 ver) h0
    rw [h1]; rfl, Nat.le_trans HA2.out.2 hch.size⟩
  have HW3 : Hid (RdAt g s (s.size - l2.length) ((w2.setCell ⟨bp, 0, none⟩ (.int .i64 id)).setCell ⟨bp, 1, none⟩ (.int .i64 ver))) := Lib.hid (hch.block HW2.out (by simp; have := Hbp.out; omega))
  clear hch HW2 HC2 HA2
  go_wp2_with fail
  clear m0 m1 m2 f0 f1 f2
  generalize (w2.setCell ⟨bp, 0, none⟩ (.int .i64 id)).setCell ⟨bp, 1, none⟩ (.int .i64 ver) = w3 at HC3 HA3 HW3 ⊢
  refine (number_at g s _ _ _ HW3.out hs HP2.out).mono ?_
  intro e w4 hp1
  obtain ⟨R3, hR3⟩ : ∃ R, rdI l2 = R := ⟨_, rfl⟩
  rw [hR3] at hp1
  cases R3 with
  | none =>
    obtain ⟨rfl, hc⟩ := hp1
    obtain rfl : O = .error 10 := by rw [← HOd.out]; unfold decL rdH; rw [HR1.out]; simp only; rw [HR2.out]; simp only; rw [hR3]
    exact ⟨rfl, rfl, HC3.out.trans hc⟩
  | some q3 =>
  obtain ⟨n, l3⟩ := q3
  obtain ⟨rfl, hr, hc⟩ := hp1
  have HP4 := Lib.hid (HP2.out.num hR3)
  have HH : Hid (rdH s.data.toList = some ((id, ver, n), l3)) := Lib.hid (by unfold rdH; rw [HR1.out]; simp only; rw [HR2.out]; simp only; rw [hR3])
  have HW4 := Lib.hid hr
  have HC4 : Hid (Chg (some g) w w4) := Lib.hid (HC3.out.trans hc)
  have HA4 : Hid (w4.heap[bp]? = some (.cells #[.int .i64 id, .int .i64 ver, .slice none 0 0] 24 (0, 0)) ∧ bp + 1 ≤ w4.heap.size) := Lib.hid ⟨hc.block HA3.out.1 (by simp; have := Hbp.out; omega), Nat.le_trans HA3.out.2 hc.size⟩
  clear hr hc hR3 HR1 HR2 HC3 HA3 HW3 HP2
  have HWi : Hid (∀ y, _) := Lib.hid (fun y => within_any n 1 64 y)
  obtain ⟨B, hB⟩ : ∃ B, withinB n 1 64 = B := ⟨_, rfl⟩
  rw [hB] at HWi
  cases B with
  | false =>
    obtain rfl : O = .error 140 := by
      rw [← HOd.out]; unfold decL; rw [HH.out]; simp only
      rw [if_pos (fun h => by rw [withinB_iff.2 h] at hB; cases hB)]
    clear hB HH HOd
    go_wp2_with fail
    refine (HWi.out _).mono ?_
    rintro e w5 ⟨rfl, rfl⟩
    go_wp2_with fail
    exact ⟨rfl, rfl, HC4.out⟩
  | true =>
  have hn := withinB_iff.1 hB
  obtain ⟨N, rfl⟩ := Int.eq_ofNat_of_zero_le (show 0 ≤ n by omega)
  have HO2 : Hid (O = match rdEs N l3 with
      | none => .error 10
      | some (L, t) => if t ≠ [] then .error 10 else if validD id ver L = true then .ok (id, ver, L) else .error 140) := Lib.hid (by
    rw [← HOd.out]; unfold decL; rw [HH.out]; simp only
    rw [if_neg (fun h => h hn), Int.toNat_natCast]
    rfl)
  clear hB HH HOd
  have hN1 : 1 ≤ N := by omega
  have hN2 : N ≤ 64 := by omega
  clear hn
  go_wp2_with fail
  refine (HWi.out _).mono ?_
  rintro e w5 ⟨rfl, rfl⟩
  clear HWi
  go_wp2_with fail
  have HL0 : Hid (loopI w g bp s id ver N l3 0 (.slice none 0 0) [] (s.size - l3.length) l3 w4) := Lib.hid ⟨rfl, HP4.out, Rem.start _ _, HW4.out, HA4.out.1, Own.nil _ _ _, HC4.out, HA4.out.2, fun x hx => by cases hx⟩
  clear HP4 HW4 HA4 HC4
  go_loopw [17] (fun v17 W => ∃ (j : Nat) (V : Value) (L : List En) (k : Nat) (l : List UInt8), j ≤ N ∧ v17 = .int .i64 (j : Int) ∧ Hid (loopI w g bp s id ver N l3 j V L k l W)) (fun v17 _ => N - (intOf v17).toNat)
  case atStart => exact ⟨0, _, _, _, _, Nat.zero_le _, rfl, HL0⟩
  clear HL0
  case round =>
    obtain ⟨j, V, L, k, l, hj, rfl, HI⟩ := hrel
    by_cases hlt : j < N
    · have ht : decide (j < N) = true := decide_eq_true hlt
      have ht' : decide ((j : Int) < (N : Int)) = true := decide_eq_true (by omega)
      obtain ⟨iE, hiE, hzE, hszE, hbE⟩ := info_parts infoEn
      have HI9 := Lib.hid hiE
      have HI0 := Lib.hid hzE
      have HI1 := Lib.hid hszE
      have HI2 := Lib.hid hbE
      clear hiE hzE hszE hbE
      have hgb : g < bp := by have := Hbp.out; omega
      have hS0 : (fun x : World => x.cell? ⟨bp, 2, none⟩ = some V) wr.drew := (row3 HI.out.2.2.2.2.1).2.2
      have HD : Hid (Gr wr wr.drew) := Lib.hid (Gr.drew wr)
      have HLl := Lib.hid HI.out.1
      have HPl := Lib.hid HI.out.2.1
      have HRe := Lib.hid HI.out.2.2.1
      have HRd := Lib.hid (HI.out.2.2.2.1.gr HD.out)
      have HRo := Lib.hid (HD.out.block HI.out.2.2.2.2.1)
      have HOw := Lib.hid (HI.out.2.2.2.2.2.1.gr HD.out)
      have HCh := Lib.hid (HI.out.2.2.2.2.2.2.1.trans (Chg.of_gr HD.out))
      have HSz := Lib.hid (Nat.le_trans HI.out.2.2.2.2.2.2.2.1 HD.out.size)
      have HPa := Lib.hid HI.out.2.2.2.2.2.2.2.2
      clear HI
      go_upto_region 7 with fail
      refine u_begin (fun x : World => x.cell? ⟨bp, 2, none⟩ = some V) (fun j => decide (13 ≤ j)) (by kernel_rfl) (by assumption) (fun hHeld => ?_)
      clear HD
      generalize wr.drew = wz at *
      refine u_take 0 (v := ?_) rfl rfl (by kernel_rfl) (by kernel_rfl) (by kernel_rfl) (by kernel_rfl) (fun _ _ _ h => h) (by rfl) (by assumption) ?_ ?_
      rotate_left
      · (intro w hSw; (try dsimp only at hSw); go_simp; try with_reducible rfl)
      try simp only [Act.put, List.setIfInBounds_toArray, List.set_cons_zero, List.set_cons_succ]
      refine u_take 1 (v := ?_) rfl rfl (by kernel_rfl) (by kernel_rfl) (by kernel_rfl) (by kernel_rfl) (fun _ _ _ h => h) (by rfl) (by assumption) ?_ ?_
      rotate_left
      · (intro w hSw; (try dsimp only at hSw); go_simp; try with_reducible rfl)
      try simp only [Act.put, List.setIfInBounds_toArray, List.set_cons_zero, List.set_cons_succ]
      refine u_take 2 (v := ?_) rfl rfl (by kernel_rfl) (by kernel_rfl) (by kernel_rfl) (by kernel_rfl) (fun _ _ _ h => h) (by rfl) (by assumption) ?_ ?_
      rotate_left
      · (intro w hSw; (try dsimp only at hSw); go_simp; try with_reducible rfl)
      try simp only [Act.put, List.setIfInBounds_toArray, List.set_cons_zero, List.set_cons_succ]
      refine u_take 4 (v := ?_) rfl rfl (by kernel_rfl) (by kernel_rfl) (by kernel_rfl) (by kernel_rfl) (fun _ _ _ h => h) (by rfl) (by assumption) ?_ ?_
      rotate_left
      · (intro w hSw; (try dsimp only at hSw); go_simp; try with_reducible rfl)
      try simp only [Act.put, List.setIfInBounds_toArray, List.set_cons_zero, List.set_cons_succ]
      refine u_take 6 (v := ?_) rfl rfl (by kernel_rfl) (by kernel_rfl) (by kernel_rfl) (by kernel_rfl) (fun _ _ _ h => h) (by rfl) (by assumption) ?_ ?_
      rotate_left
      · (intro w hSw; (try dsimp only at hSw); go_simp; try with_reducible rfl)
      try simp only [Act.put, List.setIfInBounds_toArray, List.set_cons_zero, List.set_cons_succ]
      refine u_take 8 (v := ?_) rfl rfl (by kernel_rfl) (by kernel_rfl) (by kernel_rfl) (by kernel_rfl) (fun _ _ _ h => h) (by rfl) (by assumption) ?_ ?_
      rotate_left
      · (intro w hSw; (try dsimp only at hSw); go_simp; try with_reducible rfl)
      try simp only [Act.put, List.setIfInBounds_toArray, List.set_cons_zero, List.set_cons_succ]
      refine u_step 3 (by kernel_rfl) rfl (by rfl) ?_
      go_simp
      refine (text_at g s _ _ _ HRd.out hs HPl.out).mono ?_
      intro e wa hp
      obtain ⟨Xa, hXa⟩ : ∃ R, rdS l = R := ⟨_, rfl⟩
      rw [hXa] at hp
      cases Xa with
      | none =>
        obtain ⟨rfl, hc⟩ := hp
        obtain rfl : O = .error 10 := by rw [HO2.out, HRe.out.bad hlt (rdE_1 hXa)]
        exact .inr ⟨_, rfl, rfl, rfl, HCh.out.trans hc⟩
      | some qa =>
      obtain ⟨xp, ra⟩ := qa
      obtain ⟨rfl, hr, hc⟩ := hp
      have HXa := Lib.hid hXa
      have HPla := Lib.hid (HPl.out.txt hXa)
      have HRda := Lib.hid hr
      have HRoa := Lib.hid (hc.block HRo.out (by simp; omega))
      have HOwa := Lib.hid (HOw.out.keep hc (.inr (fun e => by have := HOw.out.ge e; omega)))
      have HCha := Lib.hid (HCh.out.trans hc)
      have HSza := Lib.hid (Nat.le_trans HSz.out hc.size)
      have hSa : (fun x : World => x.cell? ⟨bp, 2, none⟩ = some V) wa := (row3 HRoa.out).2.2
      clear hXa hr hc HPl HRd HRo HOw HCh HSz hS0 hHeld
      refine .inl ⟨_, rfl, hSa, ?_⟩
      have hHeld := hSa
      refine u_step 5 (by kernel_rfl) rfl (by rfl) ?_
      go_simp
      refine (number_at g s _ _ _ HRda.out hs HPla.out).mono ?_
      intro e wb hp
      obtain ⟨Xb, hXb⟩ : ∃ R, rdI ra = R := ⟨_, rfl⟩
      rw [hXb] at hp
      cases Xb with
      | none =>
        obtain ⟨rfl, hc⟩ := hp
        obtain rfl : O = .error 10 := by rw [HO2.out, HRe.out.bad hlt (rdE_2 HXa.out hXb)]
        exact .inr ⟨_, rfl, rfl, rfl, HCha.out.trans hc⟩
      | some qb =>
      obtain ⟨xf, rb⟩ := qb
      obtain ⟨rfl, hr, hc⟩ := hp
      have HXb := Lib.hid hXb
      have HPlb := Lib.hid (HPla.out.num hXb)
      have HRdb := Lib.hid hr
      have HRob := Lib.hid (hc.block HRoa.out (by simp; omega))
      have HOwb := Lib.hid (HOwa.out.keep hc (.inr (fun e => by have := HOwa.out.ge e; omega)))
      have HChb := Lib.hid (HCha.out.trans hc)
      have HSzb := Lib.hid (Nat.le_trans HSza.out hc.size)
      have hSb : (fun x : World => x.cell? ⟨bp, 2, none⟩ = some V) wb := (row3 HRob.out).2.2
      clear hXb hr hc HPla HRda HRoa HOwa HCha HSza hSa hHeld
      refine .inl ⟨_, rfl, hSb, ?_⟩
      have hHeld := hSb
      refine u_step 7 (by kernel_rfl) rfl (by rfl) ?_
      go_simp
      refine (number_at g s _ _ _ HRdb.out hs HPlb.out).mono ?_
      intro e wc hp
      obtain ⟨Xc, hXc⟩ : ∃ R, rdI rb = R := ⟨_, rfl⟩
      rw [hXc] at hp
      cases Xc with
      | none =>
        obtain ⟨rfl, hc⟩ := hp
        obtain rfl : O = .error 10 := by rw [HO2.out, HRe.out.bad hlt (rdE_3 HXa.out HXb.out hXc)]
        exact .inr ⟨_, rfl, rfl, rfl, HChb.out.trans hc⟩
      | some qc =>
      obtain ⟨xn, rc⟩ := qc
      obtain ⟨rfl, hr, hc⟩ := hp
      have HXc := Lib.hid hXc
      have HPlc := Lib.hid (HPlb.out.num hXc)
      have HRdc := Lib.hid hr
      have HRoc := Lib.hid (hc.block HRob.out (by simp; omega))
      have HOwc := Lib.hid (HOwb.out.keep hc (.inr (fun e => by have := HOwb.out.ge e; omega)))
      have HChc := Lib.hid (HChb.out.trans hc)
      have HSzc := Lib.hid (Nat.le_trans HSzb.out hc.size)
      have hSc : (fun x : World => x.cell? ⟨bp, 2, none⟩ = some V) wc := (row3 HRoc.out).2.2
      clear hXc hr hc HPlb HRdb HRob HOwb HChb HSzb hSb hHeld
      refine .inl ⟨_, rfl, hSc, ?_⟩
      have hHeld := hSc
      refine u_step 9 (by kernel_rfl) rfl (by rfl) ?_
      go_simp
      refine (text_at g s _ _ _ HRdc.out hs HPlc.out).mono ?_
      intro e wd hp
      obtain ⟨Xd, hXd⟩ : ∃ R, rdS rc = R := ⟨_, rfl⟩
      rw [hXd] at hp
      cases Xd with
      | none =>
        obtain ⟨rfl, hc⟩ := hp
        obtain rfl : O = .error 10 := by rw [HO2.out, HRe.out.bad hlt (rdE_4 HXa.out HXb.out HXc.out hXd)]
        exact .inr ⟨_, rfl, rfl, rfl, HChc.out.trans hc⟩
      | some qd =>
      obtain ⟨xd, rd⟩ := qd
      obtain ⟨rfl, hr, hc⟩ := hp
      have HXd := Lib.hid hXd
      have HPld := Lib.hid (HPlc.out.txt hXd)
      have HRdd := Lib.hid hr
      have HRod := Lib.hid (hc.block HRoc.out (by simp; omega))
      have HOwd := Lib.hid (HOwc.out.keep hc (.inr (fun e => by have := HOwc.out.ge e; omega)))
      have HChd := Lib.hid (HChc.out.trans hc)
      have HSzd := Lib.hid (Nat.le_trans HSzc.out hc.size)
      have hSd : (fun x : World => x.cell? ⟨bp, 2, none⟩ = some V) wd := (row3 HRod.out).2.2
      clear hXd hr hc HPlc HRdc HRoc HOwc HChc HSzc hSc hHeld
      refine .inl ⟨_, rfl, hSd, ?_⟩
      have hHeld := hSd
      have HE := Lib.hid (rdE_5 HXa.out HXb.out HXc.out HXd.out)
      have hxp : xp.size ≤ 65536 := (rdS_inv HXa.out).1
      clear HXa HXb HXc HXd
      refine u_take 10 (v := ?_) rfl rfl (by kernel_rfl) (by kernel_rfl) (by kernel_rfl) (by kernel_rfl) (fun _ _ _ h => h) (by rfl) (by assumption) ?_ ?_
      rotate_left
      · (intro w hSw; (try dsimp only at hSw); go_simp; try with_reducible rfl)
      try simp only [Act.put, List.setIfInBounds_toArray, List.set_cons_zero, List.set_cons_succ]
      refine u_step 11 (by kernel_rfl) rfl (by rfl) ?_
      go_simp
      have HGe := Lib.hid (Gr.alloc wd (.cells #[.string xp, .int .i64 xf, .int .i64 xn, .string xd] 28))
      have HCells := Lib.hid (cells_new_at wd [.string xp, .int .i64 xf, .int .i64 xn, .string xd] 28)
      refine ⟨HGe.out.cell hSd, ?_⟩
      try simp only [Act.put, List.setIfInBounds_toArray, List.set_cons_zero, List.set_cons_succ]
      refine u_one 12 (by kernel_rfl) rfl ?_
      refine wpList_append_Own rfl (.tmp 20) (.tmp 30) 22 rfl 28 iE (.agg #[.string ⟨#[]⟩, .int .i64 0, .int .i64 0, .string ⟨#[]⟩]) 4 48 Tryz.underlying22 HI9.out HI0.out HI1.out HI2.out rfl (by decide) rfl (HOwd.out.gr HGe.out) ⟨wd.heap.size, 0, none⟩ 1 1 [.string xp, .int .i64 xf, .int .i64 xn, .string xd] rfl rfl HCells.out (enC_one ⟨xp, xf, xn, xd⟩) (by decide) ?b1 ?b2 (Nat.le_trans HSzd.out HGe.out.size) ?_
      case b1 => unfold maxLen; omega
      case b2 => omega
      intro v9 w9 hown hchg _
      obtain ⟨L2, hL2⟩ : ∃ M, L ++ [(⟨xp, xf, xn, xd⟩ : En)] = M := ⟨_, rfl⟩
      have HOx : Hid (Own (bp + 1) 4 v9 (j + 1) (L2.flatMap enC) w9) := Lib.hid (by rw [← hL2, List.flatMap_append]; exact hown)
      have HLx : Hid (L2.length = j + 1) := Lib.hid (by rw [← hL2, List.length_append, HLl.out]; rfl)
      have HRx := Lib.hid (HRe.out.next hlt HE.out)
      have HPx : Hid (∀ x ∈ L2, x.path.size ≤ 65536) := Lib.hid (fun x hx => by
        rw [← hL2] at hx
        rcases List.mem_append.1 hx with hx | hx
        · exact HPa.out x hx
        · rw [List.mem_singleton.1 hx]; exact hxp)
      rw [hL2] at HRx
      have hge : ∀ g', V.ownBlock = some g' → bp + 1 ≤ g' := fun g' e => HOwd.out.ge e
      have HRo9 : Hid (w9.heap[bp]? = some (.cells #[.int .i64 id, .int .i64 ver, V] 24 (0, 0))) := Lib.hid (hchg.block (HGe.out.block HRod.out) (fun e => by have := hge bp e.symm; omega))
      have HRd9 : Hid (RdAt g s (s.size - rd.length) w9) := Lib.hid (hchg.block (HGe.out.block HRdd.out) (fun e => by have := hge g e.symm; omega))
      have HCh9 : Hid (Chg (some g) w w9) := Lib.hid ((HChd.out.trans (Chg.of_gr HGe.out)).newO hchg (fun b e => by have := hge b e; omega))
      have HSz9 : Hid (bp + 1 ≤ w9.heap.size) := Lib.hid (Nat.le_trans (Nat.le_trans HSzd.out HGe.out.size) hchg.size)
      have hS9 : (fun x : World => x.cell? ⟨bp, 2, none⟩ = some V) w9 := (row3 HRo9.out).2.2
      clear hown hchg hge hL2 hSd hHeld HCells HGe HRod HRdd HChd HSzd HOwd HE HRe HPa HLl hxp
      refine ⟨fun _ => hS9, ?_⟩
      try simp only [Act.put, List.setIfInBounds_toArray]
      refine u_tail2 13  14 (by decide) (by kernel_rfl) rfl rfl rfl ?_
      obtain ⟨p9, c9, rfl⟩ := HOx.out.slice
      obtain ⟨f0, f1, f2⟩ := frozen3 HRo9.out
      have hch : Chg (some bp) w9 (w9.setCell ⟨bp, 2, none⟩ (.slice p9 (j + 1) c9)) := setCells_chg bp [.slice p9 (j + 1) c9] 2 w9
      have HFin : Hid (loopI w g bp s id ver N l3 (j + 1) (.slice p9 (j + 1) c9) L2 (s.size - rd.length) rd (w9.setCell ⟨bp, 2, none⟩ (.slice p9 (j + 1) c9))) := Lib.hid ⟨HLx.out, HPld.out, HRx.out, hch.block HRd9.out (by simp; omega), by
        rw [heap_setCell_same w9 bp 2 _ _ (.slice p9 (j + 1) c9) HRo9.out]; rfl, HOx.out.keep hch (.inr (fun e => by have := HOx.out.ge e; omega)), HCh9.out.new hch (by omega), Nat.le_trans HSz9.out hch.size, HPx.out⟩
      have hS9 := (row3 HRo9.out).2.2
      clear hch HOx HLx HRx HPx HRo9 HRd9 HCh9 HSz9 HPld
      go_wp2_with fail
      go_roundw
      case rel => exact ⟨j + 1, _, _, _, _, by omega, by go_num, HFin⟩
      case measure => simp [intOf]; omega
    · have ht : decide (j < N) = false := decide_eq_false hlt
      have ht' : decide ((j : Int) < (N : Int)) = false := decide_eq_false (by omega)
      obtain rfl : j = N := by omega
      have hLen := HI.out.1
      have HPl := Lib.hid HI.out.2.1
      have HOx : Hid (O = if l ≠ [] then .error 10 else if validD id ver L = true then .ok (id, ver, L) else .error 140) := Lib.hid (by
        rw [HO2.out, HI.out.2.2.1.done])
      have HRd := Lib.hid HI.out.2.2.2.1
      have HRo := Lib.hid HI.out.2.2.2.2.1
      have HOw : Hid (Own (bp + 1) 4 V L.length (L.flatMap enC) wr) := Lib.hid (by rw [hLen]; exact HI.out.2.2.2.2.2.1)
      have HCh := Lib.hid HI.out.2.2.2.2.2.2.1
      have HSz := Lib.hid HI.out.2.2.2.2.2.2.2.1
      have HPa := Lib.hid HI.out.2.2.2.2.2.2.2.2
      have HLl := Lib.hid hLen
      have S0 : ∀ q : GrS wr.drew, q.w.cell? ⟨g, 0, none⟩ = some (.string s) := fun q => q.h.cell (w := wr.drew) (row2 HRd.out).1
      have S1 : ∀ q : GrS wr.drew, q.w.cell? ⟨g, 1, none⟩ = some (.int .i64 (k : Int)) := fun q => q.h.cell (w := wr.drew) (row2 HRd.out).2
      clear HI HO2 hLen
      obtain ⟨T, hT⟩ : ∃ T, decide ((k : Int) < (s.size : Int)) = T := ⟨_, rfl⟩
      have hT' : decide (k < s.size) = T := by
        rw [← hT]
        by_cases h : k < s.size
        · rw [decide_eq_true h, decide_eq_true (by omega)]
        · rw [decide_eq_false h, decide_eq_false (by omega)]
      have HT := Lib.hid hT'
      go_upto_region 9 with fail
      refine region_grow 10 50 (by kernel_rfl) rfl (by kernel_rfl) rfl rfl ?_
      simp only [List.take_succ_cons, List.take_zero, List.drop_succ_cons, List.drop_zero]
      refine seg 8 rfl rfl rfl rfl ?_
      simp only [List.take_succ_cons, List.take_zero, List.drop_succ_cons, List.drop_zero]
      repeat (go_big_quiet_step (fail))
      refine wpQuiet_nil ?_
      intro _
      refine grow_det (v := .int .i64 (s.size : Int)) rfl rfl rfl rfl rfl ?_ ?_
      · intro w1 hG
        go_simp
      simp only [Act.put, List.setIfInBounds_toArray, List.set_cons_zero, List.set_cons_succ]
      refine grow_det (v := .bool T) rfl rfl rfl rfl rfl ?_ ?_
      · intro w1 hG
        go_simp
      simp only [Act.put, List.setIfInBounds_toArray, List.set_cons_zero, List.set_cons_succ]
      refine grow_end0 rfl rfl ?_
      intro w5 hG
      have HG5 : Hid (Gr wr w5) := Lib.hid ((Gr.drew wr).trans hG)
      clear hG S0 S1 hT hT'
      have HRo5 := Lib.hid (HG5.out.block HRo.out)
      have HCh5 := Lib.hid (HCh.out.trans (Chg.of_gr HG5.out))
      have HOw5 := Lib.hid (HOw.out.gr HG5.out)
      clear HRo HCh HOw HRd
      cases T with
      | true =>
        obtain rfl : O = .error 10 := by
          rw [HOx.out, if_pos (fun h => by have := HPl.out.end_.1 h; have := of_decide_eq_true HT.out; omega)]
        go_wp2_with fail
        exact ⟨rfl, rfl, HCh5.out⟩
      | false =>
        have HOv : Hid (O = if validD id ver L = true then .ok (id, ver, L) else .error 140) := Lib.hid (by
          rw [HOx.out, if_neg (fun h => h (HPl.out.end_.2 (by have := of_decide_eq_false HT.out; omega)))])
        clear HOx HT HPl
        have hlen64 : L.length ≤ 64 := by rw [HLl.out]; omega
        have HVa := Lib.hid (valid_any id ver V L w5 (own_rws enC_len HOw5.out) (by omega) (fun x hx => Nat.le_trans (HPa.out x hx) (by decide)))
        obtain ⟨B, hB⟩ : ∃ B, validD id ver L = B := ⟨_, rfl⟩
        rw [hB] at HVa
        have HB := Lib.hid hB
        clear hB HPa hlen64
        obtain ⟨m0, m1, m2⟩ := row3 HRo5.out
        go_wp2_with fail
        refine HVa.out.mono ?_
        rintro e w6 ⟨rfl, hg6⟩
        have HRo6 := Lib.hid (hg6.block HRo5.out)
        have HCh6 := Lib.hid (HCh5.out.trans (Chg.of_gr hg6))
        have HOw6 := Lib.hid (HOw5.out.gr hg6)
        clear hg6 HVa HRo5 HCh5 HOw5 m0 m1 m2
        cases B with
        | false =>
          obtain rfl : O = .error 140 := by rw [HOv.out, HB.out]; rfl
          go_wp2_with fail
          exact ⟨rfl, rfl, HCh6.out⟩
        | true =>
          obtain rfl : O = .ok (id, ver, L) := by rw [HOv.out, HB.out]; rfl
          obtain ⟨m0, m1, m2⟩ := row3 HRo6.out
          obtain ⟨f0, f1, f2⟩ := frozen3 HRo6.out
          obtain ⟨p9, c9, rfl⟩ := HOw6.out.slice
          have hch : Chg (some bp) w6 (((w6.setCell ⟨bp, 0, none⟩ (.int .i64 id)).setCell ⟨bp, 1, none⟩ (.int .i64 ver)).setCell ⟨bp, 2, none⟩ (.slice p9 L.length c9)) := setCells_chg bp [.int .i64 id, .int .i64 ver, .slice p9 L.length c9] 0 w6
          have HRow := Lib.hid (row_set3 (a' := .int .i64 id) (b' := .int .i64 ver) (c' := .slice p9 L.length c9) HRo6.out)
          have HOx := Lib.hid ((HOw6.out.keep hch (.inr (fun e => by have := HOw6.out.ge e; omega))).mono (show w.heap.size ≤ bp + 1 by have := Hbp.out; omega))
          have HCx := Lib.hid (HCh6.out.new hch (by have := Hbp.out; omega))
          clear hch HRo6 HOw6 HCh6
          go_wp2_with fail
          obtain ⟨m0, m1, m2⟩ := row3 HRow.out
          refine bodyPost_ret (v := .agg #[.int .i64 id, .int .i64 ver, .slice p9 L.length c9]) ?_ rfl ⟨_, rfl, HOx.out, HCx.out⟩
          simp [results, Tryz.results71, go_sem, m0, m1, m2]
end
section
open Go Go.RowKit Go.Shelf
attribute [local go_sem] gAt gUpon
attribute [local simp] Gr.refl Gr.alloc

/-- what Decode gives -/
def dcI : Except Int (Int × Int × List En) → Int
  | .error _ => 0
  | .ok p => p.1
def dcV : Except Int (Int × Int × List En) → Int
  | .error _ => 0
  | .ok p => p.2.1
def dcL : Except Int (Int × Int × List En) → List En
  | .error _ => []
  | .ok p => p.2.2
def dcE : Except Int (Int × Int × List En) → Int
  | .error c => c
  | .ok _ => 0
def DcRes (w : World) (o : Except Int (Int × Int × List En)) (e : Ending) (w' : World) : Prop :=
  ∃ v, e = .returned (.tuple #[.agg #[.int .i64 (dcI o), .int .i64 (dcV o), v], .int .i64 (dcE o)]) ∧ Own w.heap.size 4 v (dcL o).length ((dcL o).flatMap enC) w' ∧ Gr w w'
set_option maxRecDepth 100000 in
set_option maxHeartbeats 2000000 in
theorem decode_any (s : ByteArray) (w : World) (hs : s.size ≤ 9223372036854775000) :
    Calls Tryz.prog 36 #[.string s] w (DcRes w (decL s.data.toList)) := by
  have hmf : ∀ (fn : Fn) (first cap : Array Value) (w : World), (Instr.makeFunc fn first cap).run Tryz.prog w = .ok (.func fn first cap) w := fun _ _ _ _ => rfl
  go_enter_defers Tryz.func36, Tryz.ntmps36
  go_wp2_with fail
  obtain ⟨bp, hbp⟩ : ∃ b, w.heap.size = b := ⟨_, rfl⟩
  have hX : ∃ wX, ((w.alloc (.cells #[.int .i64 0, .int .i64 0, .slice none 0 0] 24)).alloc (.cells #[.int .i64 0] 31)).alloc (.cells #[.string s, .int .i64 0] 100) = wX ∧ Gr w wX ∧
      wX.heap[bp]? = some (.cells #[.int .i64 0, .int .i64 0, .slice none 0 0] 24 (0, 0)) ∧ wX.heap[bp + 1]? = some (.cells #[.int .i64 0] 31 (0, 0)) ∧ RdAt (bp + 2) s 0 wX ∧ wX.heap.size = bp + 3 := by
    refine ⟨_, rfl, ((Gr.alloc _ _).trans (Gr.alloc _ _)).trans (Gr.alloc _ _), ?_, ?_, ?_, ?_⟩
    · rw [← hbp]; exact (Gr.alloc _ _).block ((Gr.alloc _ _).block (heap_alloc_new _ _))
    · rw [← hbp]
      have := (Gr.alloc ((w.alloc (.cells #[.int .i64 0, .int .i64 0, .slice none 0 0] 24)).alloc (.cells #[.int .i64 0] 31)) (.cells #[.string s, .int .i64 0] 100)).block (heap_alloc_new (w.alloc (.cells #[.int .i64 0, .int .i64 0, .slice none 0 0] 24)) (.cells #[.int .i64 0] 31))
      rw [World.size_alloc] at this; exact this
    · unfold RdAt
      have := heap_alloc_new ((w.alloc (.cells #[.int .i64 0, .int .i64 0, .slice none 0 0] 24)).alloc (.cells #[.int .i64 0] 31)) (.cells #[.string s, .int .i64 0] 100)
      rw [World.size_alloc, World.size_alloc, hbp] at this; exact this
    · rw [World.size_alloc, World.size_alloc, World.size_alloc, hbp]
  obtain ⟨wX, hX, hG, hP, hE, hR, hS⟩ := hX
  rw [hX]
  have HG := Lib.hid hG
  have HP := Lib.hid hP
  have HE := Lib.hid hE
  have HS := Lib.hid hS
  have Hbp := Lib.hid hbp
  obtain ⟨O, hO⟩ : ∃ O, decL s.data.toList = O := ⟨_, rfl⟩
  have HK := pack_any (bp + 2) s wX hR hs
  rw [hO] at HK ⊢
  have HOd := Lib.hid hO
  clear hX hG hP hE hS hR hO
  rw [hbp]
  clear hbp
  refine HK.mono ?_
  intro e w1 hp
  clear HK
  cases O with
  | error c =>
    obtain ⟨rfl, hc⟩ := hp
    have hP1 := hc.block HP.out (by simp)
    have hE1 := hc.block HE.out (by simp)
    have hG1 : Gr w w1 := gr_step HG.out (Gr.refl _) hc (fun g e => by cases e; have := Hbp.out; omega)
    clear hc HG HP HE HS
    refine leaves_cons (f := 70) (args := #[.pointer (some ⟨bp, 0, none⟩), .pointer (some ⟨bp + 1, 0, none⟩)]) (by simp [thrown]) (by simp [go_sem]) ?_
    refine (catch_thrown bp (bp + 1) c [] _ _ _ _ _ _ w1 hP1 hE1 (by omega)).mono ?_
    rintro e u' w2 ⟨rfl, rfl, rfl⟩
    have hch1 : Chg (some bp) w1 (((w1.setCell ⟨bp, 0, none⟩ (.int .i64 0)).setCell ⟨bp, 1, none⟩ (.int .i64 0)).setCell ⟨bp, 2, none⟩ (.slice none 0 0)) := setCells_chg bp [.int .i64 0, .int .i64 0, .slice none 0 0] 0 w1
    have hrow := row_set3 (a' := .int .i64 0) (b' := .int .i64 0) (c' := .slice none 0 0) hP1
    have hrowE := hch1.block hE1 (by simp)
    generalize ((w1.setCell ⟨bp, 0, none⟩ (.int .i64 0)).setCell ⟨bp, 1, none⟩ (.int .i64 0)).setCell ⟨bp, 2, none⟩ (.slice none 0 0) = wy at hch1 hrow hrowE ⊢
    have hch2 : Chg (some (bp + 1)) wy (wy.setCell ⟨bp + 1, 0, none⟩ (.int .i64 c)) := setCells_chg (bp + 1) [.int .i64 c] 0 wy
    have hrow2 := hch2.block hrow (by simp)
    have hE2 := row1_set (a' := .int .i64 c) hrowE
    have hGf : Gr w (wy.setCell ⟨bp + 1, 0, none⟩ (.int .i64 c)) := gr_step (gr_step hG1 (Gr.refl _) hch1 (fun g e => by cases e; have := Hbp.out; omega)) (Gr.refl _) hch2 (fun g e => by cases e; have := Hbp.out; omega)
    obtain ⟨m0, m1, m2⟩ := row3 hrow2
    have e0 := cell_of_row _ (bp + 1) 0 _ _ _ hE2
    refine ⟨_, ?_, ⟨_, rfl, Own.nil _ _ _, hGf⟩⟩
    simp [results, Tryz.results36, go_sem, m0, m1, m2, e0, dcI, dcV, dcE]
  | ok p =>
    obtain ⟨id, ver, L⟩ := p
    obtain ⟨v, rfl, hO, hc⟩ := hp
    have hP1 := hc.block HP.out (by simp)
    have hE1 := hc.block HE.out (by simp)
    have hG1 : Gr w w1 := gr_step HG.out (Gr.refl _) hc (fun g e => by cases e; have := Hbp.out; omega)
    have hOw : Own (bp + 3) 4 v L.length (L.flatMap enC) w1 := by rw [← HS.out]; exact hO
    obtain ⟨p9, c9, rfl⟩ := hOw.slice
    clear hc HG HP HE HS hO
    have HP1 := Lib.hid hP1
    have HE1 := Lib.hid hE1
    have HG1 := Lib.hid hG1
    have HOw := Lib.hid hOw
    obtain ⟨m0, m1, m2⟩ := row3 hP1
    obtain ⟨f0, f1, f2⟩ := frozen3 hP1
    have e0 := cell_of_row _ (bp + 1) 0 _ _ _ hE1
    have e1 := frozen_of_row _ (bp + 1) 0 _ _ hE1
    clear hP1 hE1 hG1 hOw
    go_wp2_with fail
    refine leaves_cons (f := 70) (args := #[.pointer (some ⟨bp, 0, none⟩), .pointer (some ⟨bp + 1, 0, none⟩)]) (by simp) (by simp [go_sem]) ?_
    clear m0 m1 m2 f0 f1 f2 e0 e1
    have hch1 : Chg (some bp) w1 (((w1.setCell ⟨bp, 0, none⟩ (.int .i64 id)).setCell ⟨bp, 1, none⟩ (.int .i64 ver)).setCell ⟨bp, 2, none⟩ (.slice p9 L.length c9)) := setCells_chg bp [.int .i64 id, .int .i64 ver, .slice p9 L.length c9] 0 w1
    have hrow := row_set3 (a' := .int .i64 id) (b' := .int .i64 ver) (c' := .slice p9 L.length c9) HP1.out
    have hrowE := hch1.block HE1.out (by simp)
    generalize ((w1.setCell ⟨bp, 0, none⟩ (.int .i64 id)).setCell ⟨bp, 1, none⟩ (.int .i64 ver)).setCell ⟨bp, 2, none⟩ (.slice p9 L.length c9) = wy at hch1 hrow hrowE ⊢
    have hch2 : Chg (some (bp + 1)) wy (wy.setCell ⟨bp + 1, 0, none⟩ (.int .i64 0)) := setCells_chg (bp + 1) [.int .i64 0] 0 wy
    have hrow2 := hch2.block hrow (by simp)
    have hE2 := row1_set (a' := .int .i64 0) hrowE
    have hGf : Gr w (wy.setCell ⟨bp + 1, 0, none⟩ (.int .i64 0)) := gr_step (gr_step HG1.out (Gr.refl _) hch1 (fun g e => by cases e; have := Hbp.out; omega)) (Gr.refl _) hch2 (fun g e => by cases e; have := Hbp.out; omega)
    have hOw := ((HOw.out.keep hch1 (.inr (fun e => by have := HOw.out.ge e; omega))).keep hch2 (.inr (fun e => by have := HOw.out.ge e; omega))).mono (show w.heap.size ≤ bp + 3 by have := Hbp.out; omega)
    refine (catch_idle bp (bp + 1) _).mono ?_
    rintro e u' w2 ⟨rfl, rfl, rfl⟩
    obtain ⟨m0, m1, m2⟩ := row3 hrow2
    have e0 := cell_of_row _ (bp + 1) 0 _ _ _ hE2
    rw [HOd.out]
    refine ⟨_, ?_, ⟨_, rfl, hOw, hGf⟩⟩
    simp [results, Tryz.results36, go_sem, m0, m1, m2, e0, dcI, dcV, dcE]
end
end Go.Proofs.YtjnnhhengpinmaaGreatDoor
