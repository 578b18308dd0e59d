/- The contracts of the function that Decode defers: where nothing panicked, and where an error number was thrown. -/
import Derived.Defers
import Derived.Recover
import Derived.Laws.Pointers
import Derived.Test.YtaoggehdkddgeaaGreatDoorGEnA
import Derived.Test.YtaoggehdkddgeaaGreatDoorNC
import Derived.Test.YtaoggehdkddgeaaGreatDoorNH
import Derived.BigQuiet
import Derived.Test.YtaoggehdkddgeaaGreatDoorGNN
namespace Go.Proofs.YtaoggehdkddgeaaGreatDoor
section
open Go Go.RowKit

theorem row1_set {W : World} {g : Nat} {a a' : Value} {t : TypeId} (h : W.heap[g]? = some (.cells #[a] t (0, 0))) : (W.setCell ⟨g, 0, none⟩ a').heap[g]? = some (.cells #[a'] t (0, 0)) := by
  rw [heap_setCell_same W g 0 _ t a' h]; rfl
end
section
open Go Go.RowKit Go.Shelf
attribute [local go_sem] gAt gUpon
attribute [local simp] Gr.refl Gr.alloc

theorem rdZ_len : ∀ (f i z : Nat) (l : List UInt8) (y : Nat) (r : List UInt8), rdZ f i z l = some (y, r) → r.length < l.length := by
  intro f
  induction f with
  | zero => intro i z l y r h; simp [rdZ] at h
  | succ f ih =>
    intro i z l y r h
    cases l with
    | nil => simp [rdZ] at h
    | cons b l =>
      rw [rdZ] at h
      split at h
      · have := ih _ _ _ _ _ h; simp; omega
      · split at h
        · cases h
        · injection h with h; injection h with e1 e2
          subst e2; simp
theorem rdZ_drop : ∀ (f i z : Nat) (l : List UInt8) (y : Nat) (r : List UInt8), rdZ f i z l = some (y, r) → r = l.drop (l.length - r.length) := by
  intro f
  induction f with
  | zero => intro i z l y r h; simp [rdZ] at h
  | succ f ih =>
    intro i z l y r h
    have hlen := rdZ_len _ _ _ _ _ _ h
    cases l with
    | nil => simp [rdZ] at h
    | cons b l =>
      rw [rdZ] at h
      split at h
      · have h1 := ih _ _ _ _ _ h
        have h2 := rdZ_len _ _ _ _ _ _ h
        rw [List.length_cons, show l.length + 1 - r.length = (l.length - r.length) + 1 by omega, List.drop_succ_cons]; exact h1
      · split at h
        · cases h
        · injection h with h; injection h with e1 e2
          subst e2; simp
theorem rdI_drop {l r : List UInt8} {n : Int} (h : rdI l = some (n, r)) : r.length < l.length ∧ r = l.drop (l.length - r.length) := by
  unfold rdI at h
  rw [Option.map_eq_some_iff] at h
  obtain ⟨⟨y, r'⟩, h1, h2⟩ := h
  injection h2 with e1 e2
  simp only at e2
  subst e2
  exact ⟨rdZ_len _ _ _ _ _ _ h1, rdZ_drop _ _ _ _ _ _ h1⟩
/-- what is left behind a number, read from the text -/
theorem rdI_rest {s : ByteArray} {k : Nat} {r : List UInt8} {n : Int} (h : rdI (s.data.toList.drop k) = some (n, r)) : r.length < s.size ∧ k < s.size - r.length ∧ r = s.data.toList.drop (s.size - r.length) := by
  obtain ⟨h1, h2⟩ := rdI_drop h
  have hlen : s.data.toList.length = s.size := by simp
  rw [List.length_drop, hlen] at h1 h2
  refine ⟨by omega, by omega, ?_⟩
  rw [List.drop_drop] at h2
  rw [show k + (s.size - k - r.length) = s.size - r.length by omega] at h2
  exact h2
/-- what String gives -/
def txtV (n : Nat) : Option (ByteArray × List UInt8) → Value
  | none => .tuple #[.string ⟨#[]⟩, .int .i64 0, .int .i64 10]
  | some (x, r) => .tuple #[.string x, .int .i64 ((n - r.length : Nat) : Int), .int .i64 0]
theorem cut_bytes (s : ByteArray) (a n : Nat) : s.extract a (a + n) = ⟨((s.data.toList.drop a).take n).toArray⟩ := by
  apply ba_ext
  rw [extB, Nat.add_sub_cancel_left]
set_option maxRecDepth 100000 in
theorem string_any (s : ByteArray) (k : Nat) (hs : s.size ≤ 9223372036854775000) (ha : k ≤ s.size) (w : World) :
    Calls Tryz.prog 164 #[.string s, .int .i64 (k : Int)] w fun e w' => e = .returned (txtV s.size (rdS (s.data.toList.drop k))) ∧ w = w' := by
  have HI := Lib.hid (int_any s k hs ha)
  obtain ⟨R, hR⟩ : ∃ R, rdI (s.data.toList.drop k) = R := ⟨_, rfl⟩
  cases R with
  | none =>
    have HR : Hid (rdS (s.data.toList.drop k) = none) := Lib.hid (by unfold rdS; rw [hR])
    rw [hR] at HI
    rw [HR.out]
    clear hR
    go_enter Tryz.func164, Tryz.ntmps164
    go_wp2_with fail
    refine (HI.out w).mono ?_
    rintro e w1 ⟨rfl, rfl⟩
    unfold intV
    clear HI
    go_wp2_with fail
    refine bodyPost_ret (results_tmp3 rfl _ _ _) rfl ?_
    exact ⟨rfl, rfl⟩
  | some p =>
    obtain ⟨n, q⟩ := p
    obtain ⟨h1, h2, h3⟩ := rdI_rest hR
    have hz := (rdI_inv hR).1
    unfold zigOk at hz; simp only [Bool.and_eq_true, decide_eq_true_eq] at hz
    rw [hR] at HI
    obtain ⟨nx, hnx⟩ : ∃ nx, s.size - q.length = nx := ⟨_, rfl⟩
    have hq : q.length = s.size - nx := by omega
    by_cases c1 : n < 0
    · have HR : Hid (rdS (s.data.toList.drop k) = none) := Lib.hid (by unfold rdS; rw [hR]; simp only; rw [if_neg (by omega)])
      rw [HR.out]
      have t1 : decide (n < 0) = true := decide_eq_true c1
      clear hR h3
      go_enter Tryz.func164, Tryz.ntmps164
      go_wp2_with fail
      refine (HI.out w).mono ?_
      rintro e w1 ⟨rfl, rfl⟩
      unfold intV
      clear HI
      go_wp2_with fail
      refine bodyPost_ret (results_tmp3 rfl _ _ _) rfl ?_
      exact ⟨rfl, rfl⟩
    · have t1 : decide (n < 0) = false := decide_eq_false c1
      by_cases c2 : 65536 < n
      · have HR : Hid (rdS (s.data.toList.drop k) = none) := Lib.hid (by unfold rdS; rw [hR]; simp only; rw [if_neg (by omega)])
        rw [HR.out]
        have t2 : decide (65536 < n) = true := decide_eq_true c2
        clear hR h3
        go_enter Tryz.func164, Tryz.ntmps164
        go_wp2_with fail
        refine (HI.out w).mono ?_
        rintro e w1 ⟨rfl, rfl⟩
        unfold intV
        clear HI
        go_wp2_with fail
        refine bodyPost_ret (results_tmp3 rfl _ _ _) rfl ?_
        exact ⟨rfl, rfl⟩
      · have t2 : decide (65536 < n) = false := decide_eq_false c2
        obtain ⟨m, rfl⟩ := Int.eq_ofNat_of_zero_le (show 0 ≤ n by omega)
        have e3 : (s.size : Int) - (nx : Int) = ((s.size - nx : Nat) : Int) := by omega
        by_cases c3 : s.size - nx < m
        · have HR : Hid (rdS (s.data.toList.drop k) = none) := Lib.hid (by unfold rdS; rw [hR]; simp only; rw [if_neg (by omega)])
          rw [HR.out]
          have t3 : decide ((s.size : Int) - (nx : Int) < (m : Int)) = true := decide_eq_true (by omega)
          have t3' : decide (s.size - nx < m) = true := decide_eq_true c3
          rw [show intV s.size (some ((m : Int), q)) = .tuple #[.int .i64 (m : Int), .int .i64 (nx : Int), .int .i64 0] by rw [← hnx]; rfl] at HI
          clear hR h3
          go_enter Tryz.func164, Tryz.ntmps164
          go_wp2_with fail
          refine (HI.out w).mono ?_
          rintro e w1 ⟨rfl, rfl⟩
          clear HI
          go_wp2_with fail
          refine bodyPost_ret (results_tmp3 rfl _ _ _) rfl ?_
          exact ⟨rfl, rfl⟩
        · have t3 : decide ((s.size : Int) - (nx : Int) < (m : Int)) = false := decide_eq_false (by omega)
          have t3' : decide (s.size - nx < m) = false := decide_eq_false c3
          obtain ⟨y, hy⟩ : ∃ y, nx + m = y := ⟨_, rfl⟩
          have HR : Hid (txtV s.size (rdS (s.data.toList.drop k)) = .tuple #[.string (s.extract nx y), .int .i64 (y : Int), .int .i64 0]) := Lib.hid (by
            unfold rdS; rw [hR]; simp only
            rw [if_pos (by omega), Int.toNat_natCast, ← hy, cut_bytes s nx m]
            show Value.tuple #[.string _, .int .i64 ((s.size - (q.drop m).length : Nat) : Int), .int .i64 0] = _
            rw [List.length_drop, hq, show s.size - (s.size - nx - m) = nx + m by omega]
            rw [hnx] at h3
            rw [← h3])
          rw [HR.out]
          rw [show intV s.size (some ((m : Int), q)) = .tuple #[.int .i64 (m : Int), .int .i64 (nx : Int), .int .i64 0] by rw [← hnx]; rfl] at HI
          have e4 : (nx : Int) + (m : Int) = (y : Int) := by omega
          have e5 : IntKind.i64.wrap (y : Int) = (y : Int) := IntWalk.i64_in _ (by omega)
          have b1 : (nx : Int) ≤ (y : Int) := by omega
          have b2 : (y : Int) ≤ (s.size : Int) := by omega
          clear hR h3
          go_enter Tryz.func164, Tryz.ntmps164
          go_wp2_with fail
          refine (HI.out w).mono ?_
          rintro e w1 ⟨rfl, rfl⟩
          clear HI
          go_wp2_with fail
          refine bodyPost_ret (results_tmp3 rfl _ _ _) rfl ?_
          exact ⟨rfl, rfl⟩
end
section
open Go Go.RowKit Go.Shelf
attribute [local go_sem] gAt gUpon
attribute [local simp] Gr.refl Gr.alloc

end
section
open Go Go.RowKit Go.Shelf
attribute [local go_sem] gAt gUpon pUpon
attribute [local simp] Gr.refl Gr.alloc

theorem Chg.new {g b : Nat} {w X Y : World} (h : Chg (some g) w X) (k : Chg (some b) X Y) (hb : w.heap.size ≤ b) : Chg (some g) w Y :=
  ⟨k.1.trans h.1, k.2.1.trans h.2.1, k.2.2.1.trans h.2.2.1, Nat.le_trans h.size k.size, fun i hi hne =>
    (k.2.2.2.2 i (Nat.lt_of_lt_of_le hi h.size) (fun e => by cases e; omega)).trans (h.2.2.2.2 i hi hne)⟩
/-- a place in the text, and what lies behind it -/
def Pl (s : ByteArray) (k : Nat) (l : List UInt8) : Prop := k ≤ s.size ∧ l = s.data.toList.drop k
end
section
open Go Go.RowKit Go.Shelf
attribute [local go_sem] gAt gUpon
attribute [local simp] Gr.refl Gr.alloc

end
end Go.Proofs.YtaoggehdkddgeaaGreatDoor
