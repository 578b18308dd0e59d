/- Plain laws on a disk's states: what the calls leave. No program in sight. -/
import Derived.Test.YtmkdnfiiehgcaaaDkC
namespace Go.Proofs.Ytmkdnfiiehgcaaa

theorem usedP_zero (b : Bool) : usedP b 0 = (b, 0) := rfl
theorem insideD_of {n o : Nat} {m : Nat} (h : o + m ≤ n) : insideD n (o : Int) (m : Int) = true := by
  unfold insideD
  rw [decide_eq_true (show (0 : Int) ≤ (o : Int) by omega), decide_eq_true (show (0 : Int) ≤ (m : Int) by omega), decide_eq_true (show (o : Int) ≤ (n : Int) by omega), decide_eq_true (show (m : Int) ≤ (n : Int) - (o : Int) by omega)]; rfl
theorem insideD_out {n : Nat} {o m : Int} (h : insideD n o m = true) : 0 ≤ o ∧ 0 ≤ m ∧ o ≤ n ∧ m ≤ n - o := by
  unfold insideD at h; simpa [and_assoc] using h
/-- the state behind a write that goes through -/
def Dk.wrote (d : Dk) (o : Nat) (s : ByteArray) : Dk := { d with off := (usedP d.off d.left).1, left := (usedP d.off d.left).2, vis := putW d.vis (o, s), pend := d.pend ++ [(o, s)] }
theorem Dk.wrote_inv {d : Dk} {n o : Nat} {s : ByteArray} (h : d.inv n) (ho : o + s.size ≤ n) : (d.wrote o s).inv n := by
  obtain ⟨h1, h2, h3, h4, h5⟩ := h
  refine ⟨h1, ?_, ?_, ?_, Nat.le_trans (usedP_le _ _) h5⟩
  · show (putW d.vis (o, s)).length = n
    rw [putW_len (by unfold Wr.ok; rw [h2]; exact ho), h2]
  · intro x hx
    rcases List.mem_append.1 hx with hx | hx
    · exact h3 x hx
    · simp at hx; subst hx; exact ho
  · show putW d.vis (o, s) = applyL d.dur (d.pend ++ [(o, s)])
    rw [applyL_snoc, ← h4]
theorem writeD_ok {d : Dk} {n o : Nat} {s : ByteArray} (h0 : d.off = false) (ho : o + s.size ≤ n) : writeD d n (o : Int) s = (0, d.wrote o s) := by
  unfold writeD Dk.wrote
  rw [if_neg (by rw [h0]; simp), if_neg (by rw [insideD_of ho]; simp)]
  simp
theorem writeD_inv {d : Dk} {n : Nat} {o : Int} {s : ByteArray} (h : d.inv n) : (writeD d n o s).2.inv n := by
  unfold writeD
  split
  · exact h
  · split
    · exact h
    · rename_i h1 h2
      have h3 : insideD n o s.size = true := by simpa using h2
      obtain ⟨a, _, b, c⟩ := insideD_out h3
      exact Dk.wrote_inv h (by omega)
theorem settleD_inv {d : Dk} {n : Nat} {c : List UInt8} (h : c.length = n) (hl : d.left ≤ 9223372036854775807) : (settleD d c).inv n := by
  refine ⟨h, h, ?_, rfl, hl⟩
  intro x hx; cases hx
theorem syncD_inv {d : Dk} {n : Nat} (h : d.inv n) : (syncD d).2.inv n := by
  unfold syncD; split
  · exact h
  · exact settleD_inv h.2.1 h.2.2.2.2
theorem crashD_inv {d : Dk} {n : Nat} (h : d.inv n) (keep : List Int) (t : Int) : (crashD d keep t).inv n := by
  have hl : (applyL d.dur (lastCut t (survive keep d.pend))).length = n := by
    rw [applyL_len _ _ (by rw [h.1]; exact lastCut_ok (survive_ok h.2.2.1)), h.1]
  refine ⟨hl, hl, ?_, rfl, Nat.zero_le _⟩
  intro x hx; cases hx
theorem survive_nil (p : List Wr) : survive [] p = [] := by
  unfold survive ordN
  rw [List.filter_eq_nil_iff.2 (by intro i _; simp)]; rfl
theorem survive_all (p : List Wr) : survive ((List.range p.length).map fun i : Nat => (i : Int)) p = p := by
  have h : ordN ((List.range p.length).map fun i : Nat => (i : Int)) p.length = List.range p.length := by
    unfold ordN
    rw [List.filter_eq_self]
    intro i hi
    simp only [decide_eq_true_eq, List.mem_map]
    exact ⟨i, hi, rfl⟩
  unfold survive
  rw [h]
  apply List.ext_getElem
  · simp
  · intro i h1 h2
    have : i < p.length := by simpa using h2
    simp [this]
theorem lastCut_neg (l : List Wr) : lastCut (-1) l = l := by
  induction l with
  | nil => rfl
  | cons x l ih =>
    cases l with
    | nil => rfl
    | cons y r => rw [lastCut, ih]
/-- a crash in which nothing survives -/
theorem crashD_nil (d : Dk) (t : Int) : crashD d [] t = { settleD d d.dur with off := false, left := 0 } := by
  unfold crashD; rw [survive_nil]; rfl
/-- a crash in which all survives -/
theorem crashD_all {d : Dk} {n : Nat} (h : d.inv n) : crashD d ((List.range d.pend.length).map fun i : Nat => (i : Int)) (-1) = { settleD d d.vis with off := false, left := 0 } := by
  unfold crashD; rw [survive_all, lastCut_neg, ← h.2.2.2.1]
end Go.Proofs.Ytmkdnfiiehgcaaa
