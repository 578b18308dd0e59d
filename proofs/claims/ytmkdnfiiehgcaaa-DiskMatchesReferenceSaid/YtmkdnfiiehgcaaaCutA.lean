/- DiskCut: plain laws, and an append to a slice of numbers. -/
import Derived.Test.YtmkdnfiiehgcaaaAll
namespace Go.Proofs.Ytmkdnfiiehgcaaa
open Go Go.RowKit

theorem Held.grow {w x y : World} {X Y R : Nat → Prop} {gd n : Nat} {d : Dk} (h : Held w X gd n d x) (hc : Chs R x y) (hR : ∀ k, R k → X k) (hY : ∀ k, Y k → X k ∨ (x.heap.size ≤ k ∧ k < y.heap.size)) : Held w Y gd n d y := by
  obtain ⟨hi, hG, hX, S, hd, hs⟩ := h
  refine ⟨hi, Below.trans hG (hc.below (fun k hk => (hX k (hR k hk)).1) hG.size), fun k hk => ?_, S, hd.keep hc (fun k hk hr => (hs k hk).2.2 (hR k hr)), fun k hk => ?_⟩
  · rcases hY k hk with h | h
    · exact ⟨(hX k h).1, Nat.lt_of_lt_of_le (hX k h).2 hc.size⟩
    · exact ⟨Nat.le_trans hG.size h.1, h.2⟩
  · obtain ⟨h1, h2, h3⟩ := hs k hk
    refine ⟨h1, Nat.lt_of_lt_of_le h2 hc.size, fun hy => ?_⟩
    rcases hY k hy with h | h
    · exact h3 h
    · omega
theorem own_ints0 {B : Nat} {W : World} {k : Nat} {v : Value} {l : List Int} (h : Own B 1 v k (iC l) W) (hl : l.length = k) : IntsBelow W.heap.size v l W := by
  rcases h.2 with ⟨rfl, rfl⟩ | ⟨g, off, cap, rfl, hB, hn, hcm, hx, hw⟩
  · exact .inl ⟨List.eq_nil_of_length_eq_zero hl, _, _, rfl⟩
  · by_cases h0 : k = 0
    · subst h0; exact .inl ⟨List.eq_nil_of_length_eq_zero hl, _, _, rfl⟩
    · refine .inr ⟨g, off, cap, by rw [hl], isSome_lt (hw 0 (by omega)).1, fun j x hj => hx j _ (by simp [iC, hj])⟩
/-- an append of one number to a slice of numbers that the call owns -/
theorem push_num {ops : Array Oper} {rest : List Oper} {o : Oper} {a : Act} {W : World} {Q : Exit → Act → World → Prop} {i : TypeInfo} {v : Value} {j B : Nat} {l : List Int} {x : Int} {dt st : Tmp} (hg : o.guard = none)
    (hop : o.op = Op.call { callee := Callee.builtin Builtin.append, args := #[.tmp dt, .tmp st], argTypes := #[37, 37] }) (h2 : Try.prog.info? 3 = some i) (h3 : i.zero = some (.int .i64 0)) (h4 : i.size = 1) (h5 : i.bytes = 8)
    (hs : a.eval (.tmp dt) = v) (hO : Own B 1 v j (iC l) W) (hj : j ≤ 1000000) (hB : B ≤ W.heap.size)
    (hx : a.eval (.tmp st) = .slice (some ⟨W.heap.size, 0, none⟩) 1 1)
    (h : ∀ v' w', Own B 1 v' (j + 1) (iC (l ++ [x])) w' → Chs (fun k => v.ownBlock = some k) W w' → (∀ g, v'.ownBlock = some g → (v.ownBlock = some g ∨ W.heap.size ≤ g) ∧ g < w'.heap.size) → wpList Try.prog ops Q rest (a.put o.dst v') w') :
    wpList Try.prog ops Q (o :: rest) a (W.alloc (.cells #[.int .i64 x] 3)) := by
  have hrow := heap_alloc_new W (.cells #[.int .i64 x] 3)
  refine wpList_append_Own hg (.tmp dt) (.tmp st) 37 hop 3 i (.int .i64 0) 1 8 Try.underlying37 h2 h3 h4 h5 rfl (by decide) hs (hO.gr (Gr.alloc W (.cells #[.int .i64 x] 3))) ⟨W.heap.size, 0, none⟩ 1 1 [.int .i64 x] hx rfl ?_ (by intro u hu; simp at hu; subst hu; rfl) (by decide) (by unfold maxLen; omega) (by omega) (Nat.le_trans hB (by simp)) ?_
  · intro k u hk
    rw [Addr.add_mid, cell_of_row _ _ _ _ _ _ hrow, Nat.zero_add]; simpa using hk
  · intro v' w' k1 k2 k3
    refine h v' w' ?_ ?_ ?_
    · have e : iC (l ++ [x]) = iC l ++ [.int .i64 x] := by simp [iC]
      rw [e]; exact k1
    · exact chs_push (Gr.alloc W _) k2
    · intro g hg
      refine ⟨(k3 g hg).imp id (fun h => by rw [World.size_alloc] at h; omega), ?_⟩
      rcases k1.2 with ⟨rfl, h0⟩ | ⟨g', off, cap, rfl, hB, hn, hcm, hx, hw⟩
      · simp [Value.ownBlock] at hg
      · simp [Value.ownBlock] at hg
        subst hg
        exact isSome_lt (hw 0 (by omega)).1
/-- the state behind k writes on a disk that takes m of them -/
def CuD (m k : Nat) (d : Dk) : Prop := d.left = m - k ∧ d.off = decide (m ≤ k) ∧ d.pend.length = min k m
theorem cut_a (n m : Nat) (h : m ≠ 0) : cutD (newD n) (m : Int) = (0, { newD n with off := false, left := m }) := by
  unfold cutD
  rw [if_neg (by simp [newD]), if_neg (by omega)]
  have : decide ((m : Int) = 0) = false := decide_eq_false (by omega)
  rw [this, Int.toNat_natCast]
theorem cut_b {d : Dk} (h : d.off = false) (m : Nat) : cutD d (m : Int) = (0, { d with off := decide ((m : Int) = 0), left := m }) := by
  unfold cutD
  rw [if_neg (by rw [h]; simp), if_neg (by omega), Int.toNat_natCast]
theorem cuD_zero (m : Nat) (d : Dk) (h : d.pend = []) : CuD m 0 { d with off := decide ((m : Int) = 0), left := m } := by
  refine ⟨by simp, ?_, by simp [h]⟩
  show decide ((m : Int) = 0) = decide (m ≤ 0)
  by_cases h0 : m = 0
  · subst h0; rfl
  · rw [decide_eq_false (by omega), decide_eq_false (by omega)]
theorem cuD_wrote {m k : Nat} {d : Dk} (h : CuD m k d) (hk : k < m) (o : Nat) (s : ByteArray) : CuD m (k + 1) (d.wrote o s) := by
  obtain ⟨h1, h2, h3⟩ := h
  unfold CuD Dk.wrote usedP
  rw [if_neg (by omega)]
  refine ⟨by simp only; omega, ?_, by simp only [List.length_append, List.length_singleton]; omega⟩
  simp only
  by_cases h0 : m - k = 1
  · rw [decide_eq_true (by omega), decide_eq_true (by omega)]
  · rw [decide_eq_false (by omega), decide_eq_false (by omega)]
theorem cuD_over {m k : Nat} {d : Dk} (h : CuD m k d) (hk : m ≤ k) : CuD m (k + 1) d ∧ d.off = true := by
  obtain ⟨h1, h2, h3⟩ := h
  have : d.off = true := by rw [h2]; exact decide_eq_true hk
  exact ⟨⟨by omega, by rw [this]; exact (decide_eq_true (by omega)).symm, by omega⟩, this⟩
theorem cuD_on {m k : Nat} {d : Dk} (h : CuD m k d) (hk : k < m) : d.off = false := by rw [h.2.1]; exact decide_eq_false (by omega)
theorem write_off {d : Dk} {n : Nat} {o : Int} {s : ByteArray} (h : d.off = true) : writeD d n o s = (251, d) := by unfold writeD; rw [if_pos h]
theorem read_off {d : Dk} {n : Nat} {o m : Int} (h : d.off = true) : readD d n o m = (⟨#[]⟩, 251) := by unfold readD; rw [if_pos h]
theorem sync_off {d : Dk} (h : d.off = true) : syncD d = (251, d) := by unfold syncD; rw [if_pos h]
theorem sync_on {d : Dk} (h : d.off = false) : syncD d = (0, settleD d d.vis) := by unfold syncD; rw [if_neg (by rw [h]; simp)]
theorem cut_off {d : Dk} {m : Int} (h : d.off = true) : cutD d m = (251, d) := by unfold cutD; rw [if_pos h]
end Go.Proofs.Ytmkdnfiiehgcaaa
