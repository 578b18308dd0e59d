/- Laws of copy and clear on a disk's blocks, for the walk. No program in sight. -/
import Derived.Test.YtmkdnfiiehgcaaaDkF
import Derived.Lib.BufferWrite
import Derived.Laws.CopyRow
import Derived.Laws.IdiomCopy
namespace Go.Proofs.Ytmkdnfiiehgcaaa
open Go Go.RowKit

theorem byC_lib (s : ByteArray) : Go.Lib.byteCells s.data.toList = byC s.data.toList := rfl
theorem byC_size (s : ByteArray) : s.data.toList.length = s.size := by simp
/-- a string copied into a block of bytes -/
theorem wpList_copy_str {P : Program} {w : World} {ops : Array Oper} {rest : List Oper} {o : Oper} {a : Act} {Q : Exit → Act → World → Prop} (hgd : o.guard = none) (d s : Operand) (dT sT : TypeId)
    (ho : o.op = .call { callee := .builtin .copy, args := #[d, s], argTypes := #[dT, sT] }) (elem : TypeId) (hu : P.underlying dT = some (.slice elem)) (hsz : (P.info? elem).map (·.size) = some 1)
    (g off dLen dCap : Nat) (t : ByteArray) (hd : a.eval d = .slice (some ⟨g, off, none⟩) dLen dCap) (hs : a.eval s = .string t) {U : TypeId} {b : List UInt8} (hrow : ByRow U g b w) (hle : t.size ≤ dLen) (hfit : off + t.size ≤ b.length)
    (h : ∀ w', ByRow U g (putB b off t.data.toList) w' → Chs (fun k => k = g) w w' → wpList P ops Q rest (a.put o.dst (goInt t.size)) w') : wpList P ops Q (o :: rest) a w := by
  refine wpList_plain hgd fun K hK => ?_
  have hrun := Go.Lib.run_copy_row_string (P := P) w dT sT o.type elem g off dLen dCap t (byC b).toArray U hu hsz hrow hle (by simpa [byC] using hfit)
  unfold Oper.wp
  simp [execOp, ho, resolve, invoke, builtin, hd, hs, hrun, Result.andThen]
  refine hK _ _ (h _ ?_ (chs_setRow (S := fun k => k = g) w rfl _))
  unfold ByRow
  have e : (List.take off (byC b) ++ (Go.Lib.byteCells t.data.toList ++ List.drop (off + t.size) (byC b))) = byC (putB b off t.data.toList) := by
    rw [← byC_put, byC_lib, byC_size, List.append_assoc]
  rw [e]
  exact setRow_heap w g _ _ U _ hrow
/-- an empty string copied: nothing happens, wherever the slice begins -/
theorem wpList_copy_str0 {P : Program} {w : World} {ops : Array Oper} {rest : List Oper} {o : Oper} {a : Act} {Q : Exit → Act → World → Prop} (hgd : o.guard = none) (d s : Operand) (dT sT : TypeId)
    (ho : o.op = .call { callee := .builtin .copy, args := #[d, s], argTypes := #[dT, sT] }) (elem : TypeId) (hu : P.underlying dT = some (.slice elem)) (hsz : (P.info? elem).map (·.size) = some 1)
    (dp : Option Addr) (dLen dCap : Nat) (t : ByteArray) (hd : a.eval d = .slice dp dLen dCap) (hs : a.eval s = .string t) (h0 : t.size = 0)
    (h : wpList P ops Q rest (a.put o.dst (goInt 0)) w) : wpList P ops Q (o :: rest) a w := by
  refine wpList_plain hgd fun K hK => ?_
  have hrun := Go.Lib.run_copy_empty_string (P := P) w dT sT o.type elem dp dLen dCap t hu (by cases hq : P.info? elem <;> simp [hq] at hsz ⊢) h0
  unfold Oper.wp
  simp [execOp, ho, resolve, invoke, builtin, hd, hs, hrun, Result.andThen]
  exact hK _ _ h
/-- a block of bytes copied onto another one of the same length -/
theorem wpList_copy_whole {P : Program} {w : World} {ops : Array Oper} {rest : List Oper} {o : Oper} {a : Act} {Q : Exit → Act → World → Prop} (hgd : o.guard = none) (d s : Operand) (dT sT : TypeId)
    (ho : o.op = .call { callee := .builtin .copy, args := #[d, s], argTypes := #[dT, sT] }) (elem : TypeId) (hu : P.underlying dT = some (.slice elem)) (hsz : (P.info? elem).map (·.size) = some 1)
    (g g' n : Nat) (hd : a.eval d = .slice (some ⟨g, 0, none⟩) n n) (hs : a.eval s = .slice (some ⟨g', 0, none⟩) n n) {U : TypeId} {b b' : List UInt8} (hrow : ByRow U g b w) (hrow' : ByRow U g' b' w) (hb : b.length = n) (hb' : b'.length = n)
    (h : ∀ w', ByRow U g b' w' → Chs (fun k => k = g) w w' → wpList P ops Q rest (a.put o.dst (goInt n)) w') : wpList P ops Q (o :: rest) a w := by
  refine wpList_plain hgd fun K hK => ?_
  have hl : (byC b').length = n := by rw [byC_length, hb']
  have hrun := run_copy_row (P := P) w dT sT o.type elem g 0 n n ⟨g', 0, none⟩ n n (byC b).toArray U (byC b') hu hsz hrow (by rw [hl]; exact (Nat.min_self n).symm) (fun j v hj => by
    rw [Addr.add_mid, cell_of_row _ _ _ _ _ _ hrow', Nat.zero_add]; simpa using hj) (by rw [hl]; simp [byC, hb]) (byC_one _)
  unfold Oper.wp
  simp [execOp, ho, resolve, invoke, builtin, hd, hs, hrun, Result.andThen]
  rw [hl]
  refine hK _ _ (h _ ?_ (chs_setRow (S := fun k => k = g) w rfl _))
  unfold ByRow
  have e : List.drop (0 + n) (byC b) = [] := List.drop_eq_nil_of_le (by rw [byC_length, hb]; omega)
  have e2 : (byC b' ++ List.drop n (byC b)) = byC b' := by rw [show n = 0 + n by omega, e, List.append_nil]
  rw [e2]
  exact setRow_heap w g _ _ U _ hrow
/-- a slice that the call owns has been cleared: cut to nothing it is still owned -/
def Cleared (B s n : Nat) (v : Value) (w : World) : Prop := ∃ p cap, v = .slice p n cap ∧ Own B s (.slice p 0 cap) 0 [] w
/-- the pending writes are cleared -/
theorem wpList_clear_own {P : Program} {w : World} {ops : Array Oper} {rest : List Oper} {o : Oper} {a : Act} {Q : Exit → Act → World → Prop} (hgd : o.guard = none) (x : Operand) (t : TypeId)
    (ho : o.op = .call { callee := .builtin .clear, args := #[x], argTypes := #[t] }) (elem : TypeId) (i : TypeInfo) (z : Value) (hu : P.underlying t = some (.slice elem)) (hi : P.info? elem = some i) (hz : i.zero = some z) {s : Nat} (hzs : z.cells.size = s) (hz1 : ∀ v ∈ z.cells, v.oneCell' = true)
    {B : Nat} {v : Value} {n : Nat} {xs : List Value} (hx : a.eval x = v) (hown : Own B s v n xs w)
    (h : ∀ w', Cleared B s n v w' → Chs (fun k => v.ownBlock = some k) w w' → wpList P ops Q rest (a.put o.dst (.tuple #[])) w') : wpList P ops Q (o :: rest) a w := by
  refine wpList_plain hgd fun K hK => ?_
  obtain ⟨hl, hown⟩ := hown
  rcases hown with ⟨rfl, rfl⟩ | ⟨g, off, cap, rfl, hB, hn, hcm, hxs, hw⟩
  · have hrun : (Builtin.clear_ #[t] o.type #[.slice none 0 0]).run P w = .ok (.tuple #[]) w := by
      simp [Builtin.clear_, run_underlying hu]
    unfold Oper.wp
    simp [execOp, ho, resolve, invoke, builtin, hx, hrun, Result.andThen]
    exact hK _ _ (h _ ⟨none, 0, rfl, Own.nil _ _ _⟩ (Chs.refl _ _))
  · by_cases h0 : n = 0
    · subst h0
      have hrun : (Builtin.clear_ #[t] o.type #[.slice (some ⟨g, off, none⟩) 0 cap]).run P w = .ok (.tuple #[]) w := by
        simp [Builtin.clear_, run_underlying hu]
      unfold Oper.wp
      simp [execOp, ho, resolve, invoke, builtin, hx, hrun, Result.andThen]
      refine hK _ _ (h _ ⟨_, cap, rfl, ?_⟩ (Chs.refl _ _))
      exact ⟨by simp, .inr ⟨g, off, cap, rfl, hB, Nat.zero_le _, hcm, fun j u hj => by simp at hj, hw⟩⟩
    · have hsz : (Builtin.zeroCells z.cells n).toList.length = n * s := by rw [Array.length_toList, size_zeroCells, hzs]
      have hle := Nat.mul_le_mul_right s hn
      have hone : ∀ u ∈ (Builtin.zeroCells z.cells n).toList, u.oneCell' = true := by
        intro u hu'
        simp only [Builtin.zeroCells, Array.toList_map, List.mem_map] at hu'
        obtain ⟨j, hj, rfl⟩ := hu'
        have hj' : j < n * z.cells.size := by simpa using hj
        have hpos : 0 < z.cells.size := by
          rcases Nat.eq_zero_or_pos z.cells.size with e | e
          · rw [e, Nat.mul_zero] at hj'; omega
          · exact e
        have hm : j % z.cells.size < z.cells.size := Nat.mod_lt _ hpos
        rw [getElem!_pos z.cells (j % z.cells.size) hm]
        exact hz1 _ (Array.getElem_mem hm)
      have hst := run_storeCells_cells (P := P) g off (Builtin.zeroCells z.cells n).toList 0 w (fun j hj => by rw [Nat.add_zero]; exact (hw j (by omega)).1) (fun j hj => by rw [Nat.add_zero]; exact (hw j (by omega)).2) hone
      rw [Nat.add_zero] at hst
      have hrun : (Builtin.clear_ #[t] o.type #[.slice (some ⟨g, off, none⟩) n cap]).run P w = .ok (.tuple #[]) (w.setCells g off (Builtin.zeroCells z.cells n).toList) := by
        obtain ⟨m, rfl⟩ : ∃ m, n = m + 1 := ⟨n - 1, by omega⟩
        simp [Builtin.clear_, run_underlying hu, zeroValue, typeInfo, hi, hz, hst, Result.andThen]
      unfold Oper.wp
      simp [execOp, ho, resolve, invoke, builtin, hx, hrun, Result.andThen]
      refine hK _ _ (h _ ⟨_, cap, rfl, ?_⟩ (chs_setCells w (by rfl) _ _))
      refine ⟨by simp, .inr ⟨g, off, cap, rfl, hB, Nat.zero_le _, hcm, fun j u hj => by simp at hj, fun j hj => ?_⟩⟩
      refine ⟨World.isSome_setCells g _ _ w _ (hw j hj).1, by rw [World.frozen?_setCells]; exact (hw j hj).2⟩
end Go.Proofs.Ytmkdnfiiehgcaaa
