/- Steps among the arguments: what lies in memory, and that it is shown by the reading. -/
import Derived.Test.YtmkdnfiiehgcaaaStp
namespace Go.Proofs.Ytmkdnfiiehgcaaa
open Go Go.RowKit Go.ChangeShapes Go.WideShapes

/-- a call as the statements give it -/
structure SP where
  call : Int
  off : Int
  n : Int
  s : ByteArray
  keep : List Int
def i64B (x : Int) : Prop := -9223372036854775808 ≤ x ∧ x ≤ 9223372036854775807
def StR (w : World) (x : SP) (cs : List Value) : Prop := ∃ p c, cs = [.int .i64 x.call, .int .i64 x.off, .int .i64 x.n, .string x.s, .slice p x.keep.length c] ∧ i64B x.call ∧ i64B x.off ∧ i64B x.n ∧ x.s.size ≤ maxLen ∧ x.keep.length ≤ c ∧ c ≤ maxLen ∧ IntsBelow w.heap.size (.slice p x.keep.length c) x.keep w
section
variable {H : Type} {enc : TypeId × Value → H} {P : Program} {w : World}
theorem keep_of_trod {t e : TypeId} {n : Nat} {cs : List Value} {D : DataW H × List MemPlace} (ht : P.underlying t = some (.slice e)) (he : P.underlying e = some (.int .i64)) (hc : P.cellsOf e = 1) (h : DataW.trod enc P w 0 (fun _ => true) true n t cs = some D) :
    ∃ (l : List Int) (p : Option Addr) (c : Nat), cs = [.slice p l.length c] ∧ l.length ≤ c ∧ c ≤ maxLen ∧ IntsBelow w.heap.size (.slice p l.length c) l w := by
  rcases Go.Deep.open_slice ht h with ⟨hcs, _⟩ | ⟨a, len, cap, m, n, D, Pl, hcs, _, hl, hm, hmm, _, hi⟩
  · exact ⟨[], none, 0, hcs, Nat.le_refl _, Nat.zero_le _, .inl ⟨rfl, none, 0, rfl⟩⟩
  · simp only [if_true] at hmm
    rw [hc] at hi
    have hel : ∀ i, i < len → ∃ x : Int, w.cell? (a.add i) = some (.int .i64 x) := by
      intro i hlt
      obtain ⟨cs', hcc, htr⟩ := hi i (by omega)
      obtain ⟨_, hcl, hat⟩ := World.cells?_some hcc
      obtain ⟨x, hx, _⟩ := int_of_trod he htr
      refine ⟨x, ?_⟩
      have := hat 0 (by omega)
      rw [hx] at this
      rw [Go.Deep.add_add] at this
      simpa using this
    obtain ⟨l, hll, hlr⟩ := list_of len hel
    obtain ⟨b, off, spot⟩ := a
    by_cases h0 : len = 0
    · subst h0
      have : l = [] := List.eq_nil_of_length_eq_zero hll
      subst this
      exact ⟨[], _, cap, hcs, Nat.zero_le _, hm, .inl ⟨rfl, _, _, rfl⟩⟩
    · have hspot : spot = none := by
        obtain ⟨x0, hx0⟩ := hel 0 (by omega)
        have h2 := World.cell?_spot hx0
        cases spot with
        | none => rfl
        | some q => simp [Addr.add] at h2
      subst hspot
      obtain ⟨x0, hx0⟩ := hel 0 (by omega)
      refine ⟨l, some ⟨b, off, none⟩, cap, by rw [hll]; exact hcs, by omega, hm, .inr ⟨b, off, cap, rfl, World.block_lt_of_cell? w _ hx0, fun j x hj => ?_⟩⟩
      have := hlr j x hj
      rwa [Addr.add_mid] at this
theorem st_of_trod {e : TypeId} {f0 f1 f2 f3 f4 : Field} {ei : TypeId} {n : Nat} {cs : List Value} {D : DataW H × List MemPlace} (he : P.underlying e = some (.struct #[f0, f1, f2, f3, f4])) (o0 : f0.offset = 0) (o1 : f1.offset = 1) (o2 : f2.offset = 2) (o3 : f3.offset = 3) (o4 : f4.offset = 4)
    (c0 : P.cellsOf f0.type = 1) (c1 : P.cellsOf f1.type = 1) (c2 : P.cellsOf f2.type = 1) (c3 : P.cellsOf f3.type = 1) (c4 : P.cellsOf f4.type = 1) (t0 : P.underlying f0.type = some (.int .i64)) (t1 : P.underlying f1.type = some (.int .i64)) (t2 : P.underlying f2.type = some (.int .i64)) (t3 : P.underlying f3.type = some .string)
    (t4 : P.underlying f4.type = some (.slice ei)) (ti : P.underlying ei = some (.int .i64)) (ci : P.cellsOf ei = 1) (hC : cs.length = 5) (h : DataW.trod enc P w 0 (fun _ => true) true n e cs = some D) : ∃ x, StR w x cs := by
  match cs, hC with
  | [u0, u1, u2, u3, u4], _ =>
    obtain ⟨xs, m, _, _, _, hlen, hf⟩ := DataW.trod_struct he h
    match xs, hlen with
    | [y0, y1, y2, y3, y4], _ =>
      have h0 := hf 0 f0 rfl
      have h1 := hf 1 f1 rfl
      have h2 := hf 2 f2 rfl
      have h3 := hf 3 f3 rfl
      have h4 := hf 4 f4 rfl
      rw [o0, c0] at h0
      rw [o1, c1] at h1
      rw [o2, c2] at h2
      rw [o3, c3] at h3
      rw [o4, c4] at h4
      obtain ⟨a0, ha0, hb0⟩ := int_of_trod t0 h0
      obtain ⟨a1, ha1, hb1⟩ := int_of_trod t1 h1
      obtain ⟨a2, ha2, hb2⟩ := int_of_trod t2 h2
      obtain ⟨s, hs, _, hsz⟩ := DataW.trod_string t3 h3
      obtain ⟨l, p, c, hl, hlc, hcm, hz⟩ := keep_of_trod t4 ti ci h4
      simp at ha0 ha1 ha2 hs hl
      subst ha0 ha1 ha2 hs hl
      exact ⟨⟨a0, a1, a2, s, l⟩, p, c, rfl, hb0, hb1, hb2, hsz, hlc, hcm, hz⟩
end
/-- one element of the statement's list of calls -/
theorem st_at {p : Option Addr} {c k : Nat} {l : List SP} {w W : World} {x : SP} (hv : RowsIn 5 (StR w) (.slice p l.length c) l w) (hx : l[k]? = some x) (hg : Gr w W) :
    ∃ g off pk ck, p = some ⟨g, off, none⟩ ∧ l.length ≤ c ∧ g < w.heap.size ∧ W.cell? ⟨g, off + k * 5, none⟩ = some (.int .i64 x.call) ∧ W.cell? ⟨g, off + k * 5 + 1, none⟩ = some (.int .i64 x.off) ∧ W.cell? ⟨g, off + k * 5 + 2, none⟩ = some (.int .i64 x.n) ∧
      W.cell? ⟨g, off + k * 5 + 3, none⟩ = some (.string x.s) ∧ W.cell? ⟨g, off + k * 5 + 4, none⟩ = some (.slice pk x.keep.length ck) ∧ i64B x.call ∧ i64B x.off ∧ i64B x.n ∧ x.s.size ≤ maxLen ∧ x.keep.length ≤ ck ∧ ck ≤ maxLen ∧ IntsBelow w.heap.size (.slice pk x.keep.length ck) x.keep w := by
  have hlt := (List.getElem?_eq_some_iff.1 hx).1
  rcases hv with ⟨rfl, _⟩ | ⟨g, off, cap, he, h1, h2, h3, h4⟩
  · simp at hlt
  · injection he with e1 e2 e3
    subst e1 e3
    obtain ⟨cs, ⟨pk, ck, rfl, b0, b1, b2, b3, b4, b5, b6⟩, -, hc⟩ := h4 k x hx
    refine ⟨g, off, pk, ck, rfl, h1, ?_, ?_, ?_, ?_, ?_, ?_, b0, b1, b2, b3, b4, b5, b6⟩
    · exact World.block_lt_of_cell? w _ (hc 0 _ rfl)
    · exact hg.cell (hc 0 _ rfl)
    · exact hg.cell (by rw [Nat.add_assoc]; exact hc 1 _ rfl)
    · exact hg.cell (by rw [Nat.add_assoc]; exact hc 2 _ rfl)
    · exact hg.cell (by rw [Nat.add_assoc]; exact hc 3 _ rfl)
    · exact hg.cell (by rw [Nat.add_assoc]; exact hc 4 _ rfl)
end Go.Proofs.Ytmkdnfiiehgcaaa
