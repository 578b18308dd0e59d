/- Slices among the arguments, of elements of some cells: numbers, truth values, writes, steps. No program in sight. -/
import Derived.Test.YtmkdnfiiehgcaaaDkS
import Derived.Deep.Slices
import Derived.ChangeArms
import Derived.WideShapes
namespace Go.Proofs.Ytmkdnfiiehgcaaa
open Go Go.RowKit Go.ChangeShapes Go.WideShapes

theorem list_of {α : Type} {R : Nat → α → Prop} : ∀ n : Nat, (∀ i, i < n → ∃ x, R i x) → ∃ l : List α, l.length = n ∧ ∀ i x, l[i]? = some x → R i x
  | 0, _ => ⟨[], rfl, fun i x h => by simp at h⟩
  | n + 1, h => by
    obtain ⟨l, hl, hr⟩ := list_of n fun i hi => h i (by omega)
    obtain ⟨y, hy⟩ := h n (by omega)
    refine ⟨l ++ [y], by simp [hl], fun i x hx => ?_⟩
    by_cases hi : i < l.length
    · rw [List.getElem?_append_left hi] at hx; exact hr i x hx
    · rw [List.getElem?_append_right (by omega)] at hx
      have : i = n := by
        have := (List.getElem?_eq_some_iff.1 hx).1
        simp at this; omega
      subst this
      rw [show i - l.length = 0 by omega] at hx
      simp at hx; subst hx; exact hy
/-- v is a slice that came in; element i lies in s cells as R says -/
def RowsIn {α : Type} (s : Nat) (R : α → List Value → Prop) (v : Value) (l : List α) (w : World) : Prop :=
  (l = [] ∧ ∃ p cap, v = .slice p 0 cap) ∨ ∃ g off cap, v = .slice (some ⟨g, off, none⟩) l.length cap ∧ l.length ≤ cap ∧ cap ≤ maxLen ∧ 0 < l.length ∧
    ∀ (i : Nat) x, l[i]? = some x → ∃ cs, R x cs ∧ cs.length = s ∧ ∀ j u, cs[j]? = some u → w.cell? ⟨g, off + (i * s + j), none⟩ = some u
theorem RowsIn.gr {α : Type} {s : Nat} {R : α → List Value → Prop} {v : Value} {l : List α} {w x : World} (h : RowsIn s R v l w) (hg : Gr w x) : RowsIn s R v l x := by
  rcases h with h | ⟨g, off, cap, rfl, h1, h2, h3, h4⟩
  · exact .inl h
  · refine .inr ⟨g, off, cap, rfl, h1, h2, h3, fun i x hx => ?_⟩
    obtain ⟨cs, hr, hl, hc⟩ := h4 i x hx
    exact ⟨cs, hr, hl, fun j u hj => hg.cell (hc j u hj)⟩
theorem RowsIn.len {α : Type} {s : Nat} {R : α → List Value → Prop} {v : Value} {l : List α} {w : World} (h : RowsIn s R v l w) : l.length ≤ maxLen := by
  rcases h with ⟨rfl, _⟩ | ⟨_, _, _, _, h1, h2, _⟩
  · exact Nat.zero_le _
  · omega
theorem RowsIn.shape {α : Type} {s : Nat} {R : α → List Value → Prop} {v : Value} {l : List α} {w : World} (h : RowsIn s R v l w) : ∃ p cap, v = .slice p l.length cap ∧ (l.length ≤ cap ∨ l = []) := by
  rcases h with ⟨rfl, p, cap, rfl⟩ | ⟨g, off, cap, rfl, h1, _⟩
  · exact ⟨p, cap, rfl, .inr rfl⟩
  · exact ⟨_, cap, rfl, .inl h1⟩
section
variable {H : Type} {enc : TypeId × Value → H} {P : Program} {w : World}
/-- a slice among the arguments: what is shown of each element's reading holds of its cells -/
theorem open_rows {α : Type} {R : α → List Value → Prop} {r : Reach} {b0 : Nat} {t e : TypeId} {v : Value} {d : DataW H} {p : List MemPlace} (ht : P.underlying t = some (.slice e)) (hs0 : 0 < P.cellsOf e)
    (hok : Value.okWide P w r b0 t v) (h : DataW.Trod enc P w 0 (fun _ => true) true t v d p)
    (hR : ∀ (n : Nat) (cs : List Value) (D : DataW H × List MemPlace), cs.length = P.cellsOf e → DataW.trod enc P w 0 (fun _ => true) true n e cs = some D → ∃ x, R x cs) :
    ∃ l, RowsIn (P.cellsOf e) R v l w := by
  obtain ⟨a0, len, cap, rfl⟩ := okWide_slice ht hok
  obtain ⟨fuel, hf⟩ := h
  rcases Go.Deep.open_slice ht hf with ⟨hcs, _⟩ | ⟨a, len', cap', m, n, D, Pl, hcs, _, hl, hm, hmm, _, hi⟩
  · simp [Value.cells] at hcs
    obtain ⟨rfl, rfl, rfl⟩ := hcs
    exact ⟨[], .inl ⟨rfl, none, 0, rfl⟩⟩
  · simp [Value.cells] at hcs
    obtain ⟨rfl, rfl, rfl⟩ := hcs
    simp only [if_true] at hmm
    by_cases h0 : len = 0
    · subst h0
      exact ⟨[], .inl ⟨rfl, _, _, rfl⟩⟩
    · have hel : ∀ i, i < len → ∃ x : α, ∃ cs, R x cs ∧ cs.length = P.cellsOf e ∧ ∀ j u, cs[j]? = some u → w.cell? (a.add (i * P.cellsOf e + j)) = some u := by
        intro i hlt
        obtain ⟨cs, hc, htr⟩ := hi i (by omega)
        obtain ⟨_, hcl, hat⟩ := World.cells?_some hc
        obtain ⟨x, hx⟩ := hR n cs _ hcl htr
        refine ⟨x, cs, hx, hcl, fun j u hj => ?_⟩
        have hj' : j < P.cellsOf e := by have := (List.getElem?_eq_some_iff.1 hj).1; omega
        rw [← Go.Deep.add_add, hat j hj', hj]
      obtain ⟨l, hll, hlr⟩ := list_of len hel
      obtain ⟨b, off, spot⟩ := a
      have hspot : spot = none := by
        obtain ⟨x0, cs0, _, hl0, hc0⟩ := hel 0 (by omega)
        have hv : cs0[0]? = some (cs0[0]'(by omega)) := List.getElem?_eq_getElem (by omega)
        have := hc0 0 _ hv
        simp only [Nat.zero_mul, Nat.add_zero, Addr.add] at this
        simpa using World.cell?_spot this
      subst hspot
      refine ⟨l, .inr ⟨b, off, cap, by rw [hll], by omega, hm, by omega, fun i x hx => ?_⟩⟩
      obtain ⟨cs, hr, hl2, hc⟩ := hlr i x hx
      refine ⟨cs, hr, hl2, fun j u hj => ?_⟩
      have := hc j u hj
      rwa [Addr.add_mid] at this
/-- numbers -/
def IntR (x : Int) (cs : List Value) : Prop := cs = [.int .i64 x] ∧ -9223372036854775808 ≤ x ∧ x ≤ 9223372036854775807
def BoolR (x : Bool) (cs : List Value) : Prop := cs = [.bool x]
theorem int_of_trod {e : TypeId} {n : Nat} {cs : List Value} {D : DataW H × List MemPlace} (he : P.underlying e = some (.int .i64)) (h : DataW.trod enc P w 0 (fun _ => true) true n e cs = some D) : ∃ x, IntR x cs := by
  obtain ⟨x, rfl, _, hw⟩ := DataW.trod_int he h
  refine ⟨x, rfl, ?_⟩
  simp [Lit.wf, IntKind.min, IntKind.max, IntKind.signed, IntKind.bits] at hw
  exact hw
theorem bool_of_trod {e : TypeId} {n : Nat} {cs : List Value} {D : DataW H × List MemPlace} (he : P.underlying e = some .bool) (h : DataW.trod enc P w 0 (fun _ => true) true n e cs = some D) : ∃ x, BoolR x cs := by
  obtain ⟨x, rfl, _⟩ := DataW.trod_bool he h
  exact ⟨x, rfl⟩
/-- a write as the statements give it -/
structure WP where
  off : Int
  s : ByteArray
  sync : Bool
def WpR (x : WP) (cs : List Value) : Prop := cs = [.int .i64 x.off, .string x.s, .bool x.sync] ∧ -9223372036854775808 ≤ x.off ∧ x.off ≤ 9223372036854775807 ∧ x.s.size ≤ maxLen
theorem wp_of_trod {e : TypeId} {f0 f1 f2 : Field} {n : Nat} {cs : List Value} {D : DataW H × List MemPlace} (he : P.underlying e = some (.struct #[f0, f1, f2])) (o0 : f0.offset = 0) (o1 : f1.offset = 1) (o2 : f2.offset = 2)
    (c0 : P.cellsOf f0.type = 1) (c1 : P.cellsOf f1.type = 1) (c2 : P.cellsOf f2.type = 1) (t0 : P.underlying f0.type = some (.int .i64)) (t1 : P.underlying f1.type = some .string) (t2 : P.underlying f2.type = some .bool) (hC : cs.length = 3)
    (h : DataW.trod enc P w 0 (fun _ => true) true n e cs = some D) : ∃ x, WpR x cs := by
  match cs, hC with
  | [u0, u1, u2], _ =>
    obtain ⟨xs, m, _, _, _, hlen, hf⟩ := DataW.trod_struct he h
    match xs, hlen with
    | [y0, y1, y2], _ =>
      have h0 := hf 0 f0 rfl
      have h1 := hf 1 f1 rfl
      have h2 := hf 2 f2 rfl
      rw [o0, c0] at h0
      rw [o1, c1] at h1
      rw [o2, c2] at h2
      obtain ⟨a, ha, hb⟩ := int_of_trod t0 h0
      obtain ⟨s, hs, _, hsz⟩ := DataW.trod_string t1 h1
      obtain ⟨b, hb2, _⟩ := DataW.trod_bool t2 h2
      simp at ha hs hb2
      subst ha hs hb2
      exact ⟨⟨a, s, b⟩, rfl, hb.1, hb.2, hsz⟩
end
end Go.Proofs.Ytmkdnfiiehgcaaa
