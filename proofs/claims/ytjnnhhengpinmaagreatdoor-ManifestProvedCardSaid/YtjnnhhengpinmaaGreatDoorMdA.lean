/- The package that made built, as the laws carry it. -/
import Derived.Test.YtjnnhhengpinmaaGreatDoorNF
namespace Go.Proofs.YtjnnhhengpinmaaGreatDoor
open Go Go.RowKit Go.Shelf

/-- what is known of an entry that came in -/
def EnIn (x : En) : Prop := x.path.size ≤ maxLen ∧ I64 x.fmt ∧ I64 x.len ∧ x.dig.size ≤ maxLen
/-- the entries of a package that came in -/
def PkIn (v : Value) (l : List En) (w : World) : Prop := Rws 4 enC v l w ∧ ∀ x ∈ l, x.path.size ≤ 9223372036854775807 ∧ x.dig.size ≤ 9223372036854775807
theorem Rws.at2 {α : Type} {s : Nat} {enc : α → List Value} {p : Option Addr} {c i n : Nat} {l : List α} {w : World} {x : α} (h : Rws s enc (.slice p n c) l w) (hn : l.length = n) (hx : l[i]? = some x) :
    ∃ g off, p = some ⟨g, off, none⟩ ∧ ∀ (j : Nat) u, (enc x)[j]? = some u → w.cell? ⟨g, off + (i * s + j), none⟩ = some u := by
  subst hn
  obtain ⟨g, off, h1, -, h2⟩ := h.at_ hx
  exact ⟨g, off, h1, h2⟩
theorem StrsAt.at2 {p : Option Addr} {c i n : Nat} {l : List ByteArray} {w : World} {x : ByteArray} (h : StrsAt (.slice p n c) l w) (hx : l[i]? = some x) : ∃ g off, p = some ⟨g, off, none⟩ ∧ w.cell? ⟨g, off + i, none⟩ = some (.string x) := by
  rcases h with ⟨he, h0⟩ | ⟨g, off, cap, he, _, _, hc⟩
  · rw [h0] at hx; exact absurd hx (by simp)
  · injection he with e1 e2 e3
    exact ⟨g, off, e1, hc i x hx⟩
/-- a new block behind a pointer -/
def NewPtr (B : Nat) (cs : List Value) (T : TypeId) : Value → World → Prop := fun v w => ∃ b, v = .pointer (some ⟨b, 0, none⟩) ∧ B ≤ b ∧ w.heap[b]? = some (.cells cs.toArray T (0, 0))
theorem stb_ptr (B : Nat) (cs : List Value) (T : TypeId) : Stb (NewPtr B cs T) := fun _ _ _ h ⟨b, hv, hB, hb⟩ => ⟨b, hv, hB, h.block hb⟩
theorem newPtr_alloc {B : Nat} {w : World} (hB : B ≤ w.heap.size) (cs : List Value) (T : TypeId) : NewPtr B cs T (.pointer (some ⟨w.heap.size, 0, none⟩)) (w.alloc (.cells cs.toArray T)) := ⟨_, rfl, hB, heap_alloc_new _ _⟩
/-- what made built: numbers, entries, paths, streams -/
def MadF (l : List ByteArray) (id ver : Int) (I J : Int) (n : Nat) (E : List En) (P S : List ByteArray) : Prop := I = madI id ∧ J = madI ver ∧ n = madN l ∧ E = madE l ∧ P = madP l ∧ S = madS l
theorem MadF.eLen {l : List ByteArray} {id ver I J : Int} {n : Nat} {E : List En} {P S : List ByteArray} (h : MadF l id ver I J n E P S) : E.length = n := by
  obtain ⟨-, -, rfl, rfl, -, -⟩ := h; exact madE_len l
theorem MadF.pLen {l : List ByteArray} {id ver I J : Int} {n : Nat} {E : List En} {P S : List ByteArray} (h : MadF l id ver I J n E P S) : P.length = n := by
  obtain ⟨-, -, rfl, -, rfl, -⟩ := h; exact madP_len l
theorem MadF.sLen {l : List ByteArray} {id ver I J : Int} {n : Nat} {E : List En} {P S : List ByteArray} (h : MadF l id ver I J n E P S) : S.length = n := by
  obtain ⟨-, -, rfl, -, -, rfl⟩ := h; exact madS_len l
theorem MadF.bounds {l : List ByteArray} {id ver I J : Int} {n : Nat} {E : List En} {P S : List ByteArray} (h : MadF l id ver I J n E P S) : 1 ≤ n ∧ n ≤ 12 := by
  obtain ⟨-, -, rfl, -, -, -⟩ := h; exact madN_pos l
theorem MadF.valid {l : List ByteArray} {id ver I J : Int} {n : Nat} {E : List En} {P S : List ByteArray} (h : MadF l id ver I J n E P S) : validD I J E = true := by
  obtain ⟨rfl, rfl, -, rfl, -, -⟩ := h; exact mad_valid l id ver
theorem MadF.ints {l : List ByteArray} {id ver I J : Int} {n : Nat} {E : List En} {P S : List ByteArray} (h : MadF l id ver I J n E P S) : (1 ≤ I ∧ I ≤ 1000000) ∧ 1 ≤ J ∧ J ≤ 1000000 := by
  obtain ⟨rfl, rfl, -, -, -, -⟩ := h
  exact ⟨withinB_iff.1 (madI_ok id), withinB_iff.1 (madI_ok ver)⟩
theorem MadF.at_ {l : List ByteArray} {id ver I J : Int} {n : Nat} {E : List En} {P S : List ByteArray} (h : MadF l id ver I J n E P S) {i : Nat} (hi : i < n) : ∃ f s, E[i]? = some (mkEn (pathOf i) f s) ∧ 0 ≤ f ∧ f < 5 ∧ s.size ≤ 40 ∧ S[i]? = some s ∧ P[i]? = some (pathOf i) := by
  obtain ⟨-, -, rfl, rfl, rfl, rfl⟩ := h; exact madE_at hi
theorem pathOf_size (i : Nat) : (pathOf i).size = 3 := rfl
theorem MadF.eSmall {l : List ByteArray} {id ver I J : Int} {n : Nat} {E : List En} {P S : List ByteArray} (h : MadF l id ver I J n E P S) : ∀ x ∈ E, x.path.size = 3 ∧ x.dig.size = 32 ∧ I64 x.fmt ∧ I64 x.len := by
  intro x hx
  obtain ⟨i, hi⟩ := List.getElem?_of_mem hx
  have hl := (List.getElem?_eq_some_iff.1 hi).1
  rw [h.eLen] at hl
  obtain ⟨f, s, he, h0, h5, hs, -⟩ := h.at_ hl
  obtain rfl := Option.some.inj (he.symm.trans hi)
  unfold mkEn I64
  simp only
  exact ⟨rfl, sha_size _, by omega, by omega⟩
theorem MadF.ePath {l : List ByteArray} {id ver I J : Int} {n : Nat} {E : List En} {P S : List ByteArray} (h : MadF l id ver I J n E P S) : ∀ x ∈ E, x.path.size ≤ 9223372036854775807 := fun x hx => by rw [(h.eSmall x hx).1]; decide
theorem MadF.pSmall {l : List ByteArray} {id ver I J : Int} {n : Nat} {E : List En} {P S : List ByteArray} (h : MadF l id ver I J n E P S) : ∀ x ∈ P, x.size = 3 := by
  obtain ⟨-, -, -, -, rfl, -⟩ := h; exact (mad_sizes l).2.2
theorem MadF.sSmall {l : List ByteArray} {id ver I J : Int} {n : Nat} {E : List En} {P S : List ByteArray} (h : MadF l id ver I J n E P S) : ∀ x ∈ S, x.size ≤ 40 := by
  obtain ⟨-, -, -, -, -, rfl⟩ := h; exact (mad_sizes l).2.1
/-- what made gives, each part under a name -/
def Mad2 (w : World) (l : List ByteArray) (id ver : Int) (e : Ending) (w' : World) : Prop :=
  ∃ (I J : Int) (n : Nat) (E : List En) (P S : List ByteArray) (p pp ps : Option Addr) (c cp cs : Nat), e = .returned (.tuple #[.agg #[.int .i64 I, .int .i64 J, .slice p n c], .slice pp n cp, .slice ps n cs]) ∧ MadF l id ver I J n E P S ∧
    Rws 4 enC (.slice p n c) E w' ∧ OwnL w.heap.size P (.slice pp n cp) w' ∧ OwnL w.heap.size S (.slice ps n cs) w' ∧ Own w.heap.size 4 (.slice p n c) n (E.flatMap enC) w' ∧ Gr w w'
theorem made2_any (v : Value) (l : List ByteArray) (id ver : Int) (w : World) (hv : StrsIn v l w) (hl : l.length ≤ 9223372036854775806) (hs : ∀ x ∈ l, x.size ≤ 140737488355000) (hi : I64 id) (hj : I64 ver) (hT : Tab w) :
    Calls Tryz.prog 17 #[v, .int .i64 id, .int .i64 ver] w (Mad2 w l id ver) := by
  refine (made_any v l id ver w hv hl hs hi hj hT).mono ?_
  rintro e w' ⟨u, p, s, rfl, hO, hP, hS, hg⟩
  obtain ⟨a, c, rfl⟩ := hO.slice
  obtain ⟨ap, cp, rfl⟩ := hP.strs.shape
  obtain ⟨asx, cs, rfl⟩ := hS.strs.shape
  have hR := own_rws (l := madE l) enC_len hO
  rw [madE_len] at hO hR
  rw [madP_len] at hP
  rw [madS_len] at hS
  refine ⟨_, _, madN l, _, _, _, a, ap, asx, c, cp, cs, ?_, ⟨rfl, rfl, rfl, rfl, rfl, rfl⟩, hR, hP, hS, hO, hg⟩
  rw [madE_len, madP_len, madS_len]
/-- the package that made built lies in block b, with its paths and streams -/
structure MadAt (w0 : World) (b : Nat) (I J : Int) (n : Nat) (E : List En) (P S : List ByteArray) (p pp ps : Option Addr) (c cp cs : Nat) (w : World) : Prop where
  g : Gr w0 w
  r : w.heap[b]? = some (.cells #[.int .i64 I, .int .i64 J, .slice p n c] 24 (0, 0))
  e : Rws 4 enC (.slice p n c) E w
  p : StrsAt (.slice pp n cp) P w
  s : StrsAt (.slice ps n cs) S w
theorem MadAt.gr {w0 : World} {b : Nat} {I J : Int} {n : Nat} {E : List En} {P S : List ByteArray} {p pp ps : Option Addr} {c cp cs : Nat} {w x : World} (h : MadAt w0 b I J n E P S p pp ps c cp cs w) (hg : Gr w x) : MadAt w0 b I J n E P S p pp ps c cp cs x :=
  ⟨h.g.trans hg, hg.block h.r, h.e.gr hg, h.p.gr hg, h.s.gr hg⟩
/-- behind the store of what made gave -/
theorem MadAt.start {w0 w1 : World} {I J : Int} {n : Nat} {E : List En} {P S : List ByteArray} {p pp ps : Option Addr} {c cp cs : Nat} (hg : Gr w0 w1) (he : Rws 4 enC (.slice p n c) E w1) (hp : StrsAt (.slice pp n cp) P w1) (hs : StrsAt (.slice ps n cs) S w1) :
    MadAt w0 w1.heap.size I J n E P S p pp ps c cp cs (w1.alloc (.cells #[.int .i64 I, .int .i64 J, .slice p n c] 24)) :=
  ⟨hg.trans (Gr.alloc _ _), heap_alloc_new _ _, he.gr (Gr.alloc _ _), hp.gr (Gr.alloc _ _), hs.gr (Gr.alloc _ _)⟩
end Go.Proofs.YtjnnhhengpinmaaGreatDoor
