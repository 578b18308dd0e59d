/- A disk as it lies in memory: which blocks are its own; what a call may change. No program in sight. -/
import Derived.Test.YtmkdnfiiehgcaaaDkB
import Derived.Test.YtmkdnfiiehgcaaaOwn
import Derived.Lib.BufferWrite
namespace Go.Proofs.Ytmkdnfiiehgcaaa
open Go Go.RowKit

/-- only blocks of S may have changed; new blocks may have come -/
def Chs (S : Nat → Prop) (w x : World) : Prop := x.os = w.os ∧ x.tape = w.tape ∧ x.output = w.output ∧ w.heap.size ≤ x.heap.size ∧ ∀ k, k < w.heap.size → ¬ S k → x.heap[k]? = w.heap[k]?
theorem Chs.size {S : Nat → Prop} {w x : World} (h : Chs S w x) : w.heap.size ≤ x.heap.size := h.2.2.2.1
theorem Chs.refl (S : Nat → Prop) (w : World) : Chs S w w := ⟨rfl, rfl, rfl, Nat.le_refl _, fun _ _ _ => rfl⟩
theorem Chs.block {S : Nat → Prop} {w x : World} (h : Chs S w x) {k : Nat} {o : Obj} (hk : w.heap[k]? = some o) (hS : ¬ S k) : x.heap[k]? = some o :=
  (h.2.2.2.2 k (Array.getElem?_eq_some_iff.1 hk).1 hS).trans hk
theorem Chs.cell {S : Nat → Prop} {w x : World} (h : Chs S w x) {a : Addr} {v : Value} (hc : w.cell? a = some v) (hS : ¬ S a.block) : x.cell? a = some v := by
  have hb := h.2.2.2.2 a.block (World.block_lt_of_cell? w a hc) hS
  rw [World.cell?_of_block (w := w) hb]; exact hc
theorem Chs.frozen {S : Nat → Prop} {w x : World} (h : Chs S w x) {a : Addr} (hlt : a.block < w.heap.size) (hS : ¬ S a.block) : x.frozen? a = w.frozen? a :=
  World.frozen?_of_block (w := w) (h.2.2.2.2 a.block hlt hS)
theorem Chs.trans {S S' : Nat → Prop} {w x y : World} (h : Chs S w x) (k : Chs S' x y) (hS : ∀ j, j < w.heap.size → S' j → S j) : Chs S w y :=
  ⟨k.1.trans h.1, k.2.1.trans h.2.1, k.2.2.1.trans h.2.2.1, Nat.le_trans h.size k.size, fun j hj hn => (k.2.2.2.2 j (Nat.lt_of_lt_of_le hj h.size) (fun e => hn (hS j hj e))).trans (h.2.2.2.2 j hj hn)⟩
theorem Chs.of_gr {S : Nat → Prop} {w x : World} (h : Gr w x) : Chs S w x := ⟨h.os, h.tape, h.output, h.size, fun k hk _ => (show Below w.heap.size w x from h).block k hk⟩
theorem Chs.of_chg {S : Nat → Prop} {b : Option Nat} {w x : World} (h : Chg b w x) (hb : ∀ g, b = some g → S g) : Chs S w x :=
  ⟨h.1, h.2.1, h.2.2.1, h.size, fun k hk hn => h.2.2.2.2 k hk (fun e => hn (hb k e.symm))⟩
theorem Chs.below {S : Nat → Prop} {w x : World} (h : Chs S w x) {B : Nat} (hB : ∀ k, S k → B ≤ k) (hs : B ≤ w.heap.size) : Below B w x :=
  ⟨h.1, h.2.1, h.2.2.1, h.size, fun k hk => h.2.2.2.2 k (Nat.lt_of_lt_of_le hk hs) (fun e => by have := hB k e; omega)⟩
theorem Chs.mono {S S' : Nat → Prop} {w x : World} (h : Chs S w x) (hS : ∀ k, S k → S' k) : Chs S' w x :=
  ⟨h.1, h.2.1, h.2.2.1, h.size, fun k hk hn => h.2.2.2.2 k hk (fun e => hn (hS k e))⟩
theorem chs_setRow {S : Nat → Prop} (w : World) {g : Nat} (hg : S g) (cs : Array Value) : Chs S w (w.setRow g cs) :=
  ⟨rfl, rfl, rfl, by rw [setRow_size]; exact Nat.le_refl _, fun k _ hn => setRow_other _ _ _ _ (fun e => hn (e ▸ hg))⟩
theorem chs_setCell {S : Nat → Prop} (w : World) {g : Nat} (hg : S g) (i : Nat) (v : Value) : Chs S w (w.setCell ⟨g, i, none⟩ v) :=
  ⟨rfl, rfl, rfl, by simp, fun k _ hn => heap_setCell_other _ _ _ _ (fun e => hn (e ▸ hg))⟩
theorem chs_setCells {S : Nat → Prop} (w : World) {g : Nat} (hg : S g) (o : Nat) (vs : List Value) : Chs S w (w.setCells g o vs) :=
  Chs.of_chg (setCells_chg g vs o w) (fun k e => by cases e; exact hg)
/-- S and the blocks that have come since -/
def Sx (S : Nat → Prop) (w x : World) : Nat → Prop := fun k => S k ∨ (w.heap.size ≤ k ∧ k < x.heap.size)
theorem Own.keepS {R : Nat → Prop} {w x : World} {B s : Nat} {v : Value} {n : Nat} {xs : List Value} (h : Own B s v n xs w) (hc : Chs R w x) (hg : ∀ g, v.ownBlock = some g → ¬ R g) : Own B s v n xs x := by
  obtain ⟨hl, h⟩ := h
  refine ⟨hl, ?_⟩
  rcases h with h | ⟨g, off, cap, rfl, hB, hn, hcm, hx, hw⟩
  · exact .inl h
  · have hne : ¬ R g := hg g rfl
    refine .inr ⟨g, off, cap, rfl, hB, hn, hcm, fun j u hj => hc.cell (hx j u hj) hne, fun j hj => ?_⟩
    obtain ⟨h1, h2⟩ := hw j hj
    have hlt := isSome_lt h1
    obtain ⟨u, hu⟩ := Option.isSome_iff_exists.1 h1
    exact ⟨by rw [hc.cell hu hne]; rfl, (hc.frozen hlt hne).trans h2⟩

/-- bytes as cells -/
def byC (l : List UInt8) : List Value := l.map fun x => Value.int .u8 (x.toNat : Int)
theorem byC_length (l : List UInt8) : (byC l).length = l.length := by simp [byC]
theorem byC_put (b s : List UInt8) (o : Nat) : (byC b).take o ++ byC s ++ (byC b).drop (o + s.length) = byC (putB b o s) := by
  simp [byC, putB]
theorem byC_one (l : List UInt8) : ∀ u ∈ byC l, u.oneCell' = true := by
  intro u hu; simp [byC] at hu; obtain ⟨y, _, rfl⟩ := hu; rfl
/-- a block that holds bytes -/
def ByRow (U : TypeId) (g : Nat) (b : List UInt8) (w : World) : Prop := w.heap[g]? = some (.cells (byC b).toArray U (0, 0))
theorem ByRow.get {U : TypeId} {g : Nat} {b : List UInt8} {w : World} (h : ByRow U g b w) (j : Nat) (x : UInt8) (hj : b[j]? = some x) : w.cell? ⟨g, j, none⟩ = some (.int .u8 (x.toNat : Int)) := by
  rw [cell_of_row _ _ _ _ _ _ h]; simp [byC, hj]
theorem ByRow.lt {U : TypeId} {g : Nat} {b : List UInt8} {w : World} (h : ByRow U g b w) : g < w.heap.size := (Array.getElem?_eq_some_iff.1 h).1
/-- pending writes as cells -/
def pC (p : List Wr) : List Value := p.flatMap fun x => [.int .i64 (x.1 : Int), .string x.2]
theorem pC_length (p : List Wr) : (pC p).length = p.length * 2 := by
  induction p with
  | nil => rfl
  | cons x p ih => unfold pC at *; rw [List.flatMap_cons, List.length_append, ih, List.length_cons]; simp; omega
theorem pC_push (p : List Wr) (x : Wr) : pC p ++ [.int .i64 (x.1 : Int), .string x.2] = pC (p ++ [x]) := by simp [pC]
theorem pC_get : ∀ (p : List Wr) (k : Nat) (x : Wr), p[k]? = some x → (pC p)[k * 2]? = some (.int .i64 (x.1 : Int)) ∧ (pC p)[k * 2 + 1]? = some (.string x.2) := by
  intro p
  induction p with
  | nil => intro k x h; simp at h
  | cons y p ih =>
    intro k x h
    cases k with
    | zero => simp at h; subst h; simp [pC]
    | succ k =>
      have := ih k x (by simpa using h)
      unfold pC at *
      rw [List.flatMap_cons, show (k + 1) * 2 = 2 + k * 2 by omega, show 2 + k * 2 + 1 = 2 + (k * 2 + 1) by omega]
      rw [List.getElem?_append_right (by simp), List.getElem?_append_right (by simp)]
      simpa using this
/-- a disk of n bytes in block gd, whose blocks are all in S -/
def DiskAt (T U : TypeId) (S : Nat → Prop) (gd n : Nat) (d : Dk) (w : World) : Prop :=
  ∃ (g1 g2 : Nat) (vp : Value), S gd ∧ S g1 ∧ S g2 ∧ gd ≠ g1 ∧ gd ≠ g2 ∧ g1 ≠ g2 ∧ (∀ g, vp.ownBlock = some g → S g ∧ g ≠ gd ∧ g ≠ g1 ∧ g ≠ g2) ∧
    w.heap[gd]? = some (.cells #[.bool d.off, .int .i64 (d.left : Int), .slice (some ⟨g1, 0, none⟩) n n, .slice (some ⟨g2, 0, none⟩) n n, vp] T (0, 0)) ∧
    ByRow U g1 d.dur w ∧ ByRow U g2 d.vis w ∧ Own 0 2 vp d.pend.length (pC d.pend) w
theorem DiskAt.keep {T U : TypeId} {S R : Nat → Prop} {gd n : Nat} {d : Dk} {w x : World} (h : DiskAt T U S gd n d w) (hc : Chs R w x) (hd : ∀ k, S k → ¬ R k) : DiskAt T U S gd n d x := by
  obtain ⟨g1, g2, vp, s0, s1, s2, n1, n2, n3, hv, hb, h1, h2, ho⟩ := h
  exact ⟨g1, g2, vp, s0, s1, s2, n1, n2, n3, hv, hc.block hb (hd _ s0), hc.block h1 (hd _ s1), hc.block h2 (hd _ s2), ho.keepS hc (fun g hg => hd g (hv g hg).1)⟩
theorem DiskAt.mono {T U : TypeId} {S S' : Nat → Prop} {gd n : Nat} {d : Dk} {w : World} (h : DiskAt T U S gd n d w) (hS : ∀ k, S k → S' k) : DiskAt T U S' gd n d w := by
  obtain ⟨g1, g2, vp, s0, s1, s2, n1, n2, n3, hv, hb, h1, h2, ho⟩ := h
  exact ⟨g1, g2, vp, hS _ s0, hS _ s1, hS _ s2, n1, n2, n3, fun g hg => ⟨hS _ (hv g hg).1, (hv g hg).2⟩, hb, h1, h2, ho⟩
theorem DiskAt.gr {T U : TypeId} {S : Nat → Prop} {gd n : Nat} {d : Dk} {w x : World} (h : DiskAt T U S gd n d w) (hg : Gr w x) : DiskAt T U S gd n d x :=
  h.keep (R := fun _ => False) (Chs.of_gr hg) (fun _ _ h => h)
end Go.Proofs.Ytmkdnfiiehgcaaa
