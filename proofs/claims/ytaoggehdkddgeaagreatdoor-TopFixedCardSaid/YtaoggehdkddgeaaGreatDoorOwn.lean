/- A slice that the call itself made, wherever it begins and whatever lies behind it in its block; the law of append on it. No program in sight. -/
import Derived.Test.YtaoggehdkddgeaaGreatDoorMB
import Derived.ArgAppend
import Derived.WalkSpells
import Derived.Deep.MidRow
namespace Go.Proofs.YtaoggehdkddgeaaGreatDoor
open Go Go.RowKit

/-- only block g, if any, may have changed; new blocks may have come -/
def Chg (g : Option Nat) (w x : World) : Prop := x.os = w.os ∧ x.tape = w.tape ∧ x.output = w.output ∧ w.heap.size ≤ x.heap.size ∧ ∀ k, k < w.heap.size → some k ≠ g → x.heap[k]? = w.heap[k]?
theorem Chg.size {g : Option Nat} {w x : World} (h : Chg g w x) : w.heap.size ≤ x.heap.size := h.2.2.2.1
theorem Chg.block {g : Option Nat} {w x : World} (h : Chg g w x) {k : Nat} {o : Obj} (hk : w.heap[k]? = some o) (hg : some k ≠ g) : x.heap[k]? = some o :=
  (h.2.2.2.2 k (Array.getElem?_eq_some_iff.1 hk).1 hg).trans hk
theorem Chg.at_ {g : Option Nat} {w x : World} (h : Chg g w x) {k : Nat} (hk : k < w.heap.size) (hg : some k ≠ g) : x.heap[k]? = w.heap[k]? := h.2.2.2.2 k hk hg
theorem Chg.cell {g : Option Nat} {w x : World} (h : Chg g w x) {a : Addr} {v : Value} (hc : w.cell? a = some v) (hg : some a.block ≠ g) : x.cell? a = some v := by
  have hb := h.2.2.2.2 a.block (World.block_lt_of_cell? w a hc) hg
  rw [World.cell?_of_block (w := w) hb]; exact hc
theorem Chg.frozen {g : Option Nat} {w x : World} (h : Chg g w x) {a : Addr} (hlt : a.block < w.heap.size) (hg : some a.block ≠ g) : x.frozen? a = w.frozen? a :=
  World.frozen?_of_block (w := w) (h.2.2.2.2 a.block hlt hg)
theorem Chg.below {g : Option Nat} {w x : World} (h : Chg g w x) {B : Nat} (hB : ∀ k, g = some k → B ≤ k) (hs : B ≤ w.heap.size) : Below B w x :=
  ⟨h.1, h.2.1, h.2.2.1, h.size, fun k hk => h.2.2.2.2 k (Nat.lt_of_lt_of_le hk hs) (fun e => by have := hB k e.symm; omega)⟩
theorem Chg.of_gr {g : Option Nat} {w x : World} (h : Gr w x) : Chg g w x := ⟨h.os, h.tape, h.output, h.size, fun k hk _ => (show Below w.heap.size w x from h).block k hk⟩
theorem Chg.trans {g : Option Nat} {w x y : World} (h : Chg g w x) (k : Chg g x y) : Chg g w y :=
  ⟨k.1.trans h.1, k.2.1.trans h.2.1, k.2.2.1.trans h.2.2.1, Nat.le_trans h.size k.size, fun j hj hg => (k.2.2.2.2 j (Nat.lt_of_lt_of_le hj h.size) hg).trans (h.2.2.2.2 j hj hg)⟩
theorem Chg.gr {w x : World} (h : Chg none w x) : Gr w x := ⟨h.1, h.2.1, h.2.2.1, h.size, fun k hk => h.2.2.2.2 k hk (by simp)⟩
theorem Chg.of_grownBy {w x : World} {row : Option Nat} (h : w.grownBy x row) : Chg row w x := ⟨h.os, h.tape, h.output, h.size, h.block⟩

/-- v is a slice of n elements of s cells, in a block from B on, that holds the cells xs; its capacity may be written -/
def Own (B s : Nat) (v : Value) (n : Nat) (xs : List Value) (w : World) : Prop :=
  xs.length = n * s ∧ ((v = .slice none 0 0 ∧ n = 0) ∨ ∃ g off cap, v = .slice (some ⟨g, off, none⟩) n cap ∧ B ≤ g ∧ n ≤ cap ∧ cap ≤ maxLen ∧
    (∀ j u, xs[j]? = some u → w.cell? ⟨g, off + j, none⟩ = some u) ∧ (∀ j, j < cap * s → (w.cell? ⟨g, off + j, none⟩).isSome = true ∧ w.frozen? ⟨g, off + j, none⟩ = false))
theorem Own.nil (B s : Nat) (w : World) : Own B s (.slice none 0 0) 0 [] w := ⟨by simp, .inl ⟨rfl, rfl⟩⟩
theorem isSome_lt {w : World} {a : Addr} (h : (w.cell? a).isSome = true) : a.block < w.heap.size := by
  obtain ⟨v, hv⟩ := Option.isSome_iff_exists.1 h
  exact World.block_lt_of_cell? w a hv
theorem Own.of_row {w : World} {B e s : Nat} {v : Value} {n : Nat} {xs : List Value} (h : w.ownsRow B e s v n xs) : Own B s v n xs w := by
  obtain ⟨hl, h⟩ := h
  refine ⟨hl, ?_⟩
  rcases h with h | ⟨g, cap, cur, rfl, hB, hg, hn, hc, hsz, hx⟩
  · exact .inl h
  · refine .inr ⟨g, 0, cap, rfl, hB, hn, hc, ?_, ?_⟩
    · intro j u hj
      rw [cell_of_row w g (0 + j) cur e (0, 0) hg, ← hj, ← hx, List.getElem?_take, if_pos]
      · simp
      · have := (List.getElem?_eq_some_iff.1 hj).1; omega
    · intro j hj
      rw [cell_of_row w g (0 + j) cur e (0, 0) hg]
      exact ⟨by simp; omega, frozen_of_row w g (0 + j) cur e hg⟩
/-- a world that keeps the slice's block keeps what it owns -/
theorem Own.keep {w x : World} {B s : Nat} {v : Value} {n : Nat} {xs : List Value} (h : Own B s v n xs w) {gc : Option Nat} (hc : Chg gc w x) (hg : v.ownBlock = none ∨ v.ownBlock ≠ gc) : Own B s v n xs x := by
  obtain ⟨hl, h⟩ := h
  refine ⟨hl, ?_⟩
  rcases h with h | ⟨g, off, cap, rfl, hB, hn, hcm, hx, hw⟩
  · exact .inl h
  · have hne : some g ≠ gc := by
      rcases hg with hg | hg
      · simp [Value.ownBlock] at hg
      · simpa [Value.ownBlock] using hg
    refine .inr ⟨g, off, cap, rfl, hB, hn, hcm, fun j u hj => hc.cell (hx j u hj) hne, fun j hj => ?_⟩
    obtain ⟨h1, h2⟩ := hw j hj
    have hlt := isSome_lt h1
    obtain ⟨u, hu⟩ := Option.isSome_iff_exists.1 h1
    exact ⟨by rw [hc.cell hu hne]; rfl, (hc.frozen hlt hne).trans h2⟩
theorem Own.gr {w x : World} {B s : Nat} {v : Value} {n : Nat} {xs : List Value} (h : Own B s v n xs w) (hg : Gr w x) : Own B s v n xs x :=
  h.keep (gc := none) (Chg.of_gr hg) (by cases hv : v.ownBlock <;> simp)
theorem Own.mono {w : World} {B B' s : Nat} {v : Value} {n : Nat} {xs : List Value} (h : Own B s v n xs w) (hB : B' ≤ B) : Own B' s v n xs w := by
  obtain ⟨hl, h⟩ := h
  refine ⟨hl, ?_⟩
  rcases h with h | ⟨g, off, cap, rfl, hBg, rest⟩
  · exact .inl h
  · exact .inr ⟨g, off, cap, rfl, Nat.le_trans hB hBg, rest⟩

theorem setCells_chg (b : Nat) : ∀ (vs : List Value) (o : Nat) (w : World), Chg (some b) w (w.setCells b o vs) := by
  intro vs
  induction vs with
  | nil => intro o w; exact Chg.of_gr (Gr.refl w)
  | cons v vs ih =>
    intro o w
    refine Chg.trans ?_ (ih (o + 1) _)
    exact ⟨rfl, rfl, rfl, by simp, fun k _ hk => heap_setCell_other _ _ _ _ (fun e => hk (by rw [e]))⟩

/-- append to a slice that the call made: what is known behind it -/
theorem wpList_append_Own {P : Program} {w : World} {ops : Array Oper} {rest : List Oper} {o : Oper} {a : Act} {Q : Exit → Act → World → Prop}
    (hg : o.guard = none) (s x : Operand) (t : TypeId) (hop : o.op = Op.call { callee := Callee.builtin Builtin.append, args := #[s, x], argTypes := #[t, t] })
    (e : TypeId) (i : TypeInfo) (z : Value) (size bytes : Nat) (h1 : P.underlying t = some (.slice e)) (h2 : P.info? e = some i) (h3 : i.zero = some z) (h4 : i.size = size) (h5 : i.bytes = bytes) (h6 : z.cells.size = size) (h7 : 0 < size)
    {B : Nat} {v : Value} {n : Nat} {xs : List Value} (hs : a.eval s = v) (hown : Own B size v n xs w)
    (ad : Addr) (m c : Nat) (news : List Value) (hx : a.eval x = .slice (some ad) m c) (hn : news.length = m * size) (hc : ∀ j u, news[j]? = some u → w.cell? (ad.add j) = some u) (h1c : ∀ u ∈ news, u.oneCell' = true) (hm : 0 < m)
    (b1 : n + m ≤ maxLen) (b2 : (n + m) * bytes ≤ 140737488355328) (hB : B ≤ w.heap.size)
    (h : ∀ v' w', Own B size v' (n + m) (xs ++ news) w' → Chg v.ownBlock w w' → (∀ g, v'.ownBlock = some g → v.ownBlock = some g ∨ w.heap.size ≤ g) → wpList P ops Q rest (a.put o.dst v') w') :
    wpList P ops Q (o :: rest) a w := by
  obtain ⟨hl, hown⟩ := hown
  rcases hown with ⟨rfl, rfl⟩ | ⟨g, off, cap, rfl, hBg, hn', hcm, hxs, hw⟩
  · obtain rfl : xs = [] := List.eq_nil_of_length_eq_zero (by simpa using hl)
    refine wpList_append_grows (P := P) w hg s x t hop e i z size bytes h1 h2 h3 h4 h5 h6 h7 none 0 0 [] hs (fun _ => ⟨rfl, rfl⟩) (by simp) (fun b hb => by cases hb) ad m c news hx hn hc h1c (by omega) b1 b2 ?_
    intro v' w' hr hgr
    refine h v' w' ((Own.of_row hr).mono hB) (Chg.of_grownBy hgr) ?_
    intro g hgv
    obtain ⟨_, hr⟩ := hr
    rcases hr with ⟨rfl, _⟩ | ⟨g', cap, cur, rfl, hB', _⟩
    · simp [Value.ownBlock] at hgv
    · simp [Value.ownBlock] at hgv; subst hgv; exact .inr hB'
  · refine wpList_append_arg (P := P) w hg s x t hop e i z size bytes h1 h2 h3 h4 h5 h6 h7 g off n cap xs hs hl hxs ad m c news hx hn hc h1c ?_ b1 b2 ?_ ?_
    · intro hr j hj
      have := hw (n * size + j) (by rw [hn] at hj; have := Nat.mul_le_mul_right size hr; rw [Nat.add_mul] at this; omega)
      rw [← Nat.add_assoc] at this
      exact this
    · intro hr
      have hle := Nat.mul_le_mul_right size hr
      rw [Nat.add_mul] at hle
      have hsome : ∀ j, j < news.length → (w.cell? ⟨g, off + n * size + j, none⟩).isSome = true := fun j hj => by
        have := (hw (n * size + j) (by omega)).1
        rwa [← Nat.add_assoc] at this
      refine h _ _ ⟨by rw [List.length_append, hl, hn, Nat.add_mul], .inr ⟨g, off, cap, rfl, hBg, hr, hcm, ?_, ?_⟩⟩ (setCells_chg g _ _ _) (fun g' hg' => .inl hg')
      · intro j u hj
        by_cases hjn : j < xs.length
        · rw [List.getElem?_append_left hjn] at hj
          rw [World.cell?_setCells_out g news _ w ⟨g, off + j, none⟩ (fun _ _ => .inl (by simp; omega))]
          exact hxs j u hj
        · rw [List.getElem?_append_right (by omega)] at hj
          have hjl := (List.getElem?_eq_some_iff.1 hj).1
          have := World.cell?_setCells_in g news (off + n * size) w hsome (j - xs.length) hjl
          rw [show off + n * size + (j - xs.length) = off + j by omega] at this
          rw [this]
          exact congrArg some (List.getElem?_eq_some_iff.1 hj).2
      · intro j hj
        refine ⟨?_, by rw [World.frozen?_setCells]; exact (hw j hj).2⟩
        exact World.isSome_setCells g news _ w _ (hw j hj).1
    · intro _ v' w' hr hgr
      refine h v' w' ((Own.of_row hr).mono hB) ?_ ?_
      · have := Chg.of_grownBy hgr
        exact ⟨this.1, this.2.1, this.2.2.1, this.2.2.2.1, fun k hk _ => this.2.2.2.2 k hk (by simp)⟩
      · intro g' hgv
        obtain ⟨_, hr⟩ := hr
        rcases hr with ⟨rfl, _⟩ | ⟨g', cap, cur, rfl, hB', _⟩
        · simp [Value.ownBlock] at hgv
        · simp [Value.ownBlock] at hgv; subst hgv; exact .inr hB'
end Go.Proofs.YtaoggehdkddgeaaGreatDoor
