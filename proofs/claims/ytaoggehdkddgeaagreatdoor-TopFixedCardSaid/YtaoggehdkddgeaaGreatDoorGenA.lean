/- Rows of elements, general lemmas (out of the texts of redact). -/
import Derived.OwnWalkIn
import Derived.Maps.AppendAt
import Derived.IntWalk
import Derived.WalkSpells
import Derived.Deep.Upon
import Derived.Test.YtaoggehdkddgeaaGreatDoorRoot
import Derived.Test.YtaoggehdkddgeaaGreatDoorMQ
import Derived.Test.YtaoggehdkddgeaaGreatDoorGGrowF
import Derived.Test.YtaoggehdkddgeaaGreatDoorGNode
import Derived.Test.YtaoggehdkddgeaaGreatDoorGRefC
namespace Go.Proofs.YtaoggehdkddgeaaGreatDoor
open Go Go.RowKit Go.Shelf
attribute [local go_sem] gAt gUpon
attribute [local simp] Gr.refl Gr.alloc

def withinB (n lo hi : Int) : Bool := decide (lo ≤ n) && decide (n ≤ hi)
def I64 (n : Int) : Prop := -9223372036854775808 ≤ n ∧ n ≤ 9223372036854775807
def absD (c : Int) : Nat := if c < 0 then (-(c + 1)).toNat else c.toNat
def pickD (c : Int) (n : Nat) : Nat := absD c % n
theorem pickD_lt (c : Int) (n : Nat) (hn : 0 < n) : pickD c n < n := Nat.mod_lt _ hn
/-- v is a slice whose elements lie in s cells each, as enc says -/
def Rws {α : Type} (s : Nat) (enc : α → List Value) (v : Value) (l : List α) (w : World) : Prop :=
  (l = [] ∧ ∃ p c, v = .slice p 0 c) ∨ ∃ g off cap, v = .slice (some ⟨g, off, none⟩) l.length cap ∧ l.length ≤ cap ∧ ∀ (i : Nat) x (j : Nat) u, l[i]? = some x → (enc x)[j]? = some u → w.cell? ⟨g, off + (i * s + j), none⟩ = some u
theorem Rws.gr {α : Type} {s : Nat} {enc : α → List Value} {v : Value} {l : List α} {w x : World} (h : Rws s enc v l w) (hg : Gr w x) : Rws s enc v l x := by
  rcases h with h | ⟨g, off, cap, rfl, h1, h2⟩
  · exact .inl h
  · exact .inr ⟨g, off, cap, rfl, h1, fun i x j u hx hu => hg.cell (h2 i x j u hx hu)⟩
theorem Rws.shape {α : Type} {s : Nat} {enc : α → List Value} {v : Value} {l : List α} {w : World} (h : Rws s enc v l w) : ∃ p c, v = .slice p l.length c := by
  rcases h with ⟨rfl, p, c, rfl⟩ | ⟨g, off, cap, rfl, _⟩
  · exact ⟨p, c, rfl⟩
  · exact ⟨_, cap, rfl⟩
theorem Rws.at_ {α : Type} {s : Nat} {enc : α → List Value} {p : Option Addr} {c i : Nat} {l : List α} {w : World} {x : α} (h : Rws s enc (.slice p l.length c) l w) (hx : l[i]? = some x) :
    ∃ g off, p = some ⟨g, off, none⟩ ∧ l.length ≤ c ∧ ∀ (j : Nat) u, (enc x)[j]? = some u → w.cell? ⟨g, off + (i * s + j), none⟩ = some u := by
  have hlt := (List.getElem?_eq_some_iff.1 hx).1
  rcases h with ⟨rfl, _⟩ | ⟨g, off, cap, he, h1, h2⟩
  · simp at hlt
  · injection he with e1 e2 e3
    subst e1 e3
    exact ⟨g, off, rfl, h1, fun j u hu => h2 i x j u hx hu⟩
theorem Rws.at_n {α : Type} {s : Nat} {enc : α → List Value} {p : Option Addr} {c n i : Nat} {l : List α} {w : World} {x : α} (h : Rws s enc (.slice p n c) l w) (hn : l.length = n) (hx : l[i]? = some x) : ∃ g off, p = some ⟨g, off, none⟩ ∧ n ≤ c ∧ ∀ (j : Nat) u, (enc x)[j]? = some u → w.cell? ⟨g, off + (i * s + j), none⟩ = some u := by
  subst hn
  exact h.at_ hx
theorem Rws.cut {α : Type} {s : Nat} {enc : α → List Value} {p : Option Addr} {c : Nat} {l : List α} {w : World} (h : Rws s enc (.slice p l.length c) l w) (k : Nat) : Rws s enc (.slice p (l.take k).length c) (l.take k) w := by
  rcases h with ⟨rfl, _, _, _⟩ | ⟨g, off, c', he, h1, h2⟩
  · exact .inl ⟨by simp, p, c, by simp⟩
  · injection he with he1 _ he3
    subst he1 he3
    refine .inr ⟨g, off, c, rfl, by rw [List.length_take]; omega, fun i x j u hx hu => ?_⟩
    have hlt := (List.getElem?_eq_some_iff.1 hx).1
    rw [List.length_take] at hlt
    rw [List.getElem?_take_of_lt (by omega)] at hx
    exact h2 i x j u hx hu
theorem rws_get {α : Type} {s : Nat} {enc : α → List Value} (hs : ∀ x, (enc x).length = s) : ∀ (l : List α) (i j : Nat) (x : α) (u : Value), l[i]? = some x → (enc x)[j]? = some u → (l.flatMap enc)[i * s + j]? = some u
  | [], i, j, x, u, h, _ => by simp at h
  | y :: l, 0, j, x, u, h, hu => by
    simp at h
    subst h
    rw [List.flatMap_cons, Nat.zero_mul, Nat.zero_add, List.getElem?_append_left (List.getElem?_eq_some_iff.1 hu).1]
    exact hu
  | y :: l, i + 1, j, x, u, h, hu => by
    rw [List.flatMap_cons, List.getElem?_append_right (by rw [hs, Nat.succ_mul]; omega), hs, show (i + 1) * s + j - s = i * s + j by rw [Nat.succ_mul]; omega]
    exact rws_get hs l i j x u (by simpa using h) hu
theorem cells_new_at (w : World) (l : List Value) (t : TypeId) : ∀ (j : Nat) (u : Value), l[j]? = some u → (w.alloc (.cells l.toArray t)).cell? ((⟨w.heap.size, 0, none⟩ : Addr).add j) = some u := by
  intro j u h
  rw [Addr.add_mid, Nat.zero_add]
  exact cell_new_at w l.toArray t w.heap.size j u rfl (by simpa using h)
/-- a new block of one element's cells -/
def NewEl (cs : List Value) (T : TypeId) : Value → World → Prop := fun v w => ∃ b, v = .slice (some ⟨b, 0, none⟩) 1 1 ∧ w.heap[b]? = some (.cells cs.toArray T (0, 0))
theorem stb_el (cs : List Value) (T : TypeId) : Stb (NewEl cs T) := fun _ _ _ h ⟨b, hv, hb⟩ => ⟨b, hv, h.block hb⟩
theorem newEl_alloc (w : World) (cs : List Value) (T : TypeId) : NewEl cs T (.slice (some ⟨w.heap.size, 0, none⟩) 1 1) (w.alloc (.cells cs.toArray T)) := ⟨_, rfl, heap_alloc_new _ _⟩
theorem row_at {w : World} {b : Nat} {cs : List Value} {T : TypeId} (h : w.heap[b]? = some (.cells cs.toArray T (0, 0))) : ∀ (j : Nat) (u : Value), cs[j]? = some u → w.cell? ((⟨b, 0, none⟩ : Addr).add j) = some u := by
  intro j u hj
  rw [Addr.add_mid, Nat.zero_add, cell_of_row _ _ _ _ _ _ h]
  simpa using hj
theorem row3 {W : World} {g : Nat} {a b c : Value} {t : TypeId} (h : W.heap[g]? = some (.cells #[a, b, c] t (0, 0))) :
    W.cell? ⟨g, 0, none⟩ = some a ∧ W.cell? ⟨g, 1, none⟩ = some b ∧ W.cell? ⟨g, 2, none⟩ = some c :=
  ⟨by rw [cell_of_row _ _ _ _ _ _ h]; rfl, by rw [cell_of_row _ _ _ _ _ _ h]; rfl, by rw [cell_of_row _ _ _ _ _ _ h]; rfl⟩
theorem row4 {W : World} {g : Nat} {a b c d : Value} {t : TypeId} (h : W.heap[g]? = some (.cells #[a, b, c, d] t (0, 0))) :
    W.cell? ⟨g, 0, none⟩ = some a ∧ W.cell? ⟨g, 1, none⟩ = some b ∧ W.cell? ⟨g, 2, none⟩ = some c ∧ W.cell? ⟨g, 3, none⟩ = some d :=
  ⟨by rw [cell_of_row _ _ _ _ _ _ h]; rfl, by rw [cell_of_row _ _ _ _ _ _ h]; rfl, by rw [cell_of_row _ _ _ _ _ _ h]; rfl, by rw [cell_of_row _ _ _ _ _ _ h]; rfl⟩
theorem row6 {W : World} {g : Nat} {a b c d e f : Value} {t : TypeId} (h : W.heap[g]? = some (.cells #[a, b, c, d, e, f] t (0, 0))) :
    W.cell? ⟨g, 0, none⟩ = some a ∧ W.cell? ⟨g, 1, none⟩ = some b :=
  ⟨by rw [cell_of_row _ _ _ _ _ _ h]; rfl, by rw [cell_of_row _ _ _ _ _ _ h]; rfl⟩
theorem frozen4 {W : World} {g : Nat} {a b c d : Value} {t : TypeId} (h : W.heap[g]? = some (.cells #[a, b, c, d] t (0, 0))) :
    W.frozen? ⟨g, 0, none⟩ = false ∧ W.frozen? ⟨g, 1, none⟩ = false ∧ W.frozen? ⟨g, 2, none⟩ = false ∧ W.frozen? ⟨g, 3, none⟩ = false :=
  ⟨frozen_of_row _ _ _ _ _ h, frozen_of_row _ _ _ _ _ h, frozen_of_row _ _ _ _ _ h, frozen_of_row _ _ _ _ _ h⟩
theorem Rws.chg {α : Type} {s : Nat} {enc : α → List Value} {v : Value} {l : List α} {w x : World} {b : Option Nat} (h : Rws s enc v l w) (hc : Chg b w x) (hb : ∀ g, v.ownBlock = some g → some g ≠ b) : Rws s enc v l x := by
  rcases h with h | ⟨g, off, cap, rfl, h1, h2⟩
  · exact .inl h
  · exact .inr ⟨g, off, cap, rfl, h1, fun i y j u hy hu => hc.cell (h2 i y j u hy hu) (hb g rfl)⟩
/-- nothing is appended -/
theorem wpList_append_zero {P : Program} (w : World) {ops : Array Oper} {rest : List Oper} {o : Oper} {a : Act} {Q : Exit → Act → World → Prop} (hgd : o.guard = none) (s x : Operand) (t : TypeId)
    (ho : o.op = .call { callee := .builtin .append, args := #[s, x], argTypes := #[t, t] }) {e : TypeId} (i : TypeInfo) (ht : P.underlying t = some (.slice e)) (hi : P.info? e = some i) {base : Option Addr} {sLen sCap : Nat} (hle : sLen ≤ sCap)
    {p : Option Addr} {c : Nat} (hv : a.eval s = .slice base sLen sCap) (hx : a.eval x = .slice p 0 c) (hK : wpList P ops Q rest (a.put o.dst (.slice base sLen sCap)) w) : wpList P ops Q (o :: rest) a w := by
  refine wpList_plain hgd fun K hK' => ?_
  have hrun : (Builtin.append_ #[t, t] o.type #[.slice base sLen sCap, .slice p 0 c]).run P w = .ok (.slice base sLen sCap) w := by
    refine run_append_nothing w t t o.type e i ht hi base sLen sCap hle _ ⟨.inl ⟨e, ht⟩, fun w' => ?_, ?_, ?_, by simp, by simp⟩
    · rfl
    · cases p <;> simp [Builtin.firstCells, loadCells, loadCellsFrom]
    · cases p <;> simp [Builtin.firstCells, loadCells, loadCellsFrom]
  unfold Oper.wp
  simp [execOp, ho, resolve, invoke, builtin, hv, hx, hrun, Result.andThen]
  exact hK' _ _ hK
theorem own_rws {α : Type} {s : Nat} {enc : α → List Value} (hs : ∀ x, (enc x).length = s) {B : Nat} {v : Value} {l : List α} {w : World} (h : Own B s v l.length (l.flatMap enc) w) : Rws s enc v l w := by
  rcases h.2 with ⟨h1, h2⟩ | ⟨g, off, cap, h1, _, h3, _, h5, _⟩
  · exact .inl ⟨List.eq_nil_of_length_eq_zero h2, none, 0, h1⟩
  · refine .inr ⟨g, off, cap, h1, h3, fun i x j u hx hu => ?_⟩
    exact h5 _ u (rws_get hs l i j x u hx hu)
/-- a store of a whole element into a slice of one's own -/
theorem Own.store {B s g off n cap : Nat} {xs : List Value} {w : World} (h : Own B s (.slice (some ⟨g, off, none⟩) n cap) n xs w) (i : Nat) (hi : i < n) (cs : List Value) (hcs : cs.length = s) :
    Own B s (.slice (some ⟨g, off, none⟩) n cap) n (xs.take (i * s) ++ cs ++ xs.drop ((i + 1) * s)) (w.setCells g (off + i * s) cs) := by
  obtain ⟨hl, hr⟩ := h
  have hle := Nat.mul_le_mul_right s hi
  rcases hr with ⟨hr, _⟩ | ⟨g', off', cap', he, hB, hc, hm, hx, hw⟩
  · cases hr
  · injection he with he1 _ he2
    injection he1 with he1
    injection he1 with e1 e2
    subst e1 e2 he2
    rw [Nat.succ_mul] at hle ⊢
    refine ⟨by simp; omega, .inr ⟨g, off, cap, rfl, hB, hc, hm, ?_, ?_⟩⟩
    · have hsome : ∀ j, j < cs.length → (w.cell? ⟨g, off + i * s + j, none⟩).isSome = true := fun j hj => by
        have h1 := (hw (i * s + j) (by have := Nat.mul_le_mul_right s hc; omega)).1
        rwa [← Nat.add_assoc] at h1
      intro j u hj
      by_cases h1 : j < i * s
      · rw [List.append_assoc, List.getElem?_append_left (by rw [List.length_take]; omega), List.getElem?_take_of_lt h1] at hj
        rw [World.cell?_setCells_out g cs _ w ⟨g, off + j, none⟩ (fun _ _ => .inl (by simp; omega))]
        exact hx j u hj
      · by_cases h2 : j < i * s + s
        · rw [List.append_assoc, List.getElem?_append_right (by rw [List.length_take]; omega), List.length_take, Nat.min_eq_left (by omega), List.getElem?_append_left (by omega)] at hj
          have := World.cell?_setCells_in g cs (off + i * s) w hsome (j - i * s) (by omega)
          rw [show off + i * s + (j - i * s) = off + j by omega] at this
          rw [this]
          exact congrArg some (List.getElem?_eq_some_iff.1 hj).2
        · rw [List.getElem?_append_right (by simp; omega), List.getElem?_drop] at hj
          rw [World.cell?_setCells_out g cs _ w ⟨g, off + j, none⟩ (fun _ _ => .inr (by simp; omega))]
          refine hx j u ?_
          rw [← hj]
          congr 1
          simp
          omega
    · intro j hj
      refine ⟨?_, by rw [World.frozen?_setCells]; exact (hw j hj).2⟩
      exact World.isSome_setCells g cs _ w _ (hw j hj).1
theorem Own.there {B s g off n cap : Nat} {xs : List Value} {w : World} (h : Own B s (.slice (some ⟨g, off, none⟩) n cap) n xs w) (i : Nat) (hi : i < n) : w.there g (off + i * s) s := by
  obtain ⟨hl, hr⟩ := h
  rcases hr with ⟨hr, _⟩ | ⟨g', off', cap', he, hB, hc, hm, hx, hw⟩
  · cases hr
  · injection he with he1 _ he2
    injection he1 with he1
    injection he1 with e1 e2
    subst e1 e2 he2
    intro j hj
    have h1 := hw (i * s + j) (by have := Nat.mul_le_mul_right s (Nat.le_trans hi hc); rw [Nat.succ_mul] at this; omega)
    rwa [← Nat.add_assoc] at h1
theorem Rws.take {α : Type} {s : Nat} {enc : α → List Value} {g off n c : Nat} {l : List α} {w : World} (h : Rws s enc (.slice (some ⟨g, off, none⟩) n c) l w) (k : Nat) (hk : k ≤ l.length) : Rws s enc (.slice (some ⟨g, off, none⟩) k c) (l.take k) w := by
  rcases h with ⟨rfl, p, c', he⟩ | ⟨g', off', c', he, h1, h2⟩
  · have : k = 0 := by simpa using hk
    subst this
    exact .inl ⟨rfl, _, _, rfl⟩
  · injection he with he1 he2 he3
    injection he1 with he1
    injection he1 with e1 e2
    subst e1 e2 he2 he3
    refine .inr ⟨g, off, c, by rw [List.length_take, Nat.min_eq_left hk], by rw [List.length_take]; omega, fun i x j u hx hu => ?_⟩
    refine h2 i x j u ?_ hu
    have hlt := (List.getElem?_eq_some_iff.1 hx).1
    rw [List.length_take] at hlt
    rw [List.getElem?_take_of_lt (by omega)] at hx
    exact hx
theorem rows_new {α : Type} {s : Nat} {enc : α → List Value} (hs : ∀ x, (enc x).length = s) (w : World) (l : List α) (t : TypeId) (n : Nat) (hn : n = l.length) : Rws s enc (.slice (some ⟨w.heap.size, 0, none⟩) n n) l (w.alloc (.cells (l.flatMap enc).toArray t)) := by
  subst hn
  refine .inr ⟨w.heap.size, 0, l.length, rfl, Nat.le_refl _, fun i x j u hx hu => ?_⟩
  have h := cells_new_at w (l.flatMap enc) t (i * s + j) u (rws_get hs l i j x u hx hu)
  rw [Addr.add_mid] at h
  exact h
/-- a store of one cell into a slice of one's own -/
theorem Own.put1 {B s g off n cap : Nat} {xs : List Value} {w : World} (h : Own B s (.slice (some ⟨g, off, none⟩) n cap) n xs w) (j : Nat) (hj : j < xs.length) (u : Value) :
    Own B s (.slice (some ⟨g, off, none⟩) n cap) n (xs.set j u) (w.setCell ⟨g, off + j, none⟩ u) := by
  obtain ⟨hl, hr⟩ := h
  rcases hr with ⟨hr, _⟩ | ⟨g', off', cap', he, hB, hc, hm, hx, hw⟩
  · cases hr
  · injection he with he1 _ he2
    injection he1 with he1
    injection he1 with e1 e2
    subst e1 e2 he2
    have hle := Nat.mul_le_mul_right s hc
    have hsome := (hw j (by omega)).1
    refine ⟨by rw [List.length_set]; exact hl, .inr ⟨g, off, cap, rfl, hB, hc, hm, fun i v hi => ?_, fun i hi => ⟨?_, ?_⟩⟩⟩
    · by_cases hij : i = j
      · subst hij
        rw [List.getElem?_set_self hj] at hi
        cases hi
        exact World.cell?_setCells_in g [u] (off + i) w (fun k hk => by obtain rfl : k = 0 := (by simpa using hk); rw [Nat.add_zero]; exact hsome) 0 (by simp)
      · rw [List.getElem?_set_ne (by omega)] at hi
        have := World.cell?_setCells_out g [u] (off + j) w ⟨g, off + i, none⟩ (fun _ _ => by simp; omega)
        exact this.trans (hx i v hi)
    · exact World.isSome_setCells g [u] (off + j) w _ (hw i hi).1
    · have := World.frozen?_setCells g [u] (off + j) w ⟨g, off + i, none⟩
      exact this.trans (hw i hi).2
theorem set_other {W : World} {k g o : Nat} {v : Value} {x : Obj} (h : W.heap[k]? = some x) (hk : k ≠ g) : (W.setCell ⟨g, o, none⟩ v).heap[k]? = some x := by
  rw [heap_setCell_other W ⟨g, o, none⟩ k v hk]; exact h
theorem own_apart {B s n : Nat} {v u : Value} {xs : List Value} {w : World} (h : Own B s u n xs w) (hb : ∀ g, v.ownBlock = some g → g < B) : v.ownBlock = none ∨ v.ownBlock ≠ u.ownBlock := by
  rcases hv : v.ownBlock with _ | g
  · exact .inl rfl
  · refine .inr (fun e => ?_)
    have h1 := h.ge e.symm
    have h2 := hb g hv
    omega
theorem u8_wrap {n : Int} (h0 : 0 ≤ n) (h1 : n < 256) : IntKind.u8.wrap n = n := by
  have : IntKind.u8.wrap n = n % 256 := by simp [IntKind.wrap, IntKind.bits, IntKind.signed]
  rw [this]; omega
theorem row_set4 {W : World} {g : Nat} {a b c d a' b' c' d' : Value} {t : TypeId} (h : W.heap[g]? = some (.cells #[a, b, c, d] t (0, 0))) :
    ((((W.setCell ⟨g, 0, none⟩ a').setCell ⟨g, 1, none⟩ b').setCell ⟨g, 2, none⟩ c').setCell ⟨g, 3, none⟩ d').heap[g]? = some (.cells #[a', b', c', d'] t (0, 0)) := by
  have h0 := heap_setCell_same W g 0 _ t a' h
  have h1 := heap_setCell_same _ g 1 _ t b' h0
  have h2 := heap_setCell_same _ g 2 _ t c' h1
  rw [heap_setCell_same _ g 3 _ t d' h2]
  rfl
/-- worlds in which only that block has turned -/
theorem chg_set {bx o : Nat} {v : Value} {W X Y : World} (h : Chg (some bx) W X) (hg : Gr X Y) : Chg (some bx) W (Y.setCell ⟨bx, o, none⟩ v) :=
  (h.trans (Chg.of_gr hg)).trans (setCells_chg bx [v] o Y)
theorem infoStr : (Tryz.prog.info? 9).map (fun i => (i.zero, i.size, i.bytes)) = some (some (.string ⟨#[]⟩), 1, 16) := by kernel_rfl
theorem add_run (a b c : ByteArray) (h : a ++ b = c) (hs : a.size + b.size ≤ 140737488355000) : ∀ w1, (Op.stringOp .add a b).run Tryz.prog w1 = .ok (.string c) w1 := by
  intro w1
  rw [run_string_add_sum, h]
  omega
theorem vfalse {b : Bool} (h : b = true → False) : b = false := by cases b <;> simp_all
theorem isEmpty_iff (s : ByteArray) : s.toList.isEmpty = decide (s.size = 0) := by
  by_cases h : s.size = 0
  · have he : s = ⟨#[]⟩ := ByteArray.ext (Array.eq_empty_of_size_eq_zero h)
    subst he; rw [ByteArray.toList_eq]; rfl
  · rw [decide_eq_false h, List.isEmpty_eq_false_iff]
    intro h2
    have : s.toList.length = 0 := by rw [h2]; rfl
    rw [ByteArray.toList_eq] at this
    simp at this
    exact h (by rw [this]; rfl)
theorem beq_str (a b : ByteArray) : (a.toList == b.toList) = decide (a = b) := by
  by_cases h : a = b
  · subst h; simp
  · rw [decide_eq_false h, beq_eq_false_iff_ne]
    intro e
    apply h
    rw [ByteArray.toList_eq, ByteArray.toList_eq] at e
    exact ByteArray.ext (Array.toList_inj.1 e)
theorem take_all {α : Type} {p : α → Bool} {l : List α} {i : Nat} {x : α} (h : l[i]? = some x) : (l.take (i + 1)).all p = ((l.take i).all p && p x) := by
  rw [List.take_add_one, h, Option.toList_some, List.all_append]
  simp
theorem all_bad {α : Type} {p : α → Bool} {l : List α} {i : Nat} {x : α} (h : l[i]? = some x) (hx : p x = false) : l.all p = false := by
  apply vfalse
  intro ha
  have := List.all_eq_true.1 ha x (List.mem_of_getElem? h)
  rw [hx] at this; cases this
theorem grpL_len : ∀ f z, (grpL f z).length ≤ f := by
  intro f
  induction f with
  | zero => intro z; exact Nat.le_refl _
  | succ f ih => intro z; unfold grpL; split <;> simp; exact ih _
theorem numB_size (n : Nat) : (numB n).size ≤ 10 := by
  show (List.toArray _).size ≤ 10
  simp only [List.size_toArray, List.length_map]
  exact grpL_len 10 _
def strC (x : ByteArray) : List Value := [.string x]
def inC (x : Int) : List Value := [.int .i64 x]
/-- an entry of a package -/
structure En where
  path : ByteArray
  fmt : Int
  len : Int
  dig : ByteArray
deriving DecidableEq
def enC (x : En) : List Value := [.string x.path, .int .i64 x.fmt, .int .i64 x.len, .string x.dig]
theorem enC_len (x : En) : (enC x).length = 4 := rfl
theorem enC_one (x : En) : ∀ u ∈ enC x, u.oneCell' = true := by
  intro u hu; unfold enC at hu; simp at hu; rcases hu with rfl | rfl | rfl | rfl <;> rfl
theorem infoEn : (Tryz.prog.info? 51).map (fun i => (i.zero, i.size, i.bytes)) = some (some (.agg #[.string ⟨#[]⟩, .int .i64 0, .int .i64 0, .string ⟨#[]⟩]), 4, 48) := by kernel_rfl
theorem infoInt : (Tryz.prog.info? 3).map (fun i => (i.zero, i.size, i.bytes)) = some (some (.int .i64 0), 1, 8) := by kernel_rfl
end Go.Proofs.YtaoggehdkddgeaaGreatDoor
