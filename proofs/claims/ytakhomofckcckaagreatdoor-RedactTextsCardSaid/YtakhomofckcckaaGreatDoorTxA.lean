/- A builder of strings among other blocks: what it holds, what is kept while it is written. -/
import Derived.Test.YtakhomofckcckaaGreatDoorShelf
import Derived.Test.YtakhomofckcckaaGreatDoorShaF
import Derived.Lib.AppendStr
namespace Go.Proofs.YtakhomofckcckaaGreatDoor
open Go Go.RowKit Go.Shelf
attribute [local go_sem] gAt gUpon
attribute [local simp] Gr.refl Gr.alloc

section
variable {P : Program} (w : World)
theorem run_append_bld (t u ty e : TypeId) (i : TypeInfo) (ht : P.underlying t = some (.slice e)) (hu : P.underlying u = some .string) (hi : P.info? e = some i) (hz : i.zero = some (.int .u8 0))
    (hsize : i.size = 1) (hby : i.bytes = 1) (v : Value) (n : Nat) (xs : List Value) (hown : w.ownsRow 0 e 1 v n xs) (s : ByteArray) (h63 : n + s.size ≤ maxLen) (hbytes : n + s.size ≤ 140737488355328) :
    ∃ v' w', (Builtin.append_ #[t, u] ty #[v, .string s]).run P w = .ok v' w' ∧ w'.ownsRow 0 e 1 v' (n + s.size) (xs ++ Lib.strCells s) ∧ w.grownBy w' v.ownBlock ∧ ∀ k, v'.ownBlock = some k → v.ownBlock = some k ∨ w.heap.size ≤ k := by
  obtain ⟨v', w', hr, h1, h2, _⟩ := Lib.run_append_own_string (P := P) w 0 t u ty e i ht hu hi hz hsize hby v n xs hown s h63 hbytes (Nat.zero_le _)
  refine ⟨v', w', hr, h1, h2, fun k hk => ?_⟩
  have hxl : xs.length = n := by simpa using hown.1
  rcases hown.2 with ⟨rfl, rfl⟩ | ⟨g, cap, cur, rfl, hbg, hg, hnc, hcm, hcs, htake⟩
  · have hx : xs = [] := List.eq_nil_of_length_eq_zero hxl
    subst hx
    obtain ⟨v2, w2, hr2, h3, _, _⟩ := Lib.run_append_own_string (P := P) w w.heap.size t u ty e i ht hu hi hz hsize hby (.slice none 0 0) 0 [] (World.ownsRow_nil w _ e 1) s h63 hbytes (Nat.le_refl _)
    rw [hr] at hr2
    injection hr2 with e1 e2
    subst e1
    rcases h3.2 with ⟨rfl, _⟩ | ⟨g', c', cu', rfl, hb, _⟩
    · simp [Value.ownBlock] at hk
    · simp [Value.ownBlock] at hk; subst hk; exact .inr hb
  · have hcs' : cur.size = cap := by simpa using hcs
    by_cases hroom : n + s.size ≤ cap
    · have hr2 := Lib.run_append_room_string (P := P) w t u ty e i ht hu hi hsize g n cap cur hg s hroom (by omega)
      rw [hr] at hr2
      injection hr2 with e1 e2
      subst e1
      exact .inl hk
    · have holds : ∀ j u, xs[j]? = some u → w.cell? ((⟨g, 0, none⟩ : Addr).add j) = some u := hown.cells (g := g) rfl
      have hr2 := Lib.run_append_grow_string (P := P) w t u ty e i (.int .u8 0) ht hu hi hz ⟨g, 0, none⟩ n cap xs (by rw [hsize]; simpa using hxl) holds s (by omega) (by unfold maxLen at h63; omega) (by rw [hby]; exact growslice_fits (by omega) (by omega))
      rw [hr] at hr2
      injection hr2 with e1 e2
      subst e1
      simp [Value.ownBlock] at hk
      exact .inr (by omega)
theorem wpList_append_bld {ops : Array Oper} {rest : List Oper} {o : Oper} {a : Act} {Q : Exit → Act → World → Prop} (hgd : o.guard = none) (sl x : Operand) (t u : TypeId)
    (ho : o.op = .call { callee := .builtin .append, args := #[sl, x], argTypes := #[t, u] })
    (e : TypeId) (i : TypeInfo) (ht : P.underlying t = some (.slice e)) (hu : P.underlying u = some .string) (hi : P.info? e = some i) (hz : i.zero = some (.int .u8 0))
    (hsize : i.size = 1) (hby : i.bytes = 1)
    (v : Value) (n : Nat) (xs : List Value) (hs : a.eval sl = v) (hown : w.ownsRow 0 e 1 v n xs) (s : ByteArray) (hx : a.eval x = .string s)
    (h63 : n + s.size ≤ maxLen) (hbytes : n + s.size ≤ 140737488355328)
    (h : ∀ v' w', w'.ownsRow 0 e 1 v' (n + s.size) (xs ++ Lib.strCells s) → w.grownBy w' v.ownBlock → (∀ k, v'.ownBlock = some k → v.ownBlock = some k ∨ w.heap.size ≤ k) → wpList P ops Q rest (a.put o.dst v') w') : wpList P ops Q (o :: rest) a w := by
  refine wpList_plain hgd fun K hK => ?_
  obtain ⟨v', w', hr, h2, h3, h4⟩ := run_append_bld (P := P) w t u o.type e i ht hu hi hz hsize hby v n xs hown s h63 hbytes
  unfold Oper.wp execOp
  simp only [ho, resolve, invoke, builtin, Sem.run_bind, Sem.run_pure, Result.andThen_ok, List.map_toArray, List.map_cons, List.map_nil, hs, hx, hr]
  exact hK _ _ (h v' w' h2 h3 h4)
end
/-- the blocks of K are as they were -/
def Kpt (K : Nat → Prop) (w w' : World) : Prop := w'.os = w.os ∧ w'.tape = w.tape ∧ w'.output = w.output ∧ w.heap.size ≤ w'.heap.size ∧ ∀ k, K k → w'.heap[k]? = w.heap[k]?
theorem Kpt.refl (K : Nat → Prop) (w : World) : Kpt K w w := ⟨rfl, rfl, rfl, Nat.le_refl _, fun _ _ => rfl⟩
theorem Kpt.trans {K : Nat → Prop} {a b c : World} (h : Kpt K a b) (k : Kpt K b c) : Kpt K a c :=
  ⟨k.1.trans h.1, k.2.1.trans h.2.1, k.2.2.1.trans h.2.2.1, Nat.le_trans h.2.2.2.1 k.2.2.2.1, fun j hj => (k.2.2.2.2 j hj).trans (h.2.2.2.2 j hj)⟩
theorem Kpt.sub {K K' : Nat → Prop} {a b : World} (h : Kpt K a b) (hk : ∀ k, K' k → K k) : Kpt K' a b := ⟨h.1, h.2.1, h.2.2.1, h.2.2.2.1, fun j hj => h.2.2.2.2 j (hk j hj)⟩
theorem Kpt.size {K : Nat → Prop} {a b : World} (h : Kpt K a b) : a.heap.size ≤ b.heap.size := h.2.2.2.1
theorem Kpt.block {K : Nat → Prop} {a b : World} (h : Kpt K a b) {k : Nat} {o : Obj} (hk : K k) (hb : a.heap[k]? = some o) : b.heap[k]? = some o := (h.2.2.2.2 k hk).trans hb
theorem Kpt.of_gr {K : Nat → Prop} {a b : World} (h : Gr a b) (hk : ∀ k, K k → k < a.heap.size) : Kpt K a b := ⟨h.os, h.tape, h.output, h.size, fun k hkk => (show Below a.heap.size a b from h).block k (hk k hkk)⟩
theorem Kpt.of_chg {K : Nat → Prop} {a b : World} {g : Option Nat} (h : Chg g a b) (hk : ∀ k, K k → k < a.heap.size ∧ some k ≠ g) : Kpt K a b := ⟨h.1, h.2.1, h.2.2.1, h.size, fun k hkk => h.at_ (hk k hkk).1 (hk k hkk).2⟩
theorem Kpt.gr {B : Nat} {a b : World} (h : Kpt (fun k => k < B) a b) : Below B a b := ⟨h.1, h.2.1, h.2.2.1, h.size, fun k hk => h.2.2.2.2 k hk⟩
/-- a builder at b that holds the bytes l; it is apart from the blocks of K -/
def Bld (K : Nat → Prop) (b : Nat) (l : List UInt8) (w : World) : Prop :=
  ∃ p v, (p = .pointer none ∨ p = .pointer (some ⟨b, 0, none⟩)) ∧ w.heap[b]? = some (.cells #[p, v] 102 (0, 0)) ∧ w.ownsRow 0 5 1 v l.length (Lib.byteCells l) ∧ v.ownBlock ≠ some b ∧ ∀ k, K k → k < w.heap.size ∧ k ≠ b ∧ v.ownBlock ≠ some k
theorem row_lt {w : World} {e : TypeId} {s n : Nat} {v : Value} {xs : List Value} (h : w.ownsRow 0 e s v n xs) {k : Nat} (hk : v.ownBlock = some k) : k < w.heap.size := by
  rcases h.2 with ⟨rfl, _⟩ | ⟨g, c, cu, rfl, _, hg, _⟩
  · simp [Value.ownBlock] at hk
  · simp [Value.ownBlock] at hk; subst hk; exact (Array.getElem?_eq_some_iff.1 hg).1
theorem row_block {w x : World} {e : TypeId} {s n : Nat} {v : Value} {xs : List Value} (h : w.ownsRow 0 e s v n xs) (hx : ∀ k, v.ownBlock = some k → x.heap[k]? = w.heap[k]?) : x.ownsRow 0 e s v n xs := by
  refine ⟨h.1, ?_⟩
  rcases h.2 with h | ⟨g, c, cu, rfl, hb, hg, r⟩
  · exact .inl h
  · exact .inr ⟨g, c, cu, rfl, hb, (hx g rfl).trans hg, r⟩
theorem Bld.gr {K : Nat → Prop} {b : Nat} {l : List UInt8} {w x : World} (h : Bld K b l w) (hg : Gr w x) : Bld K b l x := by
  obtain ⟨p, v, hp, hb, ho, hn, hk⟩ := h
  exact ⟨p, v, hp, hg.block hb, row_block ho (fun k hk => (show Below w.heap.size w x from hg).block k (row_lt ho hk)), hn, fun k hkk => ⟨Nat.lt_of_lt_of_le (hk k hkk).1 hg.size, (hk k hkk).2⟩⟩
theorem Bld.sub {K K' : Nat → Prop} {b : Nat} {l : List UInt8} {w : World} (h : Bld K b l w) (hs : ∀ k, K' k → K k) : Bld K' b l w := by
  obtain ⟨p, v, hp, hb, ho, hn, hk⟩ := h
  exact ⟨p, v, hp, hb, ho, hn, fun k hkk => hk k (hs k hkk)⟩
/-- new blocks are apart from it -/
theorem Bld.add {K K' : Nat → Prop} {b : Nat} {l : List UInt8} {w x : World} (h : Bld K b l w) (hg : Gr w x) (hs : ∀ k, K' k → K k ∨ (w.heap.size ≤ k ∧ k < x.heap.size)) : Bld K' b l x := by
  obtain ⟨p, v, hp, hb, ho, hn, hk⟩ := h
  refine ⟨p, v, hp, hg.block hb, row_block ho (fun k hk => (show Below w.heap.size w x from hg).block k (row_lt ho hk)), hn, fun k hkk => ?_⟩
  rcases hs k hkk with h1 | ⟨h1, h2⟩
  · exact ⟨Nat.lt_of_lt_of_le (hk k h1).1 hg.size, (hk k h1).2⟩
  · refine ⟨h2, fun e => ?_, fun e => ?_⟩
    · have := (Array.getElem?_eq_some_iff.1 hb).1; omega
    · have := row_lt ho e; omega
theorem Bld.lt {K : Nat → Prop} {b : Nat} {l : List UInt8} {w : World} (h : Bld K b l w) {k : Nat} (hk : K k) : k < w.heap.size := by
  obtain ⟨_, _, _, _, _, _, h1⟩ := h
  exact (h1 k hk).1
theorem Bld.made (w : World) (K : Nat → Prop) (hK : ∀ k, K k → k < w.heap.size) : Bld K w.heap.size [] (w.alloc (.cells #[.pointer none, .slice none 0 0] 102)) :=
  ⟨.pointer none, .slice none 0 0, .inl rfl, heap_alloc_new _ _, World.ownsRow_nil _ _ _ _, by simp [Value.ownBlock], fun k hk => ⟨by have := hK k hk; simp; omega, by have := hK k hk; omega, by simp [Value.ownBlock]⟩⟩
end Go.Proofs.YtakhomofckcckaaGreatDoor
