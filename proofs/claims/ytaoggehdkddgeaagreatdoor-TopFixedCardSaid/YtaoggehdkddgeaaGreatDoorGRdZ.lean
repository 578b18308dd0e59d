/- What is still needed of the redact's helpers. -/
import Derived.Test.YtaoggehdkddgeaaGreatDoorMI
import Derived.Test.YtaoggehdkddgeaaGreatDoorShelf
import Derived.Test.YtaoggehdkddgeaaGreatDoorShaF
import Derived.Lib.AppendStr
import Derived.Test.YtaoggehdkddgeaaGreatDoorNB
section
namespace Go.Proofs.YtaoggehdkddgeaaGreatDoor
open Go Go.RowKit Go.Shelf
attribute [local go_sem] gAt gUpon
attribute [local simp] Gr.refl Gr.alloc

theorem infoLn : (Tryz.prog.info? 61).map (fun i => (i.zero, i.size, i.bytes)) = some (some (.agg #[.string ⟨#[]⟩, .int .i64 0]), 2, 24) := by kernel_rfl
theorem validB_bounds {ls : List Ln} {cs : List Ce} {wd : Int} {bits : ByteArray} (h : validB ls cs wd bits = true) : ls.length ≤ 64 ∧ cs.length ≤ 64 ∧ (0 ≤ wd ∧ wd ≤ 32) ∧ bits.size ≤ 1024 := by
  unfold validB at h
  simp only [Bool.and_eq_true, decide_eq_true_eq] at h
  obtain ⟨h1, h2, -, -, -, h6⟩ := h
  unfold rasterB withinB at h6
  simp only [Bool.and_eq_true, decide_eq_true_eq] at h6
  obtain ⟨⟨h7, h8⟩, -, h9⟩ := h6
  refine ⟨h1, h2, ⟨h7, h8⟩, ?_⟩
  by_cases h0 : wd = 0
  · rw [if_pos h0] at h9
    simp at h9
    rw [h9]; decide
  · rw [if_neg h0] at h9
    simp only [Bool.and_eq_true, decide_eq_true_eq] at h9
    obtain ⟨h10, h11, h12⟩ := h9
    have : wd * heightD wd bits ≤ 32 * 32 := Int.mul_le_mul h8 h12 (by omega) (by omega)
    omega
theorem DocIn.gr {v1 v2 : Value} {ls : List Ln} {cs : List Ce} {w x : World} (h : DocIn v1 v2 ls cs w) (hg : Gr w x) : DocIn v1 v2 ls cs x := ⟨h.1.gr hg, h.2.gr hg⟩
theorem validB_lines {ls : List Ln} {cs : List Ce} {wd : Int} {bits : ByteArray} (h : validB ls cs wd bits = true) : ls.length ≤ 64 ∧ ls.all lnB = true := by
  unfold validB at h
  simp only [Bool.and_eq_true, decide_eq_true_eq] at h
  exact ⟨h.1, h.2.2.2.1⟩
end Go.Proofs.YtaoggehdkddgeaaGreatDoor
end
section
namespace Go.Proofs.YtaoggehdkddgeaaGreatDoor
section
open Go Go.RowKit Go.Shelf
attribute [local go_sem] gAt gUpon
attribute [local simp] Gr.refl Gr.alloc

section
variable {P : Program} (w : World)
theorem run_append_bld (t u ty e : TypeId) (i : TypeInfo) (ht : P.underlying t = some (.slice e)) (hu : P.underlying u = some .string) (hi : P.info? e = some i) (hz : i.zero = some (.int .u8 0))
    (hsize : i.size = 1) (hby : i.bytes = 1) (v : Value) (n : Nat) (xs : List Value) (hown : w.ownsRow 0 e 1 v n xs) (s : ByteArray) (h63 : n + s.size ≤ maxLen) (hbytes : n + s.size ≤ 140737488355328) :
    ∃ v' w', (Builtin.append_ #[t, u] ty #[v, .string s]).run P w = .ok v' w' ∧ w'.ownsRow 0 e 1 v' (n + s.size) (xs ++ Lib.strCells s) ∧ w.grownBy w' v.ownBlock ∧ ∀ k, v'.ownBlock = some k → v.ownBlock = some k ∨ w.heap.size ≤ k := by
  obtain ⟨v', w', hr, h1, h2, _⟩ := Lib.run_append_own_string (P := P) w 0 t u ty e i ht hu hi hz hsize hby v n xs hown s h63 hbytes (Nat.zero_le _)
  refine ⟨v', w', hr, h1, h2, fun k hk => ?_⟩
  have hxl : xs.length = n := by simpa using hown.1
  rcases hown.2 with ⟨rfl, rfl⟩ | ⟨g, cap, cur, rfl, hbg, hg, hnc, hcm, hcs, htake⟩
  · have hx : xs = [] := List.eq_nil_of_length_eq_zero hxl
    subst hx
    obtain ⟨v2, w2, hr2, h3, _, _⟩ := Lib.run_append_own_string (P := P) w w.heap.size t u ty e i ht hu hi hz hsize hby (.slice none 0 0) 0 [] (World.ownsRow_nil w _ e 1) s h63 hbytes (Nat.le_refl _)
    rw [hr] at hr2
    injection hr2 with e1 e2
    subst e1
    rcases h3.2 with ⟨rfl, _⟩ | ⟨g', c', cu', rfl, hb, _⟩
    · simp [Value.ownBlock] at hk
    · simp [Value.ownBlock] at hk; subst hk; exact .inr hb
  · have hcs' : cur.size = cap := by simpa using hcs
    by_cases hroom : n + s.size ≤ cap
    · have hr2 := Lib.run_append_room_string (P := P) w t u ty e i ht hu hi hsize g n cap cur hg s hroom (by omega)
      rw [hr] at hr2
      injection hr2 with e1 e2
      subst e1
      exact .inl hk
    · have holds : ∀ j u, xs[j]? = some u → w.cell? ((⟨g, 0, none⟩ : Addr).add j) = some u := hown.cells (g := g) rfl
      have hr2 := Lib.run_append_grow_string (P := P) w t u ty e i (.int .u8 0) ht hu hi hz ⟨g, 0, none⟩ n cap xs (by rw [hsize]; simpa using hxl) holds s (by omega) (by unfold maxLen at h63; omega) (by rw [hby]; exact growslice_fits (by omega) (by omega))
      rw [hr] at hr2
      injection hr2 with e1 e2
      subst e1
      simp [Value.ownBlock] at hk
      exact .inr (by omega)
theorem wpList_append_bld {ops : Array Oper} {rest : List Oper} {o : Oper} {a : Act} {Q : Exit → Act → World → Prop} (hgd : o.guard = none) (sl x : Operand) (t u : TypeId)
    (ho : o.op = .call { callee := .builtin .append, args := #[sl, x], argTypes := #[t, u] })
    (e : TypeId) (i : TypeInfo) (ht : P.underlying t = some (.slice e)) (hu : P.underlying u = some .string) (hi : P.info? e = some i) (hz : i.zero = some (.int .u8 0))
    (hsize : i.size = 1) (hby : i.bytes = 1)
    (v : Value) (n : Nat) (xs : List Value) (hs : a.eval sl = v) (hown : w.ownsRow 0 e 1 v n xs) (s : ByteArray) (hx : a.eval x = .string s)
    (h63 : n + s.size ≤ maxLen) (hbytes : n + s.size ≤ 140737488355328)
    (h : ∀ v' w', w'.ownsRow 0 e 1 v' (n + s.size) (xs ++ Lib.strCells s) → w.grownBy w' v.ownBlock → (∀ k, v'.ownBlock = some k → v.ownBlock = some k ∨ w.heap.size ≤ k) → wpList P ops Q rest (a.put o.dst v') w') : wpList P ops Q (o :: rest) a w := by
  refine wpList_plain hgd fun K hK => ?_
  obtain ⟨v', w', hr, h2, h3, h4⟩ := run_append_bld (P := P) w t u o.type e i ht hu hi hz hsize hby v n xs hown s h63 hbytes
  unfold Oper.wp execOp
  simp only [ho, resolve, invoke, builtin, Sem.run_bind, Sem.run_pure, Result.andThen_ok, List.map_toArray, List.map_cons, List.map_nil, hs, hx, hr]
  exact hK _ _ (h v' w' h2 h3 h4)
end
/-- the blocks of K are as they were -/
def Kpt (K : Nat → Prop) (w w' : World) : Prop := w'.os = w.os ∧ w'.tape = w.tape ∧ w'.output = w.output ∧ w.heap.size ≤ w'.heap.size ∧ ∀ k, K k → w'.heap[k]? = w.heap[k]?
theorem Kpt.refl (K : Nat → Prop) (w : World) : Kpt K w w := ⟨rfl, rfl, rfl, Nat.le_refl _, fun _ _ => rfl⟩
theorem Kpt.trans {K : Nat → Prop} {a b c : World} (h : Kpt K a b) (k : Kpt K b c) : Kpt K a c :=
  ⟨k.1.trans h.1, k.2.1.trans h.2.1, k.2.2.1.trans h.2.2.1, Nat.le_trans h.2.2.2.1 k.2.2.2.1, fun j hj => (k.2.2.2.2 j hj).trans (h.2.2.2.2 j hj)⟩
theorem Kpt.sub {K K' : Nat → Prop} {a b : World} (h : Kpt K a b) (hk : ∀ k, K' k → K k) : Kpt K' a b := ⟨h.1, h.2.1, h.2.2.1, h.2.2.2.1, fun j hj => h.2.2.2.2 j (hk j hj)⟩
theorem Kpt.size {K : Nat → Prop} {a b : World} (h : Kpt K a b) : a.heap.size ≤ b.heap.size := h.2.2.2.1
theorem Kpt.block {K : Nat → Prop} {a b : World} (h : Kpt K a b) {k : Nat} {o : Obj} (hk : K k) (hb : a.heap[k]? = some o) : b.heap[k]? = some o := (h.2.2.2.2 k hk).trans hb
theorem Kpt.of_gr {K : Nat → Prop} {a b : World} (h : Gr a b) (hk : ∀ k, K k → k < a.heap.size) : Kpt K a b := ⟨h.os, h.tape, h.output, h.size, fun k hkk => (show Below a.heap.size a b from h).block k (hk k hkk)⟩
theorem Kpt.of_chg {K : Nat → Prop} {a b : World} {g : Option Nat} (h : Chg g a b) (hk : ∀ k, K k → k < a.heap.size ∧ some k ≠ g) : Kpt K a b := ⟨h.1, h.2.1, h.2.2.1, h.size, fun k hkk => h.at_ (hk k hkk).1 (hk k hkk).2⟩
theorem Kpt.gr {B : Nat} {a b : World} (h : Kpt (fun k => k < B) a b) : Below B a b := ⟨h.1, h.2.1, h.2.2.1, h.size, fun k hk => h.2.2.2.2 k hk⟩
/-- a builder at b that holds the bytes l; it is apart from the blocks of K -/
def Bld (K : Nat → Prop) (b : Nat) (l : List UInt8) (w : World) : Prop :=
  ∃ p v, (p = .pointer none ∨ p = .pointer (some ⟨b, 0, none⟩)) ∧ w.heap[b]? = some (.cells #[p, v] 77 (0, 0)) ∧ w.ownsRow 0 5 1 v l.length (Lib.byteCells l) ∧ v.ownBlock ≠ some b ∧ ∀ k, K k → k < w.heap.size ∧ k ≠ b ∧ v.ownBlock ≠ some k
theorem row_lt {w : World} {e : TypeId} {s n : Nat} {v : Value} {xs : List Value} (h : w.ownsRow 0 e s v n xs) {k : Nat} (hk : v.ownBlock = some k) : k < w.heap.size := by
  rcases h.2 with ⟨rfl, _⟩ | ⟨g, c, cu, rfl, _, hg, _⟩
  · simp [Value.ownBlock] at hk
  · simp [Value.ownBlock] at hk; subst hk; exact (Array.getElem?_eq_some_iff.1 hg).1
theorem row_block {w x : World} {e : TypeId} {s n : Nat} {v : Value} {xs : List Value} (h : w.ownsRow 0 e s v n xs) (hx : ∀ k, v.ownBlock = some k → x.heap[k]? = w.heap[k]?) : x.ownsRow 0 e s v n xs := by
  refine ⟨h.1, ?_⟩
  rcases h.2 with h | ⟨g, c, cu, rfl, hb, hg, r⟩
  · exact .inl h
  · exact .inr ⟨g, c, cu, rfl, hb, (hx g rfl).trans hg, r⟩
theorem Bld.gr {K : Nat → Prop} {b : Nat} {l : List UInt8} {w x : World} (h : Bld K b l w) (hg : Gr w x) : Bld K b l x := by
  obtain ⟨p, v, hp, hb, ho, hn, hk⟩ := h
  exact ⟨p, v, hp, hg.block hb, row_block ho (fun k hk => (show Below w.heap.size w x from hg).block k (row_lt ho hk)), hn, fun k hkk => ⟨Nat.lt_of_lt_of_le (hk k hkk).1 hg.size, (hk k hkk).2⟩⟩
theorem Bld.sub {K K' : Nat → Prop} {b : Nat} {l : List UInt8} {w : World} (h : Bld K b l w) (hs : ∀ k, K' k → K k) : Bld K' b l w := by
  obtain ⟨p, v, hp, hb, ho, hn, hk⟩ := h
  exact ⟨p, v, hp, hb, ho, hn, fun k hkk => hk k (hs k hkk)⟩
/-- new blocks are apart from it -/
theorem Bld.add {K K' : Nat → Prop} {b : Nat} {l : List UInt8} {w x : World} (h : Bld K b l w) (hg : Gr w x) (hs : ∀ k, K' k → K k ∨ (w.heap.size ≤ k ∧ k < x.heap.size)) : Bld K' b l x := by
  obtain ⟨p, v, hp, hb, ho, hn, hk⟩ := h
  refine ⟨p, v, hp, hg.block hb, row_block ho (fun k hk => (show Below w.heap.size w x from hg).block k (row_lt ho hk)), hn, fun k hkk => ?_⟩
  rcases hs k hkk with h1 | ⟨h1, h2⟩
  · exact ⟨Nat.lt_of_lt_of_le (hk k h1).1 hg.size, (hk k h1).2⟩
  · refine ⟨h2, fun e => ?_, fun e => ?_⟩
    · have := (Array.getElem?_eq_some_iff.1 hb).1; omega
    · have := row_lt ho e; omega
theorem Bld.lt {K : Nat → Prop} {b : Nat} {l : List UInt8} {w : World} (h : Bld K b l w) {k : Nat} (hk : K k) : k < w.heap.size := by
  obtain ⟨_, _, _, _, _, _, h1⟩ := h
  exact (h1 k hk).1
theorem Bld.made (w : World) (K : Nat → Prop) (hK : ∀ k, K k → k < w.heap.size) : Bld K w.heap.size [] (w.alloc (.cells #[.pointer none, .slice none 0 0] 77)) :=
  ⟨.pointer none, .slice none 0 0, .inl rfl, heap_alloc_new _ _, World.ownsRow_nil _ _ _ _, by simp [Value.ownBlock], fun k hk => ⟨by have := hK k hk; simp; omega, by have := hK k hk; omega, by simp [Value.ownBlock]⟩⟩
end
section
open Go Go.RowKit Go.Shelf
attribute [local go_sem] gAt gUpon
attribute [local simp] Gr.refl Gr.alloc

/-- a builder that has been written -/
def BldU (K : Nat → Prop) (b : Nat) (v : Value) (l : List UInt8) (w : World) : Prop :=
  w.heap[b]? = some (.cells #[.pointer (some ⟨b, 0, none⟩), v] 77 (0, 0)) ∧ w.ownsRow 0 5 1 v l.length (Lib.byteCells l) ∧ v.ownBlock ≠ some b ∧ ∀ k, K k → k < w.heap.size ∧ k ≠ b ∧ v.ownBlock ≠ some k
theorem shape_row {w : World} {b : Nat} {cs : Array Value} {T : TypeId} (h : w.heap[b]? = some (.cells cs T (0, 0))) : w.shape? b = some (T, cs.size) := by simp [World.shape?, h]
theorem sizeBld : (Tryz.prog.info? 75).map (·.size) = some 2 := by kernel_rfl
theorem liesBld : liesAt Tryz.prog Tryz.prog.depth 77 (2 / Tryz.prog.cellsOf 77) 0 75 1 = true := by kernel_rfl
set_option maxHeartbeats 1000000 in
set_option maxRecDepth 100000 in
theorem chk_used (b : Nat) (w : World) (h0 : w.cell? ⟨b, 0, none⟩ = some (.pointer (some ⟨b, 0, none⟩))) :
    Calls Tryz.prog 139 #[.pointer (some ⟨b, 0, none⟩)] w fun e w' => e = .returned (.tuple #[]) ∧ w' = w := by
  obtain ⟨j, hj, _⟩ := Option.map_eq_some_iff.1 sizeBld
  have HJ := Lib.hid hj
  clear hj
  go_enter Tryz.func139, Tryz.ntmps139
  go_wp2
  rw [Lib.run_neq_ptr_same w _ Tryz.underlying72 HJ.out]
  go_wp2
  go_end0
  exact ⟨rfl, rfl⟩
set_option maxHeartbeats 1000000 in
set_option maxRecDepth 100000 in
theorem chk_fresh (b : Nat) (w : World) (h0 : w.cell? ⟨b, 0, none⟩ = some (.pointer none)) (hsh : w.shape? b = some (77, 2)) (hfz : w.frozen? ⟨b, 0, none⟩ = false) :
    Calls Tryz.prog 139 #[.pointer (some ⟨b, 0, none⟩)] w fun e w' => e = .returned (.tuple #[]) ∧ w' = w.setCell ⟨b, 0, none⟩ (.pointer (some ⟨b, 0, none⟩)) := by
  obtain ⟨j, hj, hjs⟩ := Option.map_eq_some_iff.1 sizeBld
  have HJ := Lib.hid hj
  have HJS := Lib.hid hjs
  clear hj hjs
  go_enter Tryz.func139, Tryz.ntmps139
  go_wp2
  rw [Lib.run_to_unsafe w ⟨b, 0, none⟩ Tryz.underlying72 Tryz.underlying261 HJ.out (by rw [HJS.out]; decide) hsh (Nat.zero_lt_succ 1)]
  simp only [Result.andThen]
  rw [Oper.upon_value]
  go_wp2
  rw [run_callFunc_extern Tryz.func184 (by kernel_rfl) (by kernel_rfl) (by kernel_rfl) (e := Extern.AbiNoEscape.same) (by kernel_rfl)]
  rw [Lib.run_noEscape]
  simp only [Result.andThen]
  rw [Oper.upon_value]
  go_wp2
  rw [Lib.run_from_unsafe w ⟨b, 0, none⟩ Tryz.underlying261 Tryz.underlying72 HJ.out hsh liesBld]
  simp only [Result.andThen]
  rw [Oper.upon_value]
  go_wp2
  go_end0
  exact ⟨rfl, rfl⟩
theorem chk_bld (K : Nat → Prop) (b : Nat) (l : List UInt8) (w : World) (h : Bld K b l w) :
    Calls Tryz.prog 139 #[.pointer (some ⟨b, 0, none⟩)] w fun e w' => e = .returned (.tuple #[]) ∧ ∃ v, BldU K b v l w' ∧ Kpt K w w' := by
  obtain ⟨p, v, hp, hb, ho, hn, hk⟩ := h
  have h0 : w.cell? ⟨b, 0, none⟩ = some p := by rw [cell_of_row _ _ _ _ _ _ hb]; rfl
  rcases hp with rfl | rfl
  · refine (chk_fresh b w h0 (shape_row hb) (frozen_of_row _ _ _ _ _ hb)).mono ?_
    rintro e w' ⟨rfl, rfl⟩
    have hc : Chg (some b) w (w.setCell ⟨b, 0, none⟩ (.pointer (some ⟨b, 0, none⟩))) := setCells_chg b [.pointer (some ⟨b, 0, none⟩)] 0 w
    refine ⟨rfl, v, ⟨by rw [heap_setCell_same _ _ _ _ _ _ hb]; rfl, row_block ho (fun k hkv => ?_), hn, fun k hkk => ?_⟩, Kpt.of_chg hc (fun k hkk => ⟨(hk k hkk).1, fun e => by injection e with e; exact (hk k hkk).2.1 e⟩)⟩
    · exact hc.at_ (row_lt ho hkv) (fun e => by injection e with e; subst e; exact hn hkv)
    · exact ⟨Nat.lt_of_lt_of_le (hk k hkk).1 hc.size, (hk k hkk).2⟩
  · refine (chk_used b w h0).mono ?_
    rintro e w' ⟨rfl, rfl⟩
    exact ⟨rfl, v, ⟨hb, ho, hn, hk⟩, Kpt.refl _ _⟩
theorem freeze_other (w : World) (p : Addr) (n k : Nat) (h : k ≠ p.block) : (w.freeze p n).heap[k]? = w.heap[k]? := by
  unfold World.freeze
  split
  · rfl
  · simp only [Array.getElem?_modify]
    rw [if_neg (by omega)]
set_option maxHeartbeats 2000000 in
set_option maxRecDepth 100000 in
/-- the string of a builder that holds a byte -/
theorem string_bld (K : Nat → Prop) (b : Nat) (l : List UInt8) (w : World) (h : Bld K b l w) (h0 : l ≠ []) :
    Calls Tryz.prog 23 #[.pointer (some ⟨b, 0, none⟩)] w fun e w' => e = .returned (.string ⟨l.toArray⟩) ∧ Kpt K w w' := by
  obtain ⟨p, v, hp, hbk, hown, hn, hk⟩ := h
  have hl0 : l.length ≠ 0 := by simpa using h0
  obtain ⟨g, cap, cur, rfl, hbg, hg, hnc, hcm, hcs, htake⟩ : ∃ g cap cur, v = .slice (some ⟨g, 0, none⟩) l.length cap ∧ 0 ≤ g ∧ w.heap[g]? = some (.cells cur 5 (0, 0)) ∧ l.length ≤ cap ∧ cap ≤ maxLen ∧ cur.size = cap * 1 ∧ cur.toList.take (l.length * 1) = Lib.byteCells l := by
    rcases hown.2 with ⟨_, hz⟩ | ⟨g, cap, cur, hv, r⟩
    · exact absurd hz hl0
    · exact ⟨g, cap, cur, hv, r⟩
  have c1 : w.drew.cell? ⟨b, 1, none⟩ = some (.slice (some ⟨g, 0, none⟩) l.length cap) := by
    have : w.drew.heap[b]? = some (.cells #[p, .slice (some ⟨g, 0, none⟩) l.length cap] 77 (0, 0)) := hbk
    rw [Lib.cell_of_heap this]; rfl
  have hSD : (Builtin.unsafeSliceData_ #[73] 155 #[.slice (some ⟨g, 0, none⟩) l.length cap]).run Tryz.prog w.drew = .ok (.pointer (some ⟨g, 0, none⟩)) w.drew :=
    Lib.run_unsafeSliceData_row _ _ _ _ _ _ (by omega)
  have hUS : (Builtin.unsafeString_ #[155, 3] 9 #[.pointer (some ⟨g, 0, none⟩), .int .i64 l.length]).run Tryz.prog w.drew = .ok (.string ⟨l.toArray⟩) (w.drew.freeze ⟨g, 0, none⟩ l.length) := by
    refine Lib.run_unsafeString_row w.drew 155 3 9 5 Tryz.underlying155 Tryz.Builder_Extra_156.cellsByte g cur.size (by have hg' : w.drew.heap[g]? = some (.cells cur 5 (0, 0)) := hg; simp [World.shape?, hg']) l h0 (by omega) (by unfold maxLen at hcm; omega) ?_
    intro j x hx
    have := hown.cells (g := g) rfl j (.int .u8 x.toNat) (by simp [Lib.byteCells, hx])
    exact this
  have HK : Hid (Kpt K w (w.drew.freeze ⟨g, 0, none⟩ l.length)) := Lib.hid (by
    have hb := Lib.below_freeze (Below.drew (Below.refl g w)) (p := ⟨g, 0, none⟩) (Nat.le_refl g) l.length
    refine ⟨hb.os, hb.tape, hb.output, hb.size, fun k hkk => ?_⟩
    obtain ⟨h1, h2, h3⟩ := hk k hkk
    exact freeze_other w.drew ⟨g, 0, none⟩ l.length k (fun e => h3 (by simp [Value.ownBlock, e])))
  clear hown hn hk hp hbk hbg hg hnc hcm hcs htake
  go_enter Tryz.func23, Tryz.ntmps23
  go_wp2
  go_region
  all_goals (go_wp2; go_ret; exact ⟨rfl, HK.out⟩)
theorem infoU8B : (Tryz.prog.info? 5).map (fun i => (i.zero, i.size, i.bytes)) = some (some (.int .u8 0), 1, 1) := by kernel_rfl
theorem byteCells_app (l : List UInt8) (s : ByteArray) : Lib.byteCells (l ++ s.data.toList) = Lib.byteCells l ++ Lib.strCells s := by
  rw [Lib.byteCells_append, Lib.strCells_eq]
theorem len_app (l : List UInt8) (s : ByteArray) : (l ++ s.data.toList).length = l.length + s.size := by
  rw [List.length_append, Array.length_toList]; rfl
set_option maxRecDepth 100000 in
set_option maxHeartbeats 2000000 in
theorem write_bld (K : Nat → Prop) (b : Nat) (l : List UInt8) (s : ByteArray) (w : World) (h : Bld K b l w) (hlen : l.length + s.size ≤ 1000000000) :
    Calls Tryz.prog 65 #[.pointer (some ⟨b, 0, none⟩), .string s] w fun e w' => e = .returned (.tuple #[.int .i64 s.size, .nilIface]) ∧ Bld K b (l ++ s.data.toList) w' ∧ Kpt K w w' := by
  obtain ⟨i0, hi, hz0, hz1, hz2⟩ := info_parts infoU8B
  have HI := Lib.hid hi
  have HI0 := Lib.hid hz0
  have HI1 := Lib.hid hz1
  have HI2 := Lib.hid hz2
  have HB := Lib.hid (chk_bld K b l w h)
  clear hi hz0 hz1 hz2 h
  go_enter Tryz.func65, Tryz.ntmps65
  go_wp2_with fail
  refine HB.out.mono ?_
  rintro e w1 ⟨rfl, v, hu, hk1⟩
  obtain ⟨hb, hown, hn, hkk⟩ := hu
  have c0 : w1.cell? ⟨b, 0, none⟩ = some (.pointer (some ⟨b, 0, none⟩)) := by rw [cell_of_row _ _ _ _ _ _ hb]; rfl
  have c1 : w1.cell? ⟨b, 1, none⟩ = some v := by rw [cell_of_row _ _ _ _ _ _ hb]; rfl
  have HR := Lib.hid hb
  have HO := Lib.hid hown
  have HN := Lib.hid hn
  have HKK := Lib.hid hkk
  have HK1 := Lib.hid hk1
  clear hb hown hn hkk hk1 HB
  go_wp2_with ((with_reducible show wpList _ _ _ (⟨some 14, _, _, _, _, _⟩ :: _) _ _); refine wpList_append_bld _ rfl (.tmp 12) (.tmp 13) 73 9 rfl 5 i0 Tryz.underlying73 Tryz.underlying9 HI.out HI0.out HI1.out HI2.out v l.length (Lib.byteCells l) rfl HO.out s rfl ?c3 ?c4 ?_)
  case c3 => unfold maxLen; omega
  case c4 => omega
  intro v' w2 hown' hgrow hblk
  have hlt : b < w1.heap.size := (Array.getElem?_eq_some_iff.1 HR.out).1
  have hb2 : w2.heap[b]? = some (.cells #[.pointer (some ⟨b, 0, none⟩), v] 77 (0, 0)) := (hgrow.block b hlt (fun e => HN.out e.symm)).trans HR.out
  have d0 : w2.cell? ⟨b, 0, none⟩ = some (.pointer (some ⟨b, 0, none⟩)) := by rw [cell_of_row _ _ _ _ _ _ hb2]; rfl
  have d1 : w2.cell? ⟨b, 1, none⟩ = some v := by rw [cell_of_row _ _ _ _ _ _ hb2]; rfl
  have f1 : w2.frozen? ⟨b, 1, none⟩ = false := frozen_of_row _ _ _ _ _ hb2
  obtain ⟨ao, n', cap, rfl⟩ : ∃ ao n' cap, v' = .slice ao n' cap := by
    rcases hown'.2 with ⟨hv, _⟩ | ⟨g, cap, cur, hv, _⟩
    · exact ⟨_, _, _, hv⟩
    · exact ⟨_, _, _, hv⟩
  have hc : Chg (some b) w2 (w2.setCell ⟨b, 1, none⟩ (.slice ao n' cap)) := setCells_chg b [.slice ao n' cap] 1 w2
  have hne2 : (Value.slice ao n' cap).ownBlock ≠ some b := fun e => by
    rcases hblk b e with h | h
    · exact HN.out h
    · omega
  have HFin : Hid (Bld K b (l ++ s.data.toList) (w2.setCell ⟨b, 1, none⟩ (.slice ao n' cap)) ∧ Kpt K w (w2.setCell ⟨b, 1, none⟩ (.slice ao n' cap))) := Lib.hid (by
    refine ⟨⟨.pointer (some ⟨b, 0, none⟩), .slice ao n' cap, .inr rfl, by rw [heap_setCell_same _ _ _ _ _ _ hb2]; rfl, ?_, hne2, fun k hk => ?_⟩, HK1.out.trans ⟨?_, ?_, ?_, ?_, fun k hk => ?_⟩⟩
    · rw [byteCells_app, len_app]
      exact row_block hown' (fun k hk => hc.at_ (row_lt hown' hk) (fun e => by injection e with e; subst e; exact hne2 hk))
    · obtain ⟨h1, h2, h3⟩ := HKK.out k hk
      refine ⟨Nat.lt_of_lt_of_le h1 (Nat.le_trans hgrow.size hc.size), h2, fun e => ?_⟩
      rcases hblk k e with h | h
      · exact h3 h
      · omega
    · exact hc.1.trans hgrow.os
    · exact hc.2.1.trans hgrow.tape
    · exact hc.2.2.1.trans hgrow.output
    · exact Nat.le_trans hgrow.size hc.size
    · obtain ⟨h1, h2, h3⟩ := HKK.out k hk
      exact (hc.at_ (Nat.lt_of_lt_of_le h1 hgrow.size) (fun e => by injection e with e; exact h2 e)).trans (hgrow.block k h1 (fun e => h3 e.symm)))
  clear hown' hgrow hblk hc hne2 hb2 HR HO HN HKK HK1 c0 c1
  go_wp2_with fail
  go_ret2
  exact ⟨rfl, HFin.out⟩
theorem text_bld (K : Nat → Prop) (b : Nat) (l : List UInt8) (s : ByteArray) (w : World) (h : Bld K b l w) (hs : s.size ≤ 65536) (hlen : l.length + s.size ≤ 999999000) :
    Calls Tryz.prog 22 #[.pointer (some ⟨b, 0, none⟩), .string s] w fun e w' => e = .returned (.tuple #[]) ∧ Bld K b (l ++ (numB s.size ++ s).data.toList) w' ∧ Kpt K w w' := by
  have hn := numB_size s.size
  have HP := putString_any s hs w
  rw [show putD s = numB s.size ++ s from rfl] at HP
  replace HP := Lib.hid HP
  have HW := Lib.hid (fun y (hb : Bld K b l y) => write_bld K b l (numB s.size ++ s) y hb (by rw [ByteArray.size_append]; omega))
  have HB := Lib.hid h
  clear h hn
  generalize numB s.size ++ s = S at HP HW ⊢
  go_enter Tryz.func22, Tryz.ntmps22
  go_wp2_with fail
  refine HP.out.mono ?_
  rintro e w1 ⟨rfl, hg⟩
  have HK : Hid (Kpt K w w1) := Lib.hid (Kpt.of_gr hg (fun k hk => HB.out.lt hk))
  have HB1 := Lib.hid (HB.out.gr hg)
  obtain ⟨p, v, hp, hb, -⟩ := HB1.out
  have c0 : w1.cell? ⟨b, 0, none⟩ = some p := by rw [cell_of_row _ _ _ _ _ _ hb]; rfl
  clear hg HP HB hb hp
  go_wp2_with fail
  refine (HW.out _ HB1.out).mono ?_
  rintro e w2 ⟨rfl, hb2, hk2⟩
  have HB2 := Lib.hid hb2
  have HK2 := Lib.hid (HK.out.trans hk2)
  clear hb2 hk2 HK HB1 HW c0
  go_wp2_with fail
  go_end0
  exact ⟨rfl, HB2.out, HK2.out⟩
set_option maxRecDepth 100000 in
set_option maxHeartbeats 1000000 in
theorem number_bld (K : Nat → Prop) (b : Nat) (l : List UInt8) (n g : Nat) (w : World) (h : Bld K b l w) (hK : K g) (hrow : w.heap[g]? = some (.cells #[.int .i64 (n : Int)] 3 (0, 0))) (hn : n ≤ 4611686018427387903) (hlen : l.length ≤ 999999000) :
    Calls Tryz.prog 21 #[.pointer (some ⟨b, 0, none⟩), .slice (some ⟨g, 0, none⟩) 1 1] w fun e w' => e = .returned (.tuple #[]) ∧ Bld K b (l ++ (numB n).data.toList) w' ∧ Kpt K w w' := by
  have hz := numB_size n
  have HP := Lib.hid (fun y => putInt_any n (by omega) y)
  have HW := Lib.hid (fun y (hb : Bld K b l y) => write_bld K b l (numB n) y hb (by omega))
  have HB := Lib.hid h
  have HR := Lib.hid hrow
  have HKg := Lib.hid hK
  clear h hz hrow hK
  generalize numB n = S at HP HW ⊢
  go_enter Tryz.func21, Tryz.ntmps21
  go_wp2_with fail
  go_loopw [10] (fun v10 W => ∃ i : Nat, i ≤ 1 ∧ v10 = .int .i64 (i : Int) ∧ Hid (Kpt K w W) ∧ Hid ((i = 0 ∧ Bld K b l W) ∨ (i = 1 ∧ Bld K b (l ++ S.data.toList) W))) (fun v10 _ => 1 - (intOf v10).toNat)
  case atStart => exact ⟨0, Nat.zero_le _, rfl, Lib.hid (Kpt.refl _ _), Lib.hid (.inl ⟨rfl, HB.out⟩)⟩
  case round =>
    obtain ⟨i, hi, rfl, HK, HC⟩ := hrel
    by_cases h0 : i = 0
    · subst h0
      have HB1 : Hid (Bld K b l wr) := Lib.hid (by
        rcases HC.out with ⟨_, h⟩ | ⟨h, _⟩
        · exact h
        · omega)
      have hr := HK.out.block HKg.out HR.out
      have c0 : wr.cell? ⟨g, 0, none⟩ = some (.int .i64 (n : Int)) := by rw [cell_of_row _ _ _ _ _ _ hr]; rfl
      clear hr HC HB
      go_wp2_with fail
      refine (HP.out _).mono ?_
      rintro e w1 ⟨rfl, hg⟩
      have HK1 : Hid (Kpt K w w1) := Lib.hid (HK.out.trans (Kpt.of_gr hg (fun k hk => HB1.out.lt hk)))
      have HB2 := Lib.hid (HB1.out.gr hg)
      obtain ⟨p, v, hp, hb, -⟩ := HB2.out
      have d0 : w1.cell? ⟨b, 0, none⟩ = some p := by rw [cell_of_row _ _ _ _ _ _ hb]; rfl
      clear hg HB1 HK hb hp c0
      go_wp2_with fail
      refine (HW.out _ HB2.out).mono ?_
      rintro e w2 ⟨rfl, hb2, hk2⟩
      have HB3 := Lib.hid hb2
      have HK3 := Lib.hid (HK1.out.trans hk2)
      clear hb2 hk2 HK1 HB2 d0
      go_wp2_with fail
      go_roundw
      case rel => exact ⟨1, Nat.le_refl _, by go_num, HK3, Lib.hid (.inr ⟨rfl, HB3.out⟩)⟩
      case measure => simp [intOf]
    · have h1 : i = 1 := by omega
      subst h1
      have HB1 : Hid (Bld K b (l ++ S.data.toList) wr) := Lib.hid (by
        rcases HC.out with ⟨h, _⟩ | ⟨_, h⟩
        · omega
        · exact h)
      clear HC HB
      go_wp2_with fail
      go_end0
      exact ⟨rfl, HB1.out, HK.out⟩
end
end Go.Proofs.YtaoggehdkddgeaaGreatDoor
end
