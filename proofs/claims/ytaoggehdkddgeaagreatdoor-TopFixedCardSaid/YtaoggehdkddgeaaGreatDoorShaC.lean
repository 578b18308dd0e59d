/- The contract of one block of the digest, for the proofs of package digest. -/
import Derived.Test.YtaoggehdkddgeaaGreatDoorShaB
import Derived.Laws.CopyRow
import Derived.Deep.CutRange
import Derived.BigRegion
namespace Go.Proofs.YtaoggehdkddgeaaGreatDoor
open Go.RowKit
attribute [local go_sem] gAt gUpon
attribute [local simp] Gr.refl Gr.alloc

/-- the package-level table of words -/
def roundCells : Array Value := (kRound.map fun x : Nat => Value.int .u32 (x : Int)).toArray
/-- the table lies in memory as the program's text lays it -/
def Tab (w : World) : Prop := ∃ t, w.heap[0]? = some (.cells roundCells t (0, 0))
theorem Tab.gr {w w' : World} (h : Tab w) (hg : Gr w w') : Tab w' := h.elim fun t h => ⟨t, hg.block h⟩
theorem Tab.below {w w' : World} {B : Nat} (h : Tab w) (hg : Below B w w') (hB : 0 < B) : Tab w' := h.elim fun t h => ⟨t, (hg.block _ hB).trans h⟩
theorem Tab.lt {w : World} (h : Tab w) : 0 < w.heap.size := h.elim fun _ h => (Array.getElem?_eq_some_iff.1 h).1
theorem Tab.same {w w' : World} (h : Tab w) (k : w'.heap[0]? = w.heap[0]?) : Tab w' := h.elim fun t h => ⟨t, k.trans h⟩

theorem size66 : (Tryz.prog.info? 158).map (·.size) = some 8 := by kernel_rfl
theorem size83 : (Tryz.prog.info? 220).map (·.size) = some 64 := by kernel_rfl
theorem run_index83 (C : Array Value) (i : Nat) (n : Int) (w : World) (hi : i < 64) (hC : C[i]? = some (.int .u32 n)) :
    (Instr.index 220 (.agg C) (.int .i64 (i : Int))).run Tryz.prog w = .ok (.int .u32 n) w := by
  have hu := run_underlying (P := Tryz.prog) Tryz.underlying220 w
  have hs : ((sizeOf 95).run Tryz.prog w : Result Nat) = .ok 1 w := by kernel_rfl
  have ha : ((isAgg 95).run Tryz.prog w : Result Bool) = .ok false w := by kernel_rfl
  have h1 : (0 : Int) ≤ (i : Int) ∧ (i : Int) < (64 : Nat) := by omega
  simp [Instr.index, asIntOf, hu, h1, hs]
  rw [if_pos hi]
  simp [part, ha, hC]

/-- the eight words as cells -/
def stC (s : St) : List Value := [.int .u32 (s.a : Int), .int .u32 (s.b : Int), .int .u32 (s.c : Int), .int .u32 (s.d : Int), .int .u32 (s.e : Int), .int .u32 (s.f : Int), .int .u32 (s.g : Int), .int .u32 (s.h : Int)]

theorem stC_get (s : St) (b : Nat) (w : World) (h : w.heap[b]? = some (.cells (stC s).toArray 158 (0, 0))) :
    w.cell? ⟨b, 0, none⟩ = some (.int .u32 (s.a : Int)) ∧ w.cell? ⟨b, 1, none⟩ = some (.int .u32 (s.b : Int)) ∧ w.cell? ⟨b, 2, none⟩ = some (.int .u32 (s.c : Int)) ∧ w.cell? ⟨b, 3, none⟩ = some (.int .u32 (s.d : Int)) ∧
    w.cell? ⟨b, 4, none⟩ = some (.int .u32 (s.e : Int)) ∧ w.cell? ⟨b, 5, none⟩ = some (.int .u32 (s.f : Int)) ∧ w.cell? ⟨b, 6, none⟩ = some (.int .u32 (s.g : Int)) ∧ w.cell? ⟨b, 7, none⟩ = some (.int .u32 (s.h : Int)) := by
  refine ⟨?_, ?_, ?_, ?_, ?_, ?_, ?_, ?_⟩ <;> (rw [cell_of_row _ _ _ _ _ _ h]; rfl)
theorem xor_ones (e : Nat) (he : e < 4294967296) : 4294967295 ^^^ e = comp e := by
  apply Nat.eq_of_testBit_eq
  intro i
  have h1 : comp e = 2 ^ 32 - (e + 1) := by unfold comp; omega
  rw [h1, Nat.testBit_two_pow_sub_succ (by omega), Nat.testBit_xor, show 4294967295 = 2 ^ 32 - 1 by decide, Nat.testBit_two_pow_sub_one]
  by_cases hi : i < 32
  · simp [hi]
  · have : e.testBit i = false := Nat.testBit_lt_two_pow (Nat.lt_of_lt_of_le (show e < 2 ^ 32 by omega) (Nat.pow_le_pow_right (by omega) (by omega)))
    simp [hi, this]
theorem comp_lt (e : Nat) : comp e < 4294967296 := by unfold comp; omega
theorem not_walk (e : Nat) (he : e < 4294967296) : bits .xor .u32 (if IntKind.u32.signed = true then -1 else IntKind.u32.max) (e : Int) = ((comp e : Nat) : Int) := by
  have h : (if IntKind.u32.signed = true then (-1 : Int) else IntKind.u32.max) = ((4294967295 : Nat) : Int) := by decide
  rw [h, xor_u32 _ _ (by omega) he, xor_ones e he]
theorem t_walk (v : St) (k w : Nat) (he : v.e < 4294967296) (hf : v.f < 4294967296) (hg : v.g < 4294967296) :
    (((v.h : Int) + ((rot v.e 6 ^^^ rot v.e 11 ^^^ rot v.e 25 : Nat) : Int) + bits .xor .u32 (bits .and .u32 (v.e : Int) (v.f : Int)) (bits .and .u32 (bits .xor .u32 (if IntKind.u32.signed = true then -1 else IntKind.u32.max) (v.e : Int)) (v.g : Int)) + (k : Int)) % 4294967296 + (w : Int)) % 4294967296 = ((v.t k w : Nat) : Int) := by
  rw [not_walk _ he, and_u32 _ _ he hf, and_u32 _ _ (comp_lt _) hg, xor_u32 _ _ (and_lt _ _ hf) (and_lt _ _ hg)]
  unfold St.t
  omega
theorem u_walk (v : St) (ha : v.a < 4294967296) (hb : v.b < 4294967296) (hc : v.c < 4294967296) :
    (((rot v.a 2 ^^^ rot v.a 13 ^^^ rot v.a 22 : Nat) : Int) + bits .xor .u32 (bits .xor .u32 (bits .and .u32 (v.a : Int) (v.b : Int)) (bits .and .u32 (v.a : Int) (v.c : Int))) (bits .and .u32 (v.b : Int) (v.c : Int))) % 4294967296 = ((v.u : Nat) : Int) := by
  rw [and_u32 _ _ ha hb, and_u32 _ _ ha hc, and_u32 _ _ hb hc, xor_u32 _ _ (and_lt _ _ hb) (and_lt _ _ hc), xor_u32 _ _ (xor_lt _ _ (and_lt _ _ hb) (and_lt _ _ hc)) (and_lt _ _ hc)]
  unfold St.u
  omega
/-- the eight words moved on by one -/
def St.moved (v : St) : St := ⟨v.a, v.a, v.b, v.c, v.d, v.e, v.f, v.g⟩
theorem run_move (v : St) (b : Nat) (w : World) (h : w.heap[b]? = some (.cells (stC v).toArray 158 (0, 0))) :
    (Builtin.copy_ #[96, 96] 3 #[.slice (some ⟨b, 1, none⟩) 7 7, .slice (some ⟨b, 0, none⟩) 7 8]).run Tryz.prog w = .ok (.int .i64 7) (w.setRow b (stC v.moved).toArray) := by
  have h64 : (Tryz.prog.info? 95).map (·.size) = some 1 := by kernel_rfl
  have := run_copy_row (P := Tryz.prog) w 96 96 3 95 b 1 7 7 ⟨b, 0, none⟩ 7 8 (stC v).toArray 158 ((stC v).take 7) Tryz.underlying96 h64 h rfl ?_ (by simp [stC]) ?_
  · exact this
  · intro j u hj
    have hj8 : j < 7 := by
      have := (List.getElem?_eq_some_iff.1 hj).1
      simp [stC] at this; omega
    have h1 : (⟨b, 0, none⟩ : Addr).add j = ⟨b, j, none⟩ := by rw [Addr.add_mid]; simp
    rw [h1, cell_of_row _ _ _ _ _ _ h]
    rw [List.getElem?_take, if_pos hj8] at hj
    simpa using hj
  · intro u hu
    have := List.mem_of_mem_take hu
    simp [stC] at this
    rcases this with rfl | rfl | rfl | rfl | rfl | rfl | rfl | rfl <;> rfl
theorem step_cells (v : St) (b k kk : Nat) (w : World) (h : w.heap[b]? = some (.cells (stC v.moved).toArray 158 (0, 0))) :
    (((w.setCell ⟨b, 0, none⟩ (.int .u32 (((v.t k kk : Nat) + (v.u : Nat) : Int) % 4294967296))).setCell ⟨b, 4, none⟩ (.int .u32 (((v.d : Nat) + (v.t k kk : Nat) : Int) % 4294967296))).heap[b]? = some (.cells (stC (v.next k kk)).toArray 158 (0, 0))) := by
  have h1 := heap_setCell_same w b 0 _ _ (.int .u32 (((v.t k kk : Nat) + (v.u : Nat) : Int) % 4294967296)) h
  have h2 := heap_setCell_same _ b 4 _ _ (.int .u32 (((v.d : Nat) + (v.t k kk : Nat) : Int) % 4294967296)) h1
  rw [h2]
  simp [stC, St.moved, St.next]
theorem kRound_lt : ∀ x ∈ kRound, x < 4294967296 := by decide

/-- only block b may have changed -/
def Upd (b : Nat) (w x : World) : Prop := x.os = w.os ∧ x.tape = w.tape ∧ x.output = w.output ∧ w.heap.size ≤ x.heap.size ∧ ∀ k, k < w.heap.size → k ≠ b → x.heap[k]? = w.heap[k]?
theorem Upd.of_gr {b : Nat} {w x : World} (h : Gr w x) : Upd b w x := ⟨h.os, h.tape, h.output, h.size, fun k hk _ => (show Below w.heap.size w x from h).block k hk⟩
theorem Upd.gr {b : Nat} {w x y : World} (h : Upd b w x) (g : Gr x y) : Upd b w y :=
  ⟨g.os.trans h.1, g.tape.trans h.2.1, g.output.trans h.2.2.1, Nat.le_trans h.2.2.2.1 g.size, fun k hk hb => ((show Below x.heap.size x y from g).block k (Nat.lt_of_lt_of_le hk h.2.2.2.1)).trans (h.2.2.2.2 k hk hb)⟩
theorem Upd.setCell {b : Nat} {w x : World} (h : Upd b w x) (i : Nat) (v : Value) : Upd b w (x.setCell ⟨b, i, none⟩ v) :=
  ⟨h.1, h.2.1, h.2.2.1, by simpa using h.2.2.2.1, fun k hk hb => (heap_setCell_other _ _ _ _ hb).trans (h.2.2.2.2 k hk hb)⟩
/-- the first words of a sum, the others as they were -/
def hC (s v : St) (j : Nat) : List Value := (List.range 8).map fun i => .int .u32 (((if i < j then (s.add v).list.getD i 0 else s.list.getD i 0 : Nat)) : Int)
theorem hC_eight (s v : St) : hC s v 8 = stC (s.add v) := rfl
theorem list_add (s v : St) (j : Nat) (hj : j < 8) : (s.add v).list.getD j 0 = (s.list.getD j 0 + v.list.getD j 0) % 4294967296 := by
  match j, hj with
  | 0, _ => rfl
  | 1, _ => rfl
  | 2, _ => rfl
  | 3, _ => rfl
  | 4, _ => rfl
  | 5, _ => rfl
  | 6, _ => rfl
  | 7, _ => rfl
theorem stC_list (v : St) (j : Nat) (hj : j < 8) : (stC v)[j]? = some (.int .u32 ((v.list.getD j 0 : Nat) : Int)) := by
  match j, hj with
  | 0, _ => rfl
  | 1, _ => rfl
  | 2, _ => rfl
  | 3, _ => rfl
  | 4, _ => rfl
  | 5, _ => rfl
  | 6, _ => rfl
  | 7, _ => rfl
theorem hC_get (s v : St) (j : Nat) (hj : j < 8) : (hC s v j)[j]? = some (.int .u32 ((s.list.getD j 0 : Nat) : Int)) := by
  simp [hC, hj]
theorem hC_set (s v : St) (j : Nat) (hj : j < 8) : (hC s v j).toArray.setIfInBounds j (.int .u32 (((s.list.getD j 0 : Nat) + (v.list.getD j 0 : Nat) : Int) % 4294967296)) = (hC s v (j + 1)).toArray := by
  rw [List.setIfInBounds_toArray]
  congr 1
  apply List.ext_getElem?
  intro i
  rw [List.getElem?_set]
  by_cases hij : j = i
  · subst hij
    have h := list_add s v j hj
    rw [if_pos rfl, if_pos (by simp [hC, hj])]
    simp only [hC, List.getElem?_map, List.getElem?_range hj, Option.map_some, if_pos (Nat.lt_succ_self j), h]
    simp
  · rw [if_neg hij]
    by_cases hi : i < 8
    · have : (i < j) = (i < j + 1) := by simp; omega
      simp [hC, hi, this]
    · simp [hC, hi]

set_option maxRecDepth 100000 in
set_option maxHeartbeats 8000000 in
theorem add_any (s : St) (hs : s.lt) (l : List UInt8) (bh b off c : Nat) (w : World) (hl : l.length = 64) (hb : BytesAt w b off l) (hbB : b < w.heap.size)
    (hh : w.heap[bh]? = some (.cells (stC s).toArray 158 (0, 0))) (hT : Tab w) :
    Calls Tryz.prog 69 #[.pointer (some ⟨bh, 0, none⟩), .slice (some ⟨b, off, none⟩) 64 c] w fun e w' => e = .returned (.tuple #[]) ∧
      Upd bh w w' ∧ w'.heap[bh]? = some (.cells (stC (blockSt s l)).toArray 158 (0, 0)) := by
  go_enter Tryz.func69, Tryz.ntmps69
  have hbh : bh < w.heap.size := (Array.getElem?_eq_some_iff.1 hh).1
  go_wp2_with fail
  refine (schedule_any l b off c _ hl hb hbB).mono ?_
  rintro e w1 ⟨rfl, hw1⟩
  have hh1 := (hw1.block _ hbh).trans hh
  have hT1 := hT.below hw1 hT.lt
  have HZ : (wordCells 64 (sched l)).size = 64 := wordCells_size 64 _ (by rw [sched_length]; omega)
  generalize hCC : wordCells 64 (sched l) = C at HZ
  have ht83 : (Tryz.prog.info? 220).map (·.size) = some 64 := by kernel_rfl
  have HT : Hid ((Tryz.prog.info? 220).map (·.size) = some C.size) := Lib.hid (by rw [HZ]; exact ht83)
  have H1 : Hid (C.all (·.oneCell') = true) := Lib.hid (by rw [← hCC]; simp [wordCells, Value.oneCell'])
  have HC := Lib.hid hCC
  have HZ' := Lib.hid HZ
  clear ht83 HZ hCC
  go_upto_region 1 with ((with_reducible show wpList _ _ _ (⟨none, .store 220 _ _, _, _, _, _⟩ :: _) _ _); refine wpList_store_row rfl 220 (.tmp 4) (.tmp 14) rfl w1.heap.size C rfl rfl 220 _ (heap_alloc_new _ _) HT.out ?_ H1.out ?_; (rw [HZ'.out]; rfl); simp only [Act.put])
  refine wp_gen (newBlk_set w1 _ C 220) ?_
  rintro w2 ⟨hG2, hrow2, hsz2⟩
  have hh2 := hG2.block hh1
  have hT2 := hT1.gr hG2
  have hHh := Lib.hid hh2
  have hsz3 := Lib.hid hsz2
  have HR2 := Lib.hid hrow2
  have ht66 : Hid ((Tryz.prog.info? 158).map (·.size) = some (stC s).toArray.size) := Lib.hid (size66.trans rfl)
  have hz8 : ∀ s : St, Hid ((stC s).toArray.all (·.oneCell') = true) := fun s => Lib.hid (by simp [stC, Value.oneCell'])
  clear hh2 hsz2 hrow2 hh1 hT hh hT1
  go_upto_region 2 with (first | ((with_reducible show wpList _ _ _ (⟨some 17, _, _, _, _, _⟩ :: _) _ _); refine wpList_load_row rfl 158 (.tmp 16) rfl bh rfl 158 (stC s).toArray (0, 0) _ hHh.out Tryz.underlying158 rfl ht66.out ?_; simp only [Act.put, List.setIfInBounds_toArray, List.set_cons_zero, List.set_cons_succ]) | ((with_reducible show wpList _ _ _ (⟨none, .store 158 _ _, _, _, _, _⟩ :: _) _ _); refine wpList_store_row rfl 158 (.tmp 5) (.tmp 17) rfl w2.heap.size (stC s).toArray rfl rfl 158 _ (heap_alloc_new _ _) ht66.out rfl (hz8 s).out ?_; simp only [Act.put]))
  refine wp_gen (newBlk_set w2 _ (stC s).toArray 158) ?_
  rintro w3 ⟨hG3, hrow3, hsz3'⟩
  obtain ⟨tT, hTt⟩ := hT2.gr hG3
  have hHt := Lib.hid hTt
  have ht83 : Hid ((Tryz.prog.info? 220).map (·.size) = some roundCells.size) := Lib.hid (size83.trans rfl)
  have hRC : ∀ k, k < 64 → roundCells[k]? = some (.int .u32 ((kRound.getD k 0 : Nat) : Int)) := by
    intro k hk
    simp [roundCells, List.getElem?_map, List.getElem?_eq_getElem (show k < kRound.length from hk)]
  have HRC := Lib.hid hRC
  clear hRC hT2 hTt
  generalize roundCells = RC at hHt ht83 HRC
  go_upto_region 3 with ((with_reducible show wpList _ _ _ (⟨some 18, _, _, _, _, _⟩ :: _) _ _); refine wpList_load_row rfl 220 (.global 0) rfl 0 rfl tT RC (0, 0) _ hHt.out Tryz.underlying220 rfl ht83.out ?_; simp only [Act.put, List.setIfInBounds_toArray, List.set_cons_zero, List.set_cons_succ])
  go_loopw [19] (fun i wr => ∃ k : Nat, k ≤ 64 ∧ i = .int .i64 k ∧ Below w2.heap.size w2 wr ∧ wr.heap[w2.heap.size]? = some (.cells (stC (rounds ((kRound.zip (sched l)).take k) s)).toArray 158 (0, 0))) (fun i _ => 64 - (intOf i).toNat)
  case atStart =>
    refine ⟨0, Nat.zero_le _, rfl, hG3, hrow3⟩
  case round =>
    obtain ⟨k, hk, rfl, hbel, hrow⟩ := hrel
    by_cases hlt : k < 64
    · have hLl : (kRound.zip (sched l)).length = 64 := by rw [List.length_zip, sched_length]; rfl
      have hnext := rounds_take (kRound.zip (sched l)) s k (by omega)
      have hkl : k < kRound.length := hlt
      have hwl : k < (sched l).length := by rw [sched_length]; exact hlt
      have hz1 : ((kRound.zip (sched l))[k]'(by omega)).1 = kRound.getD k 0 := by simp [List.getElem_zip, List.getElem?_eq_getElem hkl]
      have hz2 : ((kRound.zip (sched l))[k]'(by omega)).2 = (sched l).getD k 0 := by simp [List.getElem_zip, List.getElem?_eq_getElem hwl]
      rw [hz1, hz2] at hnext
      have hvlt := rounds_lt ((kRound.zip (sched l)).take k) s hs
      have hkk : kRound.getD k 0 < 4294967296 := by rw [List.getD_eq_getElem?_getD, List.getElem?_eq_getElem hkl]; exact kRound_lt _ (List.getElem_mem hkl)
      have hww : (sched l).getD k 0 < 4294967296 := by rw [List.getD_eq_getElem?_getD, List.getElem?_eq_getElem hwl]; exact sched_lt l _ (List.getElem_mem hwl)
      have hCk : C[k]? = some (.int .u32 (((sched l).getD k 0 : Nat) : Int)) := by rw [← HC.out]; exact wordCells_get _ _ _ hwl
      have hidx : ∀ w', (Instr.index 220 (.agg RC) (.int .i64 (k : Int))).run Tryz.prog w' = .ok (.int .u32 ((kRound.getD k 0 : Nat) : Int)) w' := fun w' => run_index83 RC k _ w' hlt (HRC.out k hlt)
      have hCrow : wr.heap[w1.heap.size]? = some (.cells C 220 (0, 0)) := (hbel.block _ (by have := hsz3.out; omega)).trans HR2.out
      generalize rounds ((kRound.zip (sched l)).take k) s = v at hnext hrow hvlt
      generalize kRound.getD k 0 = kk at hnext hkk hidx
      generalize (sched l).getD k 0 = ww at hnext hww hCk
      have HV := Lib.hid hnext
      clear hnext hz1 hz2 hLl hkl hwl
      obtain ⟨va, vb, vc, vd, ve, vf, vg, vh⟩ := hvlt
      obtain ⟨c0, c1, c2, c3, c4, c5, c6, c7⟩ := stC_get v w2.heap.size wr hrow
      have hcC : wr.cell? ⟨w1.heap.size, k, none⟩ = some (.int .u32 (ww : Int)) := by rw [cell_of_row _ _ _ _ _ _ hCrow]; exact hCk
      have Hrow := Lib.hid hrow
      clear hrow hCrow hCk
      have kk0 : (0 : Int) ≤ (k : Int) := by omega
      have kk1 : (k : Int) < 64 := by omega
      go_upto_region 5 with fail
      go_quiet (fail)
      rename_i nq
      go_upto_region 6 with fail
      refine wp_gen (F := fun x => Below w2.heap.size w2 x ∧ Hid (x.heap[w2.heap.size]? = some (.cells (stC v).toArray 158 (0, 0))) ∧ x.cell? ⟨w1.heap.size, k, none⟩ = some (.int .u32 (ww : Int))) ⟨below_drewN hbel nq, Hrow, hcC⟩ ?_
      clear hbel Hrow hcC c0 c1 c2 c3 c4 c5 c6 c7
      rintro wq ⟨hbel, Hrow, hcC⟩
      obtain ⟨c0, c1, c2, c3, c4, c5, c6, c7⟩ := stC_get v w2.heap.size wq Hrow.out
      have hS5 : ∀ n : GrS wq.drew, n.w.cell? ⟨w2.heap.size, 5, none⟩ = some (.int .u32 (v.f : Int)) := fun n => n.h.cell (w := wq.drew) c5
      have hS6 : ∀ n : GrS wq.drew, n.w.cell? ⟨w2.heap.size, 6, none⟩ = some (.int .u32 (v.g : Int)) := fun n => n.h.cell (w := wq.drew) c6
      have hS7 : ∀ n : GrS wq.drew, n.w.cell? ⟨w2.heap.size, 7, none⟩ = some (.int .u32 (v.h : Int)) := fun n => n.h.cell (w := wq.drew) c7
      have hSC : ∀ n : GrS wq.drew, n.w.cell? ⟨w1.heap.size, k, none⟩ = some (.int .u32 (ww : Int)) := fun n => n.h.cell (w := wq.drew) hcC
      clear c0 c1 c2 c3 c4 c5 c6 c7 hcC
      go_cut [10] from 23 to 49 (fun v10 wx => v10 = .int .u32 ((v.t kk ww : Nat) : Int) ∧ Below w2.heap.size w2 wx ∧ Hid (wx.heap[w2.heap.size]? = some (.cells (stC v).toArray 158 (0, 0))))
      case first =>
        rename_i JJ KK hJ hK
        refine region_grow 24 97 (by kernel_rfl) rfl (by kernel_rfl) rfl rfl ?_
        simp only [List.take_succ_cons, List.take_zero, List.drop_succ_cons, List.drop_zero]
        refine seg 3 rfl rfl rfl rfl ?_
        simp only [List.take_succ_cons, List.take_zero, List.drop_succ_cons, List.drop_zero]
        repeat (go_big_quiet_step (fail))
        refine wpQuiet_nil ?_
        intro _
        refine grow_open (NewRow [.int .i64 6, .int .i64 11, .int .i64 25] 3) rfl rfl rfl rfl (stb_row _ _) (fun w1 hG => ?_) ?_
        · go_simp
          exact newRow_alloc _ _ _ rfl
        refine grow_det1 30 (v := .int .u32 ((rot v.e 6 ^^^ rot v.e 11 ^^^ rot v.e 25 : Nat) : Int)) rfl (by decide) rfl rfl rfl (by decide) rfl rfl rfl ?_ ?_
        · rintro w1 u hG ⟨b1, rfl, hb1⟩
          go_simp
          refine (mixed3 _ 6 11 25 _ _ (by omega) (by omega) (by decide) (by decide) (by decide) (cell_of_row _ _ _ _ _ _ hb1) (cell_of_row _ _ _ _ _ _ hb1) (cell_of_row _ _ _ _ _ _ hb1)).mono ?_
          rintro e w' ⟨rfl, rfl⟩
          exact ⟨by simp, Gr.refl _⟩
        simp only [Act.put, List.setIfInBounds_toArray, List.set_cons_zero, List.set_cons_succ]
        refine seg 19 rfl rfl rfl rfl ?_
        simp only [List.take_succ_cons, List.take_zero, List.drop_succ_cons, List.drop_zero]
        repeat (go_big_quiet_step (fail))
        refine wpQuiet_nil ?_
        intro _
        refine grow_end1 rfl rfl (by decide) ?_
        rintro wg u hG ⟨b1, rfl, -⟩
        simp only [Act.put, List.setIfInBounds_toArray, List.set_cons_zero, List.set_cons_succ]
        refine hK _ _ (Met.intro (hJ _ _ ?_))
        repeat apply Exists.intro
        refine ⟨?_, rfl⟩
        exact ⟨by rw [t_walk v kk ww ve vf vg], hbel.drew.trans ((show Below wq.drew.heap.size wq.drew wg from hG).mono hbel.size), Lib.hid (hG.block (w := wq.drew) Hrow.out)⟩
      clear hS5 hS6 hS7 hSC hbel Hrow
      rename_i K1 _
      obtain ⟨rfl, hbel, Hrow⟩ := hcut
      go_upto_region 7 with fail
      obtain ⟨c0, c1, c2, c3, c4, c5, c6, c7⟩ := stC_get v w2.heap.size wc Hrow.out
      have hS1 : ∀ n : GrS wc.drew, n.w.cell? ⟨w2.heap.size, 1, none⟩ = some (.int .u32 (v.b : Int)) := fun n => n.h.cell (w := wc.drew) c1
      have hS2 : ∀ n : GrS wc.drew, n.w.cell? ⟨w2.heap.size, 2, none⟩ = some (.int .u32 (v.c : Int)) := fun n => n.h.cell (w := wc.drew) c2
      clear c0 c1 c2 c3 c4 c5 c6 c7
      have hwc : ∃ wd, wd = wc := ⟨_, rfl⟩
      obtain ⟨wd, hwd⟩ := hwc
      subst hwd
      go_cut [11] from 50 to 68 (fun v11 wx => v11 = .int .u32 ((v.u : Nat) : Int) ∧ Below w2.heap.size w2 wx ∧ Hid (wx.heap[w2.heap.size]? = some (.cells (stC v).toArray 158 (0, 0))))
      case first =>
        rename_i JJ KK hJ hK
        refine region_grow 20 97 (by kernel_rfl) rfl (by kernel_rfl) rfl rfl ?_
        simp only [List.take_succ_cons, List.take_zero, List.drop_succ_cons, List.drop_zero]
        refine seg 1 rfl rfl rfl rfl ?_
        simp only [List.take_succ_cons, List.take_zero, List.drop_succ_cons, List.drop_zero]
        repeat (go_big_quiet_step (fail))
        refine wpQuiet_nil ?_
        intro _
        refine grow_open (NewRow [.int .i64 2, .int .i64 13, .int .i64 22] 3) rfl rfl rfl rfl (stb_row _ _) (fun w1 hG => ?_) ?_
        · go_simp
          exact newRow_alloc _ _ _ rfl
        refine grow_det1 51 (v := .int .u32 ((rot v.a 2 ^^^ rot v.a 13 ^^^ rot v.a 22 : Nat) : Int)) rfl (by decide) rfl rfl rfl (by decide) rfl rfl rfl ?_ ?_
        · rintro w1 u hG ⟨b1, rfl, hb1⟩
          go_simp
          refine (mixed3 _ 2 13 22 _ _ (by omega) (by omega) (by decide) (by decide) (by decide) (cell_of_row _ _ _ _ _ _ hb1) (cell_of_row _ _ _ _ _ _ hb1) (cell_of_row _ _ _ _ _ _ hb1)).mono ?_
          rintro e w' ⟨rfl, rfl⟩
          exact ⟨by simp, Gr.refl _⟩
        simp only [Act.put, List.setIfInBounds_toArray, List.set_cons_zero, List.set_cons_succ]
        refine seg 17 rfl rfl rfl rfl ?_
        simp only [List.take_succ_cons, List.take_zero, List.drop_succ_cons, List.drop_zero]
        repeat (go_big_quiet_step (fail))
        refine wpQuiet_nil ?_
        intro _
        refine grow_end1 rfl rfl (by decide) ?_
        rintro wg u hG ⟨b1, rfl, -⟩
        simp only [Act.put, List.setIfInBounds_toArray, List.set_cons_zero, List.set_cons_succ]
        refine hK _ _ (Met.intro (hJ _ _ ?_))
        repeat apply Exists.intro
        refine ⟨?_, rfl⟩
        exact ⟨by rw [u_walk v va vb vc], hbel.drew.trans ((show Below wd.drew.heap.size wd.drew wg from hG).mono hbel.size), Lib.hid (hG.block (w := wd.drew) Hrow.out)⟩
      clear hS1 hS2 hbel Hrow
      obtain ⟨rfl, hbel, Hrow⟩ := hcut
      go_upto_region 8 with fail
      refine region_grow 2 97 (by kernel_rfl) rfl (by kernel_rfl) rfl rfl ?_
      simp only [List.take_succ_cons, List.take_zero, List.drop_succ_cons, List.drop_zero]
      refine seg 2 rfl rfl rfl rfl ?_
      simp only [List.take_succ_cons, List.take_zero, List.drop_succ_cons, List.drop_zero]
      repeat (go_big_quiet_step (fail))
      refine wpQuiet_nil ?_
      intro _
      refine grow_end0 rfl rfl ?_
      intro wg hG
      have Hg := Lib.hid (hG.block (w := wc.drew) Hrow.out)
      have hbg : Below w2.heap.size w2 wg := hbel.drew.trans ((show Below wc.drew.heap.size wc.drew wg from hG).mono hbel.size)
      have hcp := run_move v w2.heap.size wg Hg.out
      clear hG hbel Hrow
      go_upto_region 9 with fail
      refine wp_gen (F := fun x => Below w2.heap.size w2 x ∧ Hid (x.heap[w2.heap.size]? = some (.cells (stC v.moved).toArray 158 (0, 0)))) ⟨?_, Lib.hid (setRow_heap _ _ _ _ _ _ Hg.out)⟩ ?_
      · exact ⟨hbg.os, hbg.tape, hbg.output, by rw [setRow_size]; exact hbg.size, fun k hk => (setRow_other _ _ _ _ (by omega)).trans (hbg.block k hk)⟩
      clear hcp Hg hbg
      rintro wh ⟨hbel, Hrow⟩
      obtain ⟨c0, c1, c2, c3, c4, c5, c6, c7⟩ := stC_get v.moved w2.heap.size wh Hrow.out
      have f0 : wh.frozen? ⟨w2.heap.size, 0, none⟩ = false := frozen_of_row _ _ _ _ _ Hrow.out
      have f4 : wh.frozen? ⟨w2.heap.size, 4, none⟩ = false := frozen_of_row _ _ _ _ _ Hrow.out
      clear c1 c2 c3 c5 c6 c7
      unfold St.moved at c0 c4
      go_wp2_with fail
      go_roundw
      case measure => simp [intOf]; omega
      case rel => exact ⟨k + 1, by omega, by go_num, (hbel.setCell (by simp) _).setCell (by simp) _, by rw [HV.out]; exact step_cells v w2.heap.size kk ww wh Hrow.out⟩
    · have hk64 : k = 64 := by omega
      have hLl : (kRound.zip (sched l)).length = 64 := by rw [List.length_zip, sched_length]; rfl
      have hblk : s.add (rounds ((kRound.zip (sched l)).take k) s) = blockSt s l := by rw [hk64, List.take_of_length_le (by omega)]; rfl
      have hvlt := rounds_lt ((kRound.zip (sched l)).take k) s hs
      generalize rounds ((kRound.zip (sched l)).take k) s = v at hblk hrow hvlt
      have HB := Lib.hid hblk
      have Hrow := Lib.hid hrow
      clear hblk hLl hrow hk64
      have hw12 : Gr w w2 := Gr.trans (show Gr w w1 from hw1) hG2
      have hbh2 : bh < w2.heap.size := (Array.getElem?_eq_some_iff.1 hHh.out).1
      have hU : Upd bh w wr := Upd.of_gr (hw12.trans (show Gr w2 wr from hbel))
      have Hh := Lib.hid ((hbel.block bh hbh2).trans hHh.out)
      have hvh : w2.heap.size ≠ bh := by omega
      have Hsz : Hid (w.heap.size ≤ w2.heap.size) := Lib.hid hw12.size
      clear hw12 hbel
      go_wp2_with fail
      go_loopw [82, 12] (fun i _ wr => ∃ j : Nat, j ≤ 8 ∧ i = .int .i64 j ∧ Upd bh w wr ∧ Hid (wr.heap[bh]? = some (.cells (hC s v j).toArray 158 (0, 0))) ∧ Hid (wr.heap[w2.heap.size]? = some (.cells (stC v).toArray 158 (0, 0)))) (fun i _ _ => 8 - (intOf i).toNat)
      case atStart => exact ⟨0, Nat.zero_le _, rfl, hU, Hh, Hrow⟩
      clear hU Hh Hrow
      case round =>
        obtain ⟨j, hj, rfl, hU, Hh, Hrow⟩ := hrel
        by_cases hlt8 : j < 8
        · have c0 := (cell_of_row _ bh j _ _ _ Hh.out).trans ((List.getElem?_toArray).trans (hC_get s v j hlt8))
          have c1 := (cell_of_row _ w2.heap.size j _ _ _ Hrow.out).trans ((List.getElem?_toArray).trans (stC_list v j hlt8))
          have HS : Hid ((hC s v j).toArray.setIfInBounds j (.int .u32 (((s.list.getD j 0 : Nat) + (v.list.getD j 0 : Nat) : Int) % 4294967296)) = (hC s v (j + 1)).toArray) := Lib.hid (hC_set s v j hlt8)
          generalize s.list.getD j 0 = sj at c0 HS
          generalize v.list.getD j 0 = vj at c1 HS
          have j0 : (0 : Int) ≤ (j : Int) := by omega
          have j8 : (j : Int) < 8 := by omega
          have cf : wr.frozen? ⟨bh, j, none⟩ = false := frozen_of_row _ _ _ _ _ Hh.out
          go_upto_region 14 with fail
          go_region
          go_wp2_with fail
          go_roundw
          case measure => simp [intOf]; omega
          case rel =>
            have hU1 : Upd bh w (wr.setCell ⟨bh, j, none⟩ (.int .u32 (((sj : Int) + (vj : Int)) % 4294967296))).drew := (hU.setCell j _).gr (Gr.drew _)
            have Hh1 : (wr.setCell ⟨bh, j, none⟩ (.int .u32 (((sj : Int) + (vj : Int)) % 4294967296))).drew.heap[bh]? = some (.cells (hC s v (j + 1)).toArray 158 (0, 0)) := (heap_setCell_drew _ _ _ _ _ _ Hh.out).trans (by rw [HS.out])
            exact ⟨j + 1, by omega, by go_num, hU1, Lib.hid Hh1, Lib.hid ((heap_setCell_other _ _ _ _ hvh).trans Hrow.out)⟩
        · have hj8 : j = 8 := by omega
          have Hh8 : Hid (wr.heap[bh]? = some (.cells (stC (blockSt s l)).toArray 158 (0, 0))) := Lib.hid (by rw [Hh.out, hj8, hC_eight, HB.out])
          clear Hh Hrow
          go_wp2_with fail
          go_end0
          exact ⟨rfl, hU, Hh8.out⟩
end Go.Proofs.YtaoggehdkddgeaaGreatDoor
