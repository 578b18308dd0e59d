/- The contract of the schedule of a block, for the proofs of package digest. -/
import Derived.Test.YtaoggehdkddgeaaGreatDoorMA
import Derived.Test.YtaoggehdkddgeaaGreatDoorMB
import Derived.Deep.RegionHeld3
import Derived.Deep.DeepCutAuto
import Derived.Deep.MidRow
import Derived.IntWalk
import Derived.BigRegion
namespace Go.Proofs.YtaoggehdkddgeaaGreatDoor
open Go.RowKit
attribute [local go_sem] gAt gUpon
attribute [local simp] Gr.refl Gr.alloc

/-- an array of n words whose first ones are given -/
def wordCells (n : Nat) (l : List Nat) : Array Value := ((l ++ List.replicate (n - l.length) 0).map fun x : Nat => Value.int .u32 (x : Int)).toArray
theorem wordCells_size (n : Nat) (l : List Nat) (h : l.length ≤ n) : (wordCells n l).size = n := by simp [wordCells]; omega
theorem wordCells_get (n : Nat) (l : List Nat) (i : Nat) (h : i < l.length) : (wordCells n l)[i]? = some (.int .u32 ((l.getD i 0 : Nat) : Int)) := by
  simp [wordCells, List.getElem?_append, h]
theorem wordCells_get0 (n : Nat) (l : List Nat) (i : Nat) (h : l.length ≤ i) (hi : i < n) : (wordCells n l)[i]? = some (.int .u32 0) := by
  simp [wordCells, List.getElem?_append, Nat.not_lt.2 h, show i - l.length < n - l.length by omega]
theorem wordCells_set (n : Nat) (l : List Nat) (x : Nat) (h : l.length < n) :
    (wordCells n l).setIfInBounds l.length (.int .u32 (x : Int)) = wordCells n (l ++ [x]) := by
  simp only [wordCells, List.setIfInBounds_toArray, List.map_append]
  congr 1
  have e : n - l.length = (n - (l ++ [x]).length) + 1 := by simp; omega
  rw [e, List.replicate_succ, List.map_cons, List.set_append_right _ _ (by simp)]
  simp

/-- the cells of a byte slice -/
def BytesAt (w : World) (b off : Nat) (l : List UInt8) : Prop := ∀ i, i < l.length → w.cell? ⟨b, off + i, none⟩ = some (.int .u8 ((bt l i : Nat) : Int))
theorem BytesAt.below {w w' : World} {B b off : Nat} {l : List UInt8} (h : BytesAt w b off l) (hb : Below B w w') (hB : b < B) : BytesAt w' b off l :=
  fun i hi => (hb.cell (p := ⟨b, off + i, none⟩) hB).trans (h i hi)

/-- a word of four bytes, as the walk spells it -/
theorem word_walk (a b c d : Nat) (ha : a < 256) (hb : b < 256) (hc : c < 256) (hd : d < 256) :
    bits .or .u32 (bits .or .u32 (bits .or .u32 ((a : Int) % 4294967296 * 16777216 % 4294967296) ((b : Int) % 4294967296 * 65536 % 4294967296)) ((c : Int) % 4294967296 * 256 % 4294967296)) ((d : Int) % 4294967296) =
      ((((a * 16777216 ||| b * 65536) ||| c * 256) ||| d : Nat) : Int) := by
  have ea : (a : Int) % 4294967296 * 16777216 % 4294967296 = ((a * 16777216 : Nat) : Int) := by omega
  have eb : (b : Int) % 4294967296 * 65536 % 4294967296 = ((b * 65536 : Nat) : Int) := by omega
  have ec : (c : Int) % 4294967296 * 256 % 4294967296 = ((c * 256 : Nat) : Int) := by omega
  have ed : (d : Int) % 4294967296 = (d : Int) := by omega
  have h1 := or_lt (a * 16777216) (b * 65536) (by omega) (by omega)
  have h2 := or_lt _ (c * 256) h1 (by omega)
  rw [ea, eb, ec, ed, or_u32 _ _ (by omega) (by omega), or_u32 _ _ h1 (by omega), or_u32 _ _ h2 (by omega)]

theorem heap_setCell_drew (w : World) (g i : Nat) (cs : Array Value) (t : TypeId) (v : Value) (hg : w.heap[g]? = some (.cells cs t (0, 0))) :
    (w.setCell ⟨g, i, none⟩ v).drew.heap[g]? = some (.cells (cs.setIfInBounds i v) t (0, 0)) := heap_setCell_same w g i cs t v hg

/-- the next word, as the walk spells it -/
theorem next_walk (a b c d : Nat) (ha : a < 4294967296) (hd : d < 4294967296) :
    ((b : Int) + bits .xor .u32 ((rot a 7 ^^^ rot a 18 : Nat) : Int) ((a : Int) / 8) + (c : Int) + bits .xor .u32 ((rot d 17 ^^^ rot d 19 : Nat) : Int) ((d : Int) / 1024)) % 4294967296 =
      ((b + (rot a 7 ^^^ rot a 18 ^^^ a / 8) + c + (rot d 17 ^^^ rot d 19 ^^^ d / 1024)) % 4294967296 : Nat) := by
  have e1 : (a : Int) / 8 = ((a / 8 : Nat) : Int) := by omega
  have e2 : (d : Int) / 1024 = ((d / 1024 : Nat) : Int) := by omega
  rw [e1, e2, xor_u32 _ _ (xor_lt _ _ (rot_lt _ _ ha) (rot_lt _ _ ha)) (by omega), xor_u32 _ _ (xor_lt _ _ (rot_lt _ _ hd) (rot_lt _ _ hd)) (by omega)]
  omega
theorem schedule_step2 {W W' : List Nat} {m : Nat} (hm : m < 64) (hl : W.length = m) {w1 : World} {g : Nat} {v : Value} (hv : v = .int .u32 ((nextW W : Nat) : Int)) (hW : W' = W ++ [nextW W])
    (hg : w1.heap[g]? = some (.cells (wordCells 64 W) 220 (0, 0))) :
    (w1.setCell ⟨g, m, none⟩ v).heap[g]? = some (.cells (wordCells 64 W') 220 (0, 0)) := by
  subst hl
  rw [heap_setCell_same _ _ _ _ _ _ hg, hv, wordCells_set 64 W _ hm, hW]
/-- the first loop of the schedule: what one round leaves -/
theorem schedule_step1 {l : List UInt8} {k : Nat} (hk : k < 16) {wr : World} {g : Nat} {v : Value} (hv : v = .int .u32 ((word l k : Nat) : Int))
    (hg : wr.heap[g]? = some (.cells (wordCells 64 ((first16 l).take k)) 220 (0, 0))) :
    (wr.setCell ⟨g, k, none⟩ v).drew.heap[g]? = some (.cells (wordCells 64 ((first16 l).take (k + 1))) 220 (0, 0)) := by
  have hlen : ((first16 l).take k).length = k := by simp [first16_length]; omega
  have hset := wordCells_set 64 ((first16 l).take k) (word l k) (by omega)
  rw [hlen] at hset
  rw [heap_setCell_drew _ _ _ _ _ _ hg, hv, hset]
  have : (first16 l).take (k + 1) = (first16 l).take k ++ [word l k] := by
    rw [List.take_succ_eq_append_getElem (by rw [first16_length]; omega)]; simp [first16]
  rw [this]

set_option maxRecDepth 100000 in
set_option maxHeartbeats 8000000 in
theorem schedule_any (l : List UInt8) (b off c : Nat) (w : World) (hl : l.length = 64) (hb : BytesAt w b off l) (hbB : b < w.heap.size) :
    Calls Tryz.prog 141 #[.slice (some ⟨b, off, none⟩) 64 c] w fun e w' => e = .returned (.agg (wordCells 64 (sched l))) ∧ Below w.heap.size w w' := by
  go_enter Tryz.func141, Tryz.ntmps141
  go_wp2
  go_loopw [3, 7] (fun _ i wr => ∃ k : Nat, k ≤ 16 ∧ i = .int .i64 k ∧ wr.heap[w.heap.size]? = some (.cells (wordCells 64 ((first16 l).take k)) 220 (0, 0)) ∧ Below w.heap.size w wr) (fun _ i _ => 16 - (intOf i).toNat)
  case atStart => exact ⟨0, Nat.zero_le _, rfl, heap_alloc_new _ _, (Below.refl _ _).alloc (Nat.le_refl _) _⟩
  case round =>
    obtain ⟨k, hk, rfl, hrow, hbel⟩ := hrel
    by_cases hlt : k < 16
    · have hB := hb.below hbel hbB
      have c0 := hB (4 * k) (by omega)
      have c1 := hB (4 * k + 1) (by omega)
      have c2 := hB (4 * k + 2) (by omega)
      have c3 := hB (4 * k + 3) (by omega)
      have hcell : wr.cell? ⟨w.heap.size, k, none⟩ = some (.int .u32 0) := by rw [cell_of_row _ _ _ _ _ _ hrow]; exact wordCells_get0 _ _ _ (by simp [first16_length]; omega) (by omega)
      have hfr : wr.frozen? ⟨w.heap.size, k, none⟩ = false := frozen_of_row _ _ _ _ _ hrow
      have HR := Lib.hid hrow
      clear hrow hB hb
      have e0 : IntKind.i64.wrap (4 * (k : Int)) = 4 * (k : Int) := IntWalk.i64_in _ (by omega)
      have e1 : IntKind.i64.wrap (4 * (k : Int) + 1) = 4 * (k : Int) + 1 := IntWalk.i64_in _ (by omega)
      have e2 : IntKind.i64.wrap (4 * (k : Int) + 2) = 4 * (k : Int) + 2 := IntWalk.i64_in _ (by omega)
      have e3 : IntKind.i64.wrap (4 * (k : Int) + 3) = 4 * (k : Int) + 3 := IntWalk.i64_in _ (by omega)
      have n0 : (4 * (k : Int)).toNat = 4 * k := by omega
      have n1 : (4 * (k : Int) + 1).toNat = 4 * k + 1 := by omega
      have n2 : (4 * (k : Int) + 2).toNat = 4 * k + 2 := by omega
      have n3 : (4 * (k : Int) + 3).toNat = 4 * k + 3 := by omega
      have p0 : 0 ≤ 4 * (k : Int) := by omega
      have p1 : 0 ≤ 4 * (k : Int) + 1 := by omega
      have p2 : 0 ≤ 4 * (k : Int) + 2 := by omega
      have p3 : 0 ≤ 4 * (k : Int) + 3 := by omega
      have kk0 : (0 : Int) ≤ (k : Int) := by omega
      have kk1 : (k : Int) < 64 := by omega
      have q0 : 4 * (k : Int) < 64 := by omega
      have q1 : 4 * (k : Int) + 1 < 64 := by omega
      have q2 : 4 * (k : Int) + 2 < 64 := by omega
      have q3 : 4 * (k : Int) + 3 < 64 := by omega
      go_wp2_with fail
      go_region
      go_wp2_with fail
      go_roundw
      case measure => simp [intOf]; omega
      case rel =>
        refine ⟨k + 1, by omega, by go_num, ?_, ?_⟩
        · exact schedule_step1 hlt (by rw [word_walk _ _ _ _ (bt_lt _ _) (bt_lt _ _) (bt_lt _ _) (bt_lt _ _)]; rfl) HR.out
        · exact (hbel.setCell (by simp) _).drew
    · have hk16 : k = 16 := by omega
      have HR : Hid (wr.heap[w.heap.size]? = some (.cells (wordCells 64 (ext 0 (first16 l))) 220 (0, 0))) := Lib.hid (by rw [hrow, hk16]; simp [ext, List.take_of_length_le, first16_length])
      clear hrow hb
      go_wp2_with fail
      go_loopw [4, 5, 6] (fun i _ _ wr => ∃ m : Nat, 16 ≤ m ∧ m ≤ 64 ∧ i = .int .i64 m ∧ wr.heap[w.heap.size]? = some (.cells (wordCells 64 (ext (m - 16) (first16 l))) 220 (0, 0)) ∧ Below w.heap.size w wr) (fun i _ _ _ => 64 - (intOf i).toNat)
      case atStart => exact ⟨16, Nat.le_refl _, by omega, rfl, HR.out, hbel⟩
      clear hbel HR
      rename_i wrOld
      case round =>
        obtain ⟨m, hm1, hm2, rfl, hrow, hbel⟩ := hrel
        by_cases hlt2 : m < 64
        · have hlen : (ext (m - 16) (first16 l)).length = m := by rw [ext_length, first16_length]; omega
          have hW := ext_lt (m - 16) (first16 l) (fun x hx => by simp [first16] at hx; obtain ⟨i, _, rfl⟩ := hx; exact word_lt l i)
          have hsucc := ext_succ (m - 16) (first16 l)
          rw [show m - 16 + 1 = m + 1 - 16 by omega] at hsucc
          generalize ext (m - 16) (first16 l) = W at hrow hlen hW hsucc
          have gW : ∀ i, W.getD i 0 < 4294967296 := by
            intro i
            by_cases hi : i < W.length
            · rw [List.getD_eq_getElem?_getD, List.getElem?_eq_getElem hi]; exact hW _ (List.getElem_mem hi)
            · rw [List.getD_eq_getElem?_getD, List.getElem?_eq_none (by omega)]; decide
          have hget : ∀ i, i < m → wr.cell? ⟨w.heap.size, i, none⟩ = some (.int .u32 ((W.getD i 0 : Nat) : Int)) := by
            intro i hi; rw [cell_of_row _ _ _ _ _ _ hrow]; exact wordCells_get _ _ _ (by omega)
          have hfr : wr.frozen? ⟨w.heap.size, m, none⟩ = false := frozen_of_row _ _ _ _ _ hrow
          have c15 := hget (m - 15) (by omega)
          have c2 := hget (m - 2) (by omega)
          have c16 := hget (m - 16) (by omega)
          have c7 := hget (m - 7) (by omega)
          have c0 : wr.cell? ⟨w.heap.size, m, none⟩ = some (.int .u32 0) := by rw [cell_of_row _ _ _ _ _ _ hrow]; exact wordCells_get0 _ _ _ (by omega) (by omega)
          have x15 := gW (m - 15); have x2 := gW (m - 2); have x16 := gW (m - 16); have x7 := gW (m - 7)
          have HN : Hid (nextW W = ((W.getD (m - 16) 0) + (rot (W.getD (m - 15) 0) 7 ^^^ rot (W.getD (m - 15) 0) 18 ^^^ (W.getD (m - 15) 0) / 8) + (W.getD (m - 7) 0) + (rot (W.getD (m - 2) 0) 17 ^^^ rot (W.getD (m - 2) 0) 19 ^^^ (W.getD (m - 2) 0) / 1024)) % 4294967296) := Lib.hid (by simp only [nextW, hlen])
          generalize W.getD (m - 15) 0 = w15 at c15 x15 HN
          generalize W.getD (m - 2) 0 = w2 at c2 x2 HN
          generalize W.getD (m - 16) 0 = w16 at c16 x16 HN
          generalize W.getD (m - 7) 0 = w7 at c7 x7 HN
          have HR := Lib.hid hrow; have HL := Lib.hid hlen; have HS := Lib.hid hsucc
          clear hrow hlen hsucc hget gW hW
          have e15 : IntKind.i64.wrap ((m : Int) - 15) = (m : Int) - 15 := IntWalk.i64_in _ (by omega)
          have e2 : IntKind.i64.wrap ((m : Int) - 2) = (m : Int) - 2 := IntWalk.i64_in _ (by omega)
          have e16 : IntKind.i64.wrap ((m : Int) - 16) = (m : Int) - 16 := IntWalk.i64_in _ (by omega)
          have e7 : IntKind.i64.wrap ((m : Int) - 7) = (m : Int) - 7 := IntWalk.i64_in _ (by omega)
          have n15 : ((m : Int) - 15).toNat = m - 15 := by omega
          have n2 : ((m : Int) - 2).toNat = m - 2 := by omega
          have n16 : ((m : Int) - 16).toNat = m - 16 := by omega
          have n7 : ((m : Int) - 7).toNat = m - 7 := by omega
          have p15 : 0 ≤ (m : Int) - 15 := by omega
          have p2 : 0 ≤ (m : Int) - 2 := by omega
          have p16 : 0 ≤ (m : Int) - 16 := by omega
          have p7 : 0 ≤ (m : Int) - 7 := by omega
          have pm : 0 ≤ (m : Int) := by omega
          have r16 : (16 : Int) ≤ (m : Int) := by omega
          have r7 : (7 : Int) ≤ (m : Int) := by omega
          have q15 : (m : Int) - 15 < 64 := by omega
          have q2 : (m : Int) - 2 < 64 := by omega
          have q16 : (m : Int) - 16 < 64 := by omega
          have q7 : (m : Int) - 7 < 64 := by omega
          have qm : (m : Int) < 64 := by omega
          go_wp2_with fail
          go_quiet (fail)
          go_wp2_with fail
          rename_i nq
          have hsz : w.heap.size < wr.heap.size := (Array.getElem?_eq_some_iff.1 HR.out).1
          have F : (wr.drewN nq).cell? ⟨w.heap.size, m - 16, none⟩ = some (.int .u32 (w16 : Int)) ∧ (wr.drewN nq).cell? ⟨w.heap.size, m - 7, none⟩ = some (.int .u32 (w7 : Int)) ∧
            (wr.drewN nq).cell? ⟨w.heap.size, m, none⟩ = some (.int .u32 0) ∧ (wr.drewN nq).frozen? ⟨w.heap.size, m, none⟩ = false ∧ w.heap.size < (wr.drewN nq).heap.size ∧
            Hid ((wr.drewN nq).heap[w.heap.size]? = some (.cells (wordCells 64 W) 220 (0, 0))) ∧ Below w.heap.size w (wr.drewN nq) := ⟨c16, c7, c0, hfr, hsz, HR, below_drewN hbel nq⟩
          clear c16 c7 c0 hfr hsz HR hbel c15 c2
          generalize wr.drewN nq = wq at F ⊢
          obtain ⟨c16, c7, c0, hfr, hsz, HR, hbel⟩ := F
          have hS1 : ∀ n : GrS wq.drew, n.w.cell? ⟨w.heap.size, m - 16, none⟩ = some (.int .u32 (w16 : Int)) := fun n => n.h.cell (w := wq.drew) c16
          have hS2 : ∀ n : GrS wq.drew, n.w.cell? ⟨w.heap.size, m - 7, none⟩ = some (.int .u32 (w7 : Int)) := fun n => n.h.cell (w := wq.drew) c7
          refine region_grow 25 84 (by kernel_rfl) rfl (by kernel_rfl) rfl rfl ?_
          simp only [List.take_succ_cons, List.take_zero, List.drop_succ_cons, List.drop_zero]
          refine seg 6 rfl rfl rfl rfl ?_
          simp only [List.take_succ_cons, List.take_zero, List.drop_succ_cons, List.drop_zero]
          repeat (go_big_quiet_step (fail))
          refine wpQuiet_nil ?_
          intro _
          refine grow_open (NewRow [.int .i64 7, .int .i64 18] 3) rfl rfl rfl rfl (stb_row _ _) (fun w1 hG => ?_) ?_
          · go_simp
            exact newRow_alloc _ _ _ rfl
          refine grow_det1 64 (v := .int .u32 ((rot w15 7 ^^^ rot w15 18 : Nat) : Int)) rfl (by decide) rfl rfl rfl (by decide) rfl rfl rfl ?_ ?_
          · rintro w1 u hG ⟨b1, rfl, hb1⟩
            go_simp
            refine (mixed2 _ 7 18 _ _ (by omega) (by omega) (by decide) (by decide) (cell_of_row _ _ _ _ _ _ hb1) (cell_of_row _ _ _ _ _ _ hb1)).mono ?_
            rintro e w' ⟨rfl, rfl⟩
            exact ⟨by simp, Gr.refl _⟩
          simp only [Act.put, List.setIfInBounds_toArray, List.set_cons_zero, List.set_cons_succ]
          refine seg 10 rfl rfl rfl rfl ?_
          simp only [List.take_succ_cons, List.take_zero, List.drop_succ_cons, List.drop_zero]
          repeat (go_big_quiet_step (fail))
          refine wpQuiet_nil ?_
          intro _
          refine grow_open (NewRow [.int .i64 17, .int .i64 19] 3) rfl rfl rfl rfl (stb_row _ _) (fun w1 hG => ?_) ?_
          · go_simp
            exact newRow_alloc _ _ _ rfl
          refine grow_det1 76 (v := .int .u32 ((rot w2 17 ^^^ rot w2 19 : Nat) : Int)) rfl (by decide) rfl rfl rfl (by decide) rfl rfl rfl ?_ ?_
          · rintro w1 u hG ⟨b1, rfl, hb1⟩
            go_simp
            refine (mixed2 _ 17 19 _ _ (by omega) (by omega) (by decide) (by decide) (cell_of_row _ _ _ _ _ _ hb1) (cell_of_row _ _ _ _ _ _ hb1)).mono ?_
            rintro e w' ⟨rfl, rfl⟩
            exact ⟨by simp, Gr.refl _⟩
          simp only [Act.put, List.setIfInBounds_toArray, List.set_cons_zero, List.set_cons_succ]
          refine seg 5 rfl rfl rfl rfl ?_
          simp only [List.take_succ_cons, List.take_zero, List.drop_succ_cons, List.drop_zero]
          repeat (go_big_quiet_step (fail))
          refine wpQuiet_nil ?_
          intro _
          refine grow_end2 rfl rfl (by decide) (by decide) rfl ?_
          rintro w1 u u2 hG ⟨b1, rfl, hb1⟩ ⟨b2, rfl, hb2⟩
          simp only [Act.put, List.setIfInBounds_toArray, List.set_cons_zero, List.set_cons_succ]
          have d0 := hG.cell (w := wq.drew) c0
          have dfr : w1.frozen? ⟨w.heap.size, m, none⟩ = false := (hG.frozen (w := wq.drew) hsz).trans hfr
          have HR1 : Hid (w1.heap[w.heap.size]? = some (.cells (wordCells 64 W) 220 (0, 0))) := Lib.hid (hG.block (w := wq.drew) HR.out)
          have hbel1 : Below w.heap.size w w1 := (hbel.drew).trans ((show Below wq.drew.heap.size wq.drew w1 from hG).mono (Nat.le_of_lt hsz))
          clear hS1 hS2 hb1 hb2 hG c16 c7 c0 hfr HR hbel
          go_wp2_with fail
          go_roundw
          case measure => simp [intOf]; omega
          case rel =>
            refine ⟨m + 1, by omega, by omega, by go_num, ?_, ?_⟩
            · exact schedule_step2 hlt2 HL.out (by rw [next_walk _ _ _ _ x15 x2, ← HN.out]) HS.out HR1.out
            · exact hbel1.setCell (by simp) _
        · have hm64 : m = 64 := by omega
          have HR : Hid (wr.heap[w.heap.size]? = some (.cells (wordCells 64 (sched l)) 220 (0, 0))) := Lib.hid (by rw [hrow, hm64]; rfl)
          have HZ : Hid ((wordCells 64 (sched l)).size = 64) := Lib.hid (wordCells_size 64 _ (by rw [sched_length]; omega))
          clear hrow
          have ht83 : (Tryz.prog.info? 220).map (·.size) = some 64 := by kernel_rfl
          have HT : Hid ((Tryz.prog.info? 220).map (·.size) = some (wordCells 64 (sched l)).size) := Lib.hid (by rw [HZ.out]; exact ht83)
          have H1 : Hid ((wordCells 64 (sched l)).all (·.oneCell') = true) := Lib.hid (by simp [wordCells, Value.oneCell'])
          clear ht83 HZ
          generalize hCC : wordCells 64 (sched l) = C at HR HT H1
          have HC := Lib.hid hCC
          clear hCC
          go_wp2_with ((with_reducible show wpList _ _ _ (⟨some 83, _, _, _, _, _⟩ :: _) _ _); refine wpList_load_row rfl 220 (.tmp 2) rfl w.heap.size rfl 220 C (0, 0) _ HR.out Tryz.underlying220 rfl HT.out ?_; simp only [Act.put, List.setIfInBounds_toArray, List.set_cons_zero, List.set_cons_succ]; refine wpList_store_row rfl 220 (.tmp 2) (.tmp 83) rfl w.heap.size C rfl rfl 220 C HR.out HT.out rfl H1.out ?_; simp only [Act.put])
          have hg2 := setRow_heap wr w.heap.size C C 220 (0, 0) HR.out
          refine bodyPost_ret (v := .agg C) ?_ rfl ?_
          · refine results_cell_row rfl _ _ w.heap.size 220 C (0, 0) _ ?_ hg2 Tryz.underlying220 rfl HT.out
            rfl
          · exact ⟨by rw [HC.out], hbel.os, hbel.tape, hbel.output, by rw [setRow_size]; exact hbel.size, fun k hk => (setRow_other _ _ _ _ (by omega)).trans (hbel.block k hk)⟩
end Go.Proofs.YtaoggehdkddgeaaGreatDoor
