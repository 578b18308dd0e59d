/- The contract of the digest's bytes, for the proofs of package digest. -/
import Derived.Test.YtaoggehdkddgeaaGreatDoorShaC
import Derived.Test.YtaoggehdkddgeaaGreatDoorOwn
import Derived.Lib.SlBytesRow
namespace Go.Proofs.YtaoggehdkddgeaaGreatDoor
open Go.RowKit

/-- an array of n bytes whose first ones are given -/
def byteCells (n : Nat) (l : List UInt8) : Array Value := ((l ++ List.replicate (n - l.length) 0).map fun x : UInt8 => Value.int .u8 (x.toNat : Int)).toArray
theorem byteCells_set (n : Nat) (l : List UInt8) (x : UInt8) (h : l.length < n) : (byteCells n l).setIfInBounds l.length (.int .u8 (x.toNat : Int)) = byteCells n (l ++ [x]) := by
  simp only [byteCells, List.setIfInBounds_toArray, List.map_append]
  congr 1
  have e : n - l.length = (n - (l ++ [x]).length) + 1 := by simp; omega
  rw [e, List.replicate_succ, List.map_cons, List.set_append_right _ _ (by simp)]
  simp
theorem byteCells_get0 (n : Nat) (l : List UInt8) (i : Nat) (h : l.length ≤ i) (hi : i < n) : (byteCells n l)[i]? = some (.int .u8 0) := by
  simp [byteCells, List.getElem?_append, Nat.not_lt.2 h, show i - l.length < n - l.length by omega]
theorem flat_get : ∀ (l : List Nat) (j k : Nat), k < 4 → (l.flatMap wordBytes)[4 * j + k]? = (l[j]?).bind fun x => (wordBytes x)[k]? := by
  intro l
  induction l with
  | nil => intro j k _; simp
  | cons x l ih =>
    intro j k hk
    cases j with
    | zero => simp only [List.flatMap_cons, Nat.mul_zero, Nat.zero_add]; rw [List.getElem?_append_left (by simpa [wordBytes] using hk)]; rfl
    | succ j =>
      rw [List.flatMap_cons, List.getElem?_append_right (by simp [wordBytes]; omega), show 4 * (j + 1) + k - (wordBytes x).length = 4 * j + k by simp [wordBytes]; omega, ih j k hk]
      rfl
theorem stBytes_take (s : St) (j k : Nat) (hj : j < 8) (hk : k < 4) : (stBytes s).take (4 * j + k + 1) = (stBytes s).take (4 * j + k) ++ [UInt8.ofNat (s.list.getD j 0 / 2 ^ (24 - 8 * k))] := by
  have hl : (stBytes s).length = 32 := by simp [stBytes, St.list, wordBytes]
  have hg := flat_get s.list j k hk
  have hsl : j < s.list.length := hj
  rw [List.getElem?_eq_getElem hsl, Option.bind_some] at hg
  rw [List.take_succ_eq_append_getElem (by omega)]
  congr 2
  have h2 : (stBytes s)[4 * j + k]? = (wordBytes s.list[j])[k]? := hg
  rw [List.getElem?_eq_getElem (by omega)] at h2
  have h3 : (wordBytes s.list[j])[k]? = some (UInt8.ofNat (s.list.getD j 0 / 2 ^ (24 - 8 * k))) := by
    have : s.list.getD j 0 = s.list[j] := by simp [List.getElem?_eq_getElem hsl]
    rw [this]
    match k, hk with
    | 0, _ => rfl
    | 1, _ => rfl
    | 2, _ => rfl
    | 3, _ => simp [wordBytes]
  rw [h3] at h2
  exact Option.some.inj h2
theorem stBytes_length (s : St) : (stBytes s).length = 32 := by simp [stBytes, St.list, wordBytes]
theorem byte_walk (x k : Nat) : (x : Int) / 2 ^ k % 256 = ((UInt8.ofNat (x / 2 ^ k)).toNat : Int) := by
  rw [UInt8.toNat_ofNat']
  simp

theorem run_index66 (s : St) (j : Nat) (hj : j < 8) (w : World) :
    (Instr.index 158 (.agg (stC s).toArray) (.int .i64 (j : Int))).run Tryz.prog w = .ok (.int .u32 ((s.list.getD j 0 : Nat) : Int)) w := by
  have hu := run_underlying (P := Tryz.prog) Tryz.underlying158 w
  have hs : ((sizeOf 95).run Tryz.prog w : Result Nat) = .ok 1 w := by kernel_rfl
  have ha : ((isAgg 95).run Tryz.prog w : Result Bool) = .ok false w := by kernel_rfl
  have h1 : (0 : Int) ≤ (j : Int) ∧ (j : Int) < (8 : Nat) := by omega
  have hC := stC_list s j hj
  simp only [Instr.index, asIntOf, Sem.run_bind, Sem.run_pure, Result.andThen_ok, hu, if_pos h1, hs, part, ha, Nat.mul_one, Int.toNat_natCast, List.getElem?_toArray, hC]
  simp

set_option maxRecDepth 100000 in
set_option maxHeartbeats 2000000 in
theorem digest_any (s : St) (w : World) (hs : s.lt) :
    Calls Tryz.prog 70 #[.agg (stC s).toArray] w fun e w' => e = .returned (.string ⟨(stBytes s).toArray⟩) ∧ Gr w w' := by
  go_enter Tryz.func70, Tryz.ntmps70
  go_upto_region 1 with fail
  refine wp_gen (newBlk_alloc w (stC s).toArray 158) ?_
  rintro w1 ⟨hG1, hrow1, hsz1⟩
  have HR1 := Lib.hid hrow1
  have ht66 : Hid ((Tryz.prog.info? 158).map (·.size) = some (stC s).toArray.size) := Lib.hid (size66.trans rfl)
  have Hsz1 := Lib.hid hsz1
  clear hrow1 hsz1
  go_upto_region 2 with fail
  refine wp_gen (F := NewBlk w1 (byteCells 32 []) 223) (newBlk_alloc w1 (byteCells 32 []) 223) ?_
  rintro w2 ⟨hG2, hrow2, hsz2⟩
  have HR2 := Lib.hid hrow2
  have HR12 := Lib.hid (hG2.block HR1.out)
  have Hsz2 := Lib.hid hsz2
  clear hrow2 hsz2
  go_upto_region 3 with ((with_reducible show wpList _ _ _ (⟨some 7, _, _, _, _, _⟩ :: _) _ _); refine wpList_load_row rfl 158 (.tmp 1) rfl w.heap.size rfl 158 (stC s).toArray (0, 0) _ HR12.out Tryz.underlying158 rfl ht66.out ?_; simp only [Act.put, List.setIfInBounds_toArray, List.set_cons_zero, List.set_cons_succ])
  have HI : Hid (∀ (j : Nat), j < 8 → ∀ w', (Instr.index 158 (.agg (stC s).toArray) (.int .i64 (j : Int))).run Tryz.prog w' = .ok (.int .u32 ((s.list.getD j 0 : Nat) : Int)) w') := Lib.hid (fun j hj w' => run_index66 s j hj w')
  have HLT : Hid (∀ j : Nat, s.list.getD j 0 < 4294967296) := Lib.hid (by
    obtain ⟨h1, h2, h3, h4, h5, h6, h7, h8⟩ := hs
    intro j
    match j with
    | 0 => exact h1
    | 1 => exact h2
    | 2 => exact h3
    | 3 => exact h4
    | 4 => exact h5
    | 5 => exact h6
    | 6 => exact h7
    | 7 => exact h8
    | n + 8 => show (0 : Nat) < 4294967296; decide)
  obtain ⟨SC, hSC⟩ : ∃ SC, (stC s).toArray = SC := ⟨_, rfl⟩
  rw [hSC] at HI ⊢
  clear ht66
  go_loopw [8] (fun i wr => ∃ j : Nat, j ≤ 8 ∧ i = .int .i64 j ∧ Below w1.heap.size w1 wr ∧ wr.heap[w1.heap.size]? = some (.cells (byteCells 32 ((stBytes s).take (4 * j))) 223 (0, 0))) (fun i _ => 8 - (intOf i).toNat)
  case atStart => exact ⟨0, Nat.zero_le _, rfl, hG2, HR2.out⟩
  case round =>
    obtain ⟨j, hj, rfl, hbel, hrow⟩ := hrel
    by_cases hlt : j < 8
    · have hidx := HI.out j hlt
      have hxl := HLT.out j
      have HT : Hid (∀ k, k < 4 → (stBytes s).take (4 * j + k + 1) = (stBytes s).take (4 * j + k) ++ [UInt8.ofNat (s.list.getD j 0 / 2 ^ (24 - 8 * k))]) := Lib.hid (fun k hk => stBytes_take s j k hlt hk)
      generalize s.list.getD j 0 = x at hidx hxl HT
      have Hrow := Lib.hid hrow
      clear hrow
      obtain ⟨wo, rfl⟩ : ∃ wo : World, wo = wr := ⟨_, rfl⟩
      go_wp2_with fail
      go_loopw [12, 6] (fun i _ wr => ∃ k : Nat, k ≤ 4 ∧ i = .int .i64 k ∧ Below w1.heap.size w1 wr ∧ Hid (wr.heap[w1.heap.size]? = some (.cells (byteCells 32 ((stBytes s).take (4 * j + k))) 223 (0, 0)))) (fun i _ _ => 4 - (intOf i).toNat)
      case atStart => exact ⟨0, Nat.zero_le _, rfl, hbel, Hrow⟩
      clear hbel Hrow
      case round =>
        obtain ⟨k, hk, rfl, hbel, Hrow⟩ := hrel
        by_cases hlt4 : k < 4
        · have hlen : ((stBytes s).take (4 * j + k)).length = 4 * j + k := by rw [List.length_take, stBytes_length]; omega
          have c0 : wr.cell? ⟨w1.heap.size, 4 * j + k, none⟩ = some (.int .u8 0) := by rw [cell_of_row _ _ _ _ _ _ Hrow.out]; exact byteCells_get0 _ _ _ (by omega) (by omega)
          have cf : wr.frozen? ⟨w1.heap.size, 4 * j + k, none⟩ = false := frozen_of_row _ _ _ _ _ Hrow.out
          have Hset := Lib.hid (byteCells_set 32 ((stBytes s).take (4 * j + k)) (UInt8.ofNat (x / 2 ^ (24 - 8 * k))) (by omega))
          have HL := Lib.hid hlen
          have hTk := Lib.hid (HT.out k hlt4)
          clear hlen
          go_wp2_with fail
          go_roundw
          case measure => simp [intOf]; omega
          case rel =>
            have hh : (wr.setCell ⟨w1.heap.size, 4 * j + k, none⟩ (.int .u8 ((x : Int) / 2 ^ (24 - 8 * k) % 256))).heap[w1.heap.size]? = some (.cells (byteCells 32 ((stBytes s).take (4 * j + (k + 1)))) 223 (0, 0)) := by
              rw [heap_setCell_same _ _ _ _ _ _ Hrow.out, byte_walk, ← Nat.add_assoc, hTk.out, ← Hset.out, HL.out]
            exact ⟨k + 1, by omega, by go_num, hbel.setCell (Nat.le_refl _) _, Lib.hid hh⟩
        · have hk4 : k = 4 := by omega
          have Hr := Lib.hid (show wr.heap[w1.heap.size]? = some (.cells (byteCells 32 ((stBytes s).take (4 * (j + 1)))) 223 (0, 0)) by rw [Hrow.out, hk4]; rfl)
          clear Hrow hk4
          go_wp2_with fail
          go_roundw
          case measure => simp [intOf]; omega
          case rel => exact ⟨j + 1, by omega, by go_num, hbel, Hr.out⟩
    · have hj8 : j = 8 := by omega
      have hall : (stBytes s).take (4 * j) = stBytes s := by rw [hj8]; exact List.take_of_length_le (by rw [stBytes_length]; omega)
      rw [hall] at hrow
      have hB : Go.Lib.Bytes wr w1.heap.size 0 ⟨(stBytes s).toArray⟩ := by
        intro i hi
        have hi32 : i < (stBytes s).length := by simpa [ByteArray.size] using hi
        rw [cell_of_row _ _ _ _ _ _ hrow]
        have : (byteCells 32 (stBytes s))[0 + i]? = some (.int .u8 (((stBytes s)[i]'hi32).toNat : Int)) := by
          simp [byteCells, List.getElem?_append, hi32]
        rw [this]; rfl
      have hconv := Go.Lib.run_convert_whole (P := Tryz.prog) wr 73 5 9 Tryz.underlying73 Tryz.underlying5 Tryz.underlying9 w1.heap.size 0 ⟨(stBytes s).toArray⟩ hB 32
      have hsz : (⟨(stBytes s).toArray⟩ : ByteArray).size = 32 := by simp [ByteArray.size, stBytes_length]
      rw [hsz] at hconv
      have HS := Lib.hid hsz
      have HG : Hid (Gr w wr) := Lib.hid (hG1.trans (show Gr w1 wr from hbel))
      clear hB hsz hrow hall hbel
      go_wp2_with fail
      go_ret
      exact ⟨rfl, HG.out⟩
end Go.Proofs.YtaoggehdkddgeaaGreatDoor
