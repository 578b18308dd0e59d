/- Writing strings and numbers to a builder. -/
import Derived.Test.YtakhomofckcckaaGreatDoorTxA
import Derived.Test.YtakhomofckcckaaGreatDoorRrA
namespace Go.Proofs.YtakhomofckcckaaGreatDoor
open Go Go.RowKit Go.Shelf
attribute [local go_sem] gAt gUpon
attribute [local simp] Gr.refl Gr.alloc

/-- a builder that has been written -/
def BldU (K : Nat → Prop) (b : Nat) (v : Value) (l : List UInt8) (w : World) : Prop :=
  w.heap[b]? = some (.cells #[.pointer (some ⟨b, 0, none⟩), v] 102 (0, 0)) ∧ w.ownsRow 0 5 1 v l.length (Lib.byteCells l) ∧ v.ownBlock ≠ some b ∧ ∀ k, K k → k < w.heap.size ∧ k ≠ b ∧ v.ownBlock ≠ some k
theorem BldU.bld {K : Nat → Prop} {b : Nat} {v : Value} {l : List UInt8} {w : World} (h : BldU K b v l w) : Bld K b l w := ⟨_, v, .inr rfl, h.1, h.2.1, h.2.2.1, h.2.2.2⟩
theorem shape_row {w : World} {b : Nat} {cs : Array Value} {T : TypeId} (h : w.heap[b]? = some (.cells cs T (0, 0))) : w.shape? b = some (T, cs.size) := by simp [World.shape?, h]
theorem sizeBld : (Tryz.prog.info? 100).map (·.size) = some 2 := by kernel_rfl
theorem liesBld : liesAt Tryz.prog Tryz.prog.depth 102 (2 / Tryz.prog.cellsOf 102) 0 100 1 = true := by kernel_rfl
set_option maxHeartbeats 1000000 in
set_option maxRecDepth 100000 in
theorem chk_used (b : Nat) (w : World) (h0 : w.cell? ⟨b, 0, none⟩ = some (.pointer (some ⟨b, 0, none⟩))) :
    Calls Tryz.prog 136 #[.pointer (some ⟨b, 0, none⟩)] w fun e w' => e = .returned (.tuple #[]) ∧ w' = w := by
  obtain ⟨j, hj, _⟩ := Option.map_eq_some_iff.1 sizeBld
  have HJ := Lib.hid hj
  clear hj
  go_enter Tryz.func136, Tryz.ntmps136
  go_wp2
  rw [Lib.run_neq_ptr_same w _ Tryz.underlying98 HJ.out]
  go_wp2
  go_end0
  exact ⟨rfl, rfl⟩
set_option maxHeartbeats 1000000 in
set_option maxRecDepth 100000 in
theorem chk_fresh (b : Nat) (w : World) (h0 : w.cell? ⟨b, 0, none⟩ = some (.pointer none)) (hsh : w.shape? b = some (102, 2)) (hfz : w.frozen? ⟨b, 0, none⟩ = false) :
    Calls Tryz.prog 136 #[.pointer (some ⟨b, 0, none⟩)] w fun e w' => e = .returned (.tuple #[]) ∧ w' = w.setCell ⟨b, 0, none⟩ (.pointer (some ⟨b, 0, none⟩)) := by
  obtain ⟨j, hj, hjs⟩ := Option.map_eq_some_iff.1 sizeBld
  have HJ := Lib.hid hj
  have HJS := Lib.hid hjs
  clear hj hjs
  go_enter Tryz.func136, Tryz.ntmps136
  go_wp2
  rw [Lib.run_to_unsafe w ⟨b, 0, none⟩ Tryz.underlying98 Tryz.underlying186 HJ.out (by rw [HJS.out]; decide) hsh (Nat.zero_lt_succ 1)]
  simp only [Result.andThen]
  rw [Oper.upon_value]
  go_wp2
  rw [run_callFunc_extern Tryz.func142 (by kernel_rfl) (by kernel_rfl) (by kernel_rfl) (e := Extern.AbiNoEscape.same) (by kernel_rfl)]
  rw [Lib.run_noEscape]
  simp only [Result.andThen]
  rw [Oper.upon_value]
  go_wp2
  rw [Lib.run_from_unsafe w ⟨b, 0, none⟩ Tryz.underlying186 Tryz.underlying98 HJ.out hsh liesBld]
  simp only [Result.andThen]
  rw [Oper.upon_value]
  go_wp2
  go_end0
  exact ⟨rfl, rfl⟩
theorem chk_bld (K : Nat → Prop) (b : Nat) (l : List UInt8) (w : World) (h : Bld K b l w) :
    Calls Tryz.prog 136 #[.pointer (some ⟨b, 0, none⟩)] w fun e w' => e = .returned (.tuple #[]) ∧ ∃ v, BldU K b v l w' ∧ Kpt K w w' := by
  obtain ⟨p, v, hp, hb, ho, hn, hk⟩ := h
  have h0 : w.cell? ⟨b, 0, none⟩ = some p := by rw [cell_of_row _ _ _ _ _ _ hb]; rfl
  rcases hp with rfl | rfl
  · refine (chk_fresh b w h0 (shape_row hb) (frozen_of_row _ _ _ _ _ hb)).mono ?_
    rintro e w' ⟨rfl, rfl⟩
    have hc : Chg (some b) w (w.setCell ⟨b, 0, none⟩ (.pointer (some ⟨b, 0, none⟩))) := setCells_chg b [.pointer (some ⟨b, 0, none⟩)] 0 w
    refine ⟨rfl, v, ⟨by rw [heap_setCell_same _ _ _ _ _ _ hb]; rfl, row_block ho (fun k hkv => ?_), hn, fun k hkk => ?_⟩, Kpt.of_chg hc (fun k hkk => ⟨(hk k hkk).1, fun e => by injection e with e; exact (hk k hkk).2.1 e⟩)⟩
    · exact hc.at_ (row_lt ho hkv) (fun e => by injection e with e; subst e; exact hn hkv)
    · exact ⟨Nat.lt_of_lt_of_le (hk k hkk).1 hc.size, (hk k hkk).2⟩
  · refine (chk_used b w h0).mono ?_
    rintro e w' ⟨rfl, rfl⟩
    exact ⟨rfl, v, ⟨hb, ho, hn, hk⟩, Kpt.refl _ _⟩
theorem freeze_other (w : World) (p : Addr) (n k : Nat) (h : k ≠ p.block) : (w.freeze p n).heap[k]? = w.heap[k]? := by
  unfold World.freeze
  split
  · rfl
  · simp only [Array.getElem?_modify]
    rw [if_neg (by omega)]
theorem infoByteS : (Tryz.prog.info? 5).map (·.size) = some 1 := by kernel_rfl
set_option maxHeartbeats 2000000 in
set_option maxRecDepth 100000 in
/-- the string of a builder that holds a byte -/
theorem string_bld (K : Nat → Prop) (b : Nat) (l : List UInt8) (w : World) (h : Bld K b l w) (h0 : l ≠ []) :
    Calls Tryz.prog 58 #[.pointer (some ⟨b, 0, none⟩)] w fun e w' => e = .returned (.string ⟨l.toArray⟩) ∧ Kpt K w w' := by
  obtain ⟨p, v, hp, hbk, hown, hn, hk⟩ := h
  have hl0 : l.length ≠ 0 := by simpa using h0
  obtain ⟨g, cap, cur, rfl, hbg, hg, hnc, hcm, hcs, htake⟩ : ∃ g cap cur, v = .slice (some ⟨g, 0, none⟩) l.length cap ∧ 0 ≤ g ∧ w.heap[g]? = some (.cells cur 5 (0, 0)) ∧ l.length ≤ cap ∧ cap ≤ maxLen ∧ cur.size = cap * 1 ∧ cur.toList.take (l.length * 1) = Lib.byteCells l := by
    rcases hown.2 with ⟨_, hz⟩ | ⟨g, cap, cur, hv, r⟩
    · exact absurd hz hl0
    · exact ⟨g, cap, cur, hv, r⟩
  have c1 : w.drew.cell? ⟨b, 1, none⟩ = some (.slice (some ⟨g, 0, none⟩) l.length cap) := by
    have : w.drew.heap[b]? = some (.cells #[p, .slice (some ⟨g, 0, none⟩) l.length cap] 102 (0, 0)) := hbk
    rw [Lib.cell_of_heap this]; rfl
  have hSD : (Builtin.unsafeSliceData_ #[62] 145 #[.slice (some ⟨g, 0, none⟩) l.length cap]).run Tryz.prog w.drew = .ok (.pointer (some ⟨g, 0, none⟩)) w.drew :=
    Lib.run_unsafeSliceData_row _ _ _ _ _ _ (by omega)
  have hUS : (Builtin.unsafeString_ #[145, 3] 9 #[.pointer (some ⟨g, 0, none⟩), .int .i64 l.length]).run Tryz.prog w.drew = .ok (.string ⟨l.toArray⟩) (w.drew.freeze ⟨g, 0, none⟩ l.length) := by
    refine Lib.run_unsafeString_row w.drew 145 3 9 5 Tryz.underlying145 Tryz.Builder_Extra_156.cellsByte g cur.size (by have hg' : w.drew.heap[g]? = some (.cells cur 5 (0, 0)) := hg; simp [World.shape?, hg']) l h0 (by omega) (by unfold maxLen at hcm; omega) ?_
    intro j x hx
    have := hown.cells (g := g) rfl j (.int .u8 x.toNat) (by simp [Lib.byteCells, hx])
    exact this
  have HK : Hid (Kpt K w (w.drew.freeze ⟨g, 0, none⟩ l.length)) := Lib.hid (by
    have hb := Lib.below_freeze (Below.drew (Below.refl g w)) (p := ⟨g, 0, none⟩) (Nat.le_refl g) l.length
    refine ⟨hb.os, hb.tape, hb.output, hb.size, fun k hkk => ?_⟩
    obtain ⟨h1, h2, h3⟩ := hk k hkk
    exact freeze_other w.drew ⟨g, 0, none⟩ l.length k (fun e => h3 (by simp [Value.ownBlock, e])))
  clear hown hn hk hp hbk hbg hg hnc hcm hcs htake
  go_enter Tryz.func58, Tryz.ntmps58
  go_wp2
  go_region
  all_goals (go_wp2; go_ret; exact ⟨rfl, HK.out⟩)
theorem infoU8B : (Tryz.prog.info? 5).map (fun i => (i.zero, i.size, i.bytes)) = some (some (.int .u8 0), 1, 1) := by kernel_rfl
theorem byteCells_app (l : List UInt8) (s : ByteArray) : Lib.byteCells (l ++ s.data.toList) = Lib.byteCells l ++ Lib.strCells s := by
  rw [Lib.byteCells_append, Lib.strCells_eq]
theorem len_app (l : List UInt8) (s : ByteArray) : (l ++ s.data.toList).length = l.length + s.size := by
  rw [List.length_append, Array.length_toList]; rfl
set_option maxRecDepth 100000 in
set_option maxHeartbeats 2000000 in
theorem write_bld (K : Nat → Prop) (b : Nat) (l : List UInt8) (s : ByteArray) (w : World) (h : Bld K b l w) (hlen : l.length + s.size ≤ 1000000000) :
    Calls Tryz.prog 117 #[.pointer (some ⟨b, 0, none⟩), .string s] w fun e w' => e = .returned (.tuple #[.int .i64 s.size, .nilIface]) ∧ Bld K b (l ++ s.data.toList) w' ∧ Kpt K w w' := by
  obtain ⟨i0, hi, hz0, hz1, hz2⟩ := info_parts infoU8B
  have HI := Lib.hid hi
  have HI0 := Lib.hid hz0
  have HI1 := Lib.hid hz1
  have HI2 := Lib.hid hz2
  have HB := Lib.hid (chk_bld K b l w h)
  clear hi hz0 hz1 hz2 h
  go_enter Tryz.func117, Tryz.ntmps117
  go_wp2_with fail
  refine HB.out.mono ?_
  rintro e w1 ⟨rfl, v, hu, hk1⟩
  obtain ⟨hb, hown, hn, hkk⟩ := hu
  have c0 : w1.cell? ⟨b, 0, none⟩ = some (.pointer (some ⟨b, 0, none⟩)) := by rw [cell_of_row _ _ _ _ _ _ hb]; rfl
  have c1 : w1.cell? ⟨b, 1, none⟩ = some v := by rw [cell_of_row _ _ _ _ _ _ hb]; rfl
  have HR := Lib.hid hb
  have HO := Lib.hid hown
  have HN := Lib.hid hn
  have HKK := Lib.hid hkk
  have HK1 := Lib.hid hk1
  clear hb hown hn hkk hk1 HB
  go_wp2_with ((with_reducible show wpList _ _ _ (⟨some 14, _, _, _, _, _⟩ :: _) _ _); refine wpList_append_bld _ rfl (.tmp 12) (.tmp 13) 62 9 rfl 5 i0 Tryz.underlying62 Tryz.underlying9 HI.out HI0.out HI1.out HI2.out v l.length (Lib.byteCells l) rfl HO.out s rfl ?c3 ?c4 ?_)
  case c3 => unfold maxLen; omega
  case c4 => omega
  intro v' w2 hown' hgrow hblk
  have hlt : b < w1.heap.size := (Array.getElem?_eq_some_iff.1 HR.out).1
  have hb2 : w2.heap[b]? = some (.cells #[.pointer (some ⟨b, 0, none⟩), v] 102 (0, 0)) := (hgrow.block b hlt (fun e => HN.out e.symm)).trans HR.out
  have d0 : w2.cell? ⟨b, 0, none⟩ = some (.pointer (some ⟨b, 0, none⟩)) := by rw [cell_of_row _ _ _ _ _ _ hb2]; rfl
  have d1 : w2.cell? ⟨b, 1, none⟩ = some v := by rw [cell_of_row _ _ _ _ _ _ hb2]; rfl
  have f1 : w2.frozen? ⟨b, 1, none⟩ = false := frozen_of_row _ _ _ _ _ hb2
  obtain ⟨ao, n', cap, rfl⟩ : ∃ ao n' cap, v' = .slice ao n' cap := by
    rcases hown'.2 with ⟨hv, _⟩ | ⟨g, cap, cur, hv, _⟩
    · exact ⟨_, _, _, hv⟩
    · exact ⟨_, _, _, hv⟩
  have hc : Chg (some b) w2 (w2.setCell ⟨b, 1, none⟩ (.slice ao n' cap)) := setCells_chg b [.slice ao n' cap] 1 w2
  have hne2 : (Value.slice ao n' cap).ownBlock ≠ some b := fun e => by
    rcases hblk b e with h | h
    · exact HN.out h
    · omega
  have HFin : Hid (Bld K b (l ++ s.data.toList) (w2.setCell ⟨b, 1, none⟩ (.slice ao n' cap)) ∧ Kpt K w (w2.setCell ⟨b, 1, none⟩ (.slice ao n' cap))) := Lib.hid (by
    refine ⟨⟨.pointer (some ⟨b, 0, none⟩), .slice ao n' cap, .inr rfl, by rw [heap_setCell_same _ _ _ _ _ _ hb2]; rfl, ?_, hne2, fun k hk => ?_⟩, HK1.out.trans ⟨?_, ?_, ?_, ?_, fun k hk => ?_⟩⟩
    · rw [byteCells_app, len_app]
      exact row_block hown' (fun k hk => hc.at_ (row_lt hown' hk) (fun e => by injection e with e; subst e; exact hne2 hk))
    · obtain ⟨h1, h2, h3⟩ := HKK.out k hk
      refine ⟨Nat.lt_of_lt_of_le h1 (Nat.le_trans hgrow.size hc.size), h2, fun e => ?_⟩
      rcases hblk k e with h | h
      · exact h3 h
      · omega
    · exact hc.1.trans hgrow.os
    · exact hc.2.1.trans hgrow.tape
    · exact hc.2.2.1.trans hgrow.output
    · exact Nat.le_trans hgrow.size hc.size
    · obtain ⟨h1, h2, h3⟩ := HKK.out k hk
      exact (hc.at_ (Nat.lt_of_lt_of_le h1 hgrow.size) (fun e => by injection e with e; exact h2 e)).trans (hgrow.block k h1 (fun e => h3 e.symm)))
  clear hown' hgrow hblk hc hne2 hb2 HR HO HN HKK HK1 c0 c1
  go_wp2_with fail
  go_ret2
  exact ⟨rfl, HFin.out⟩
theorem putString_any (s : ByteArray) (w : World) (hs : s.size ≤ 65536) :
    Calls Tryz.prog 118 #[.string s] w fun e w' => e = .returned (.tuple #[.string (numB s.size ++ s), .int .i64 0]) ∧ Gr w w' := by
  have HP := Lib.hid (putInt_any s.size (by omega) w)
  have hn := numB_size s.size
  have ha := add_run (numB s.size) s _ rfl (by omega)
  have t1 : decide (65536 < s.size) = false := decide_eq_false (by omega)
  have t1' : decide ((65536 : Int) < (s.size : Int)) = false := decide_eq_false (by omega)
  clear hs hn
  generalize numB s.size ++ s = S at ha ⊢
  go_enter Tryz.func118, Tryz.ntmps118
  go_wp2_with fail
  refine HP.out.mono ?_
  rintro e w1 ⟨rfl, hg⟩
  have HG := Lib.hid hg
  clear hg HP
  go_wp2_with fail
  go_ret2
  exact ⟨rfl, HG.out⟩
theorem text_bld (K : Nat → Prop) (b : Nat) (l : List UInt8) (s : ByteArray) (w : World) (h : Bld K b l w) (hs : s.size ≤ 65536) (hlen : l.length + s.size ≤ 999999000) :
    Calls Tryz.prog 87 #[.pointer (some ⟨b, 0, none⟩), .string s] w fun e w' => e = .returned (.tuple #[]) ∧ Bld K b (l ++ (numB s.size ++ s).data.toList) w' ∧ Kpt K w w' := by
  have hn := numB_size s.size
  have HP := Lib.hid (putString_any s w hs)
  have HW := Lib.hid (fun y (hb : Bld K b l y) => write_bld K b l (numB s.size ++ s) y hb (by rw [ByteArray.size_append]; omega))
  have HB := Lib.hid h
  clear h hn
  generalize numB s.size ++ s = S at HP HW ⊢
  go_enter Tryz.func87, Tryz.ntmps87
  go_wp2_with fail
  refine HP.out.mono ?_
  rintro e w1 ⟨rfl, hg⟩
  have HK : Hid (Kpt K w w1) := Lib.hid (Kpt.of_gr hg (fun k hk => HB.out.lt hk))
  have HB1 := Lib.hid (HB.out.gr hg)
  obtain ⟨p, v, hp, hb, -⟩ := HB1.out
  have c0 : w1.cell? ⟨b, 0, none⟩ = some p := by rw [cell_of_row _ _ _ _ _ _ hb]; rfl
  clear hg HP HB hb hp
  go_wp2_with fail
  refine (HW.out _ HB1.out).mono ?_
  rintro e w2 ⟨rfl, hb2, hk2⟩
  have HB2 := Lib.hid hb2
  have HK2 := Lib.hid (HK.out.trans hk2)
  clear hb2 hk2 HK HB1 HW c0
  go_wp2_with fail
  go_end0
  exact ⟨rfl, HB2.out, HK2.out⟩
set_option maxRecDepth 100000 in
set_option maxHeartbeats 1000000 in
theorem number_bld (K : Nat → Prop) (b : Nat) (l : List UInt8) (n g : Nat) (w : World) (h : Bld K b l w) (hK : K g) (hrow : w.heap[g]? = some (.cells #[.int .i64 (n : Int)] 3 (0, 0))) (hn : n ≤ 4611686018427387903) (hlen : l.length ≤ 999999000) :
    Calls Tryz.prog 86 #[.pointer (some ⟨b, 0, none⟩), .slice (some ⟨g, 0, none⟩) 1 1] w fun e w' => e = .returned (.tuple #[]) ∧ Bld K b (l ++ (numB n).data.toList) w' ∧ Kpt K w w' := by
  have hz := numB_size n
  have HP := Lib.hid (fun y => putInt_any n (by omega) y)
  have HW := Lib.hid (fun y (hb : Bld K b l y) => write_bld K b l (numB n) y hb (by omega))
  have HB := Lib.hid h
  have HR := Lib.hid hrow
  have HKg := Lib.hid hK
  clear h hz hrow hK
  generalize numB n = S at HP HW ⊢
  go_enter Tryz.func86, Tryz.ntmps86
  go_wp2_with fail
  go_loopw [10] (fun v10 W => ∃ i : Nat, i ≤ 1 ∧ v10 = .int .i64 (i : Int) ∧ Hid (Kpt K w W) ∧ Hid ((i = 0 ∧ Bld K b l W) ∨ (i = 1 ∧ Bld K b (l ++ S.data.toList) W))) (fun v10 _ => 1 - (intOf v10).toNat)
  case atStart => exact ⟨0, Nat.zero_le _, rfl, Lib.hid (Kpt.refl _ _), Lib.hid (.inl ⟨rfl, HB.out⟩)⟩
  case round =>
    obtain ⟨i, hi, rfl, HK, HC⟩ := hrel
    by_cases h0 : i = 0
    · subst h0
      have HB1 : Hid (Bld K b l wr) := Lib.hid (by
        rcases HC.out with ⟨_, h⟩ | ⟨h, _⟩
        · exact h
        · omega)
      have hr := HK.out.block HKg.out HR.out
      have c0 : wr.cell? ⟨g, 0, none⟩ = some (.int .i64 (n : Int)) := by rw [cell_of_row _ _ _ _ _ _ hr]; rfl
      clear hr HC HB
      go_wp2_with fail
      refine (HP.out _).mono ?_
      rintro e w1 ⟨rfl, hg⟩
      have HK1 : Hid (Kpt K w w1) := Lib.hid (HK.out.trans (Kpt.of_gr hg (fun k hk => HB1.out.lt hk)))
      have HB2 := Lib.hid (HB1.out.gr hg)
      obtain ⟨p, v, hp, hb, -⟩ := HB2.out
      have d0 : w1.cell? ⟨b, 0, none⟩ = some p := by rw [cell_of_row _ _ _ _ _ _ hb]; rfl
      clear hg HB1 HK hb hp c0
      go_wp2_with fail
      refine (HW.out _ HB2.out).mono ?_
      rintro e w2 ⟨rfl, hb2, hk2⟩
      have HB3 := Lib.hid hb2
      have HK3 := Lib.hid (HK1.out.trans hk2)
      clear hb2 hk2 HK1 HB2 d0
      go_wp2_with fail
      go_roundw
      case rel => exact ⟨1, Nat.le_refl _, by go_num, HK3, Lib.hid (.inr ⟨rfl, HB3.out⟩)⟩
      case measure => simp [intOf]
    · have h1 : i = 1 := by omega
      subst h1
      have HB1 : Hid (Bld K b (l ++ S.data.toList) wr) := Lib.hid (by
        rcases HC.out with ⟨h, _⟩ | ⟨_, h⟩
        · omega
        · exact h)
      clear HC HB
      go_wp2_with fail
      go_end0
      exact ⟨rfl, HB1.out, HK.out⟩
end Go.Proofs.YtakhomofckcckaaGreatDoor
