/- The contracts of the reference digest: Sum, Leaf, Node, Chain. -/
import Derived.Test.YtaoggehdkddgeaaGreatDoorRefB
import Derived.Test.YtaoggehdkddgeaaGreatDoorGNode
import Derived.Test.YtaoggehdkddgeaaGreatDoorRoot
section
namespace Go.Proofs.YtaoggehdkddgeaaGreatDoor
open Go.RowKit Go.Shelf
attribute [local go_sem] gAt gUpon
attribute [local simp] Gr.refl Gr.alloc

theorem stOf_range (P : List UInt8) (k : Nat) : stOf P (List.range (k + 1)) = blockSt (stOf P (List.range k)) ((P.drop (64 * k)).take 64) := by
  rw [List.range_succ, stOf_snoc]
theorem start_row (w : World) : W8 (.slice (some ⟨w.heap.size, 0, none⟩) 8 8) start (w.alloc (.cells (stC start).toArray 95)) :=
  W8.of_row rfl (heap_alloc_new _ _)
theorem bytes4 (x : Nat) : [Value.int .u8 ((x : Int) / 16777216 % 256), .int .u8 ((x : Int) / 65536 % 256), .int .u8 ((x : Int) / 256 % 256), .int .u8 ((x : Int) % 256)] = bC (wordBytes x) := by
  simp [bC, wordBytes, UInt8.toNat_ofNat']
theorem flat_take (l : List Nat) (i : Nat) (h : i < l.length) : (l.take (i + 1)).flatMap wordBytes = (l.take i).flatMap wordBytes ++ wordBytes (l.getD i 0) := by
  rw [list_take_succ l i h, List.flatMap_append]; simp
theorem bC_append (a b : List UInt8) : bC a ++ bC b = bC (a ++ b) := by simp [bC]

set_option maxRecDepth 100000 in
set_option maxHeartbeats 2000000 in
theorem sumR_any (s : ByteArray) (w : World) (hs : s.size ≤ 140737488354000) :
    Calls Tryz.prog 13 #[.string s] w fun e w' => e = .returned (.string (sha s)) ∧ Gr w w' := by
  obtain ⟨i5, hi5, hz5, hsz5, hb5⟩ := info_parts info5
  go_enter Tryz.func13, Tryz.ntmps13
  go_upto_region 2 with fail
  refine wp_gen (F := fun x => Gr w x ∧ Hid (W8 (.slice (some ⟨w.heap.size, 0, none⟩) 8 8) start x)) ⟨Gr.alloc _ _, Lib.hid (start_row w)⟩ ?_
  rintro w1 ⟨hg1, HW1⟩
  go_wp2_with fail
  refine (extended_any s w1 (by omega)).mono ?_
  rintro e w2 ⟨g, off, cap, L, rfl, hL, hO, hg2⟩
  have hmod := padded_mod s.data.toList
  have hplen := padded_length s.data.toList
  rw [show s.data.toList.length = s.size by simp] at hplen
  have hz64 : zeros s.size < 64 := Nat.mod_lt _ (by decide)
  obtain ⟨m, hm⟩ : ∃ m, L = 64 * m := ⟨L / 64, by rw [hL]; omega⟩
  have hmb : L ≤ 140737488355000 := by omega
  have hcap : L ≤ cap ∧ cap ≤ maxLen := by
    obtain ⟨g', off', cap', he, _, h1, h2⟩ := hO.shape (by omega)
    simp at he
    obtain ⟨_, rfl⟩ := he
    exact ⟨h1, h2⟩
  obtain ⟨hcap1, hcap2⟩ := hcap
  have HLm := Lib.hid hm
  have HPl : Hid ((padded s.data.toList).length = 64 * m) := Lib.hid (by rw [← hL, hm])
  have hby : BytesAt w2 g off (padded s.data.toList) := fun i hi => hO.cell i _ (by simp [bC, bt, hi])
  have hgl : g < w2.heap.size := World.block_lt_of_cell? _ _ (hby 0 (by omega))
  have HBy := Lib.hid hby
  have HG2 := Lib.hid (hg1.trans hg2)
  have HW2 := Lib.hid (HW1.out.gr hg2)
  clear hL hO hg1 hg2 HW1 hmod hplen hm hby
  generalize (w.heap.size) = B0 at HW2
  go_wp2_with fail
  go_loopw [3, 5] (fun v3 v5 W => ∃ (k j : Nat) (V3 : Value), k ≤ m ∧ Hid (j = 64 * k) ∧ v5 = .int .i64 (j : Int) ∧ V3 = v3 ∧ Hid (W8 V3 (stOf (padded s.data.toList) (List.range k)) W) ∧ Hid (Gr w2 W)) (fun _ v5 _ => L - (intOf v5).toNat)
  case atStart => exact ⟨0, 0, _, Nat.zero_le _, rfl, rfl, rfl, HW2, Lib.hid (Gr.refl _)⟩
  clear HW2
  case round =>
    obtain ⟨k, j, v3, hk, Hj, rfl, rfl, HW, HG⟩ := hrel
    by_cases hlt : k < m
    · have ht1 : decide (j < L) = true := decide_eq_true (by have := Hj.out; have := HLm.out; omega)
      have hj64 : j + 64 ≤ L := by have := Hj.out; have := HLm.out; omega
      have hj64c : j + 64 ≤ cap := by omega
      have hjc : j < cap := by omega
      have HN := Lib.hid (stOf_range (padded s.data.toList) k)
      have hsub := bytes_sub (fun i hi => HG.out.cell (HBy.out i hi)) k (by rw [HPl.out]; omega)
      rw [← Hj.out] at hsub
      have hch : ((padded s.data.toList).drop j |>.take 64).length = 64 := by rw [List.length_take, List.length_drop, HPl.out]; have := HLm.out; omega
      have HB := Lib.hid (block_any (stOf (padded s.data.toList) (List.range k)) (stOf_lt _ _) _ v3 g (off + j) (cap - j) wr HW.out hch hsub (Nat.lt_of_lt_of_le hgl HG.out.size))
      clear hsub hch HW
      go_wp2_with fail
      refine HB.out.mono ?_
      rintro e w4 ⟨u, rfl, hW4, hg4⟩
      have HG4 := Lib.hid (HG.out.trans hg4)
      have HW4 : Hid (W8 u (stOf (padded s.data.toList) (List.range (k + 1))) w4) := Lib.hid (by rw [HN.out, ← Hj.out]; exact hW4)
      clear hW4 hg4 HG HB HN
      go_wp2_with fail
      go_roundw
      case rel => exact ⟨k + 1, j + 64, _, by omega, Lib.hid (by have := Hj.out; omega), by go_num, rfl, HW4, HG4⟩
      case measure => simp [intOf]; omega
    · have hkm : k = m := by omega
      have ht1 : decide (j < L) = false := decide_eq_false (by have := Hj.out; have := HLm.out; omega)
      have HSh : Hid ((⟨(stBytes (stOf (padded s.data.toList) (List.range k))).toArray⟩ : ByteArray) = sha s) := Lib.hid (by
        rw [hkm]; unfold sha shaL; rw [HPl.out, Nat.mul_div_cancel_left _ (by omega)])
      have hlt8 := stOf_lt (padded s.data.toList) (List.range k)
      generalize stOf (padded s.data.toList) (List.range k) = st at HW HSh hlt8
      have HLT := Lib.hid hlt8
      have HGw := Lib.hid (HG2.out.trans HG.out)
      obtain ⟨gh, oh, ch, rfl, hch1, hch2, hcs⟩ := HW.out
      have HCs := Lib.hid hcs
      obtain ⟨wo, hwo⟩ : ∃ wo, wo = wr := ⟨_, rfl⟩
      rw [← hwo] at HGw HCs
      have HWo : Hid (Gr wo wr) := Lib.hid (by rw [hwo]; exact Gr.refl _)
      clear hcs HW HG HBy HPl HG2 hwo hkm hlt8 hgl
      go_wp2_with fail
      go_loopw [6, 7] (fun v6 v7 W => ∃ (i : Nat) (V6 : Value), i ≤ 8 ∧ v7 = .int .i64 (i : Int) ∧ V6 = v6 ∧ Hid (Own wo.heap.size 1 V6 (4 * i) (bC ((st.list.take i).flatMap wordBytes)) W) ∧ Hid (Gr wo W)) (fun _ v7 _ => 8 - (intOf v7).toNat)
      case atStart => exact ⟨0, _, Nat.zero_le _, rfl, rfl, Lib.hid (Own.nil _ _ _), HWo⟩
      clear HWo
      case round =>
        obtain ⟨i, v6, hi1, rfl, rfl, HO, HG⟩ := hrel
        by_cases hlt2 : i < 8
        · have ci := HG.out.cell (HCs.out i _ (stC_list st i hlt2))
          have HF := Lib.hid (flat_take st.list i hlt2)
          generalize st.list.getD i 0 = x at ci HF
          have hS1 : ∀ n : GrS wr.drew, n.w.cell? ⟨gh, oh + i, none⟩ = some (.int .u32 (x : Int)) := fun n => n.h.cell (w := wr.drew) ci
          clear ci
          go_upto_region 11 with fail
          refine region_grow16 25 56 (by kernel_rfl) rfl (by kernel_rfl) rfl rfl ?_
          simp only [List.take_succ_cons, List.take_zero, List.drop_succ_cons, List.drop_zero]
          refine seg 24 rfl rfl rfl rfl ?_
          simp only [List.take_succ_cons, List.take_zero, List.drop_succ_cons, List.drop_zero]
          repeat (go_big_quiet_step (fail))
          refine wpQuiet_nil ?_
          intro _
          refine grow_open (NewRow (bC (wordBytes x)) 5) rfl rfl rfl rfl (stb_row _ _) (fun w1 hG => ?_) ?_
          · go_simp
            rw [← bytes4]
            exact newRow_alloc _ _ _ rfl
          refine grow_end1 rfl rfl (by decide) ?_
          rintro w8 u hG8 ⟨b2, rfl, hb2⟩
          simp only [Act.put, List.setIfInBounds_toArray, List.set_cons_zero, List.set_cons_succ]
          have hg78 : Gr wr w8 := Gr.trans (Gr.drew wr) hG8
          clear hS1
          go_wp2_with ((with_reducible show wpList _ _ _ (⟨some 53, _, _, _, _, _⟩ :: _) _ _); refine wpList_append_Own rfl (.tmp 28) (.tmp 52) 73 rfl 5 i5 (.int .u8 0) 1 1 Tryz.underlying73 hi5 hz5 hsz5 hb5 rfl (by decide) rfl (HO.out.gr hg78) ⟨b2, 0, none⟩ 4 4 (bC (wordBytes x)) rfl rfl ?hnewsA ?h1cA (by decide) ?b1A ?b2A ?hBA ?_)
          case hnewsA =>
            intro j' u hj
            rw [cell_of_row _ _ _ _ _ _ hb2]; simpa using hj
          case h1cA => intro u hu; simp [bC] at hu; obtain ⟨y, _, rfl⟩ := hu; rfl
          case b1A => unfold maxLen; omega
          case b2A => omega
          case hBA => have := HG.out.size; have := hg78.size; omega
          intro v7 w7' hown hchg _
          have HG7 : Hid (Gr wo w7') := Lib.hid (gr_step' HG.out hg78 hchg (fun g hg => own_ge HO.out hg))
          have HO7 : Hid (Own wo.heap.size 1 v7 (4 * (i + 1)) (bC ((st.list.take (i + 1)).flatMap wordBytes)) w7') := Lib.hid (by
            have h := hown
            rw [bC_append, ← HF.out] at h; exact h)
          clear hown hchg HO HG hb2 hG8 HF
          go_wp2_with fail
          go_roundw
          case rel => exact ⟨i + 1, _, by omega, by go_num, rfl, HO7, HG7⟩
          case measure => simp [intOf]; omega
        · have hi8 : i = 8 := by omega
          have ht2 : decide (i < 8) = false := decide_eq_false hlt2
          have hOF : Own wo.heap.size 1 v6 32 (bC (stBytes st)) wr := by
            have h := HO.out
            rw [hi8, List.take_of_length_le (by simp [St.list])] at h; exact h
          obtain ⟨g6, o6, c6, rfl, _, _, _⟩ := hOF.shape (by omega)
          have hB : Go.Lib.Bytes wr g6 o6 ⟨(stBytes st).toArray⟩ := by
            intro i hi
            have hi32 : i < (stBytes st).length := by simpa [ByteArray.size] using hi
            rw [hOF.cell i (.int .u8 (((stBytes st)[i]'hi32).toNat : Int)) (by simp [bC, hi32])]
            rfl
          have hconv := Go.Lib.run_convert_whole (P := Tryz.prog) wr 73 5 9 Tryz.underlying73 Tryz.underlying5 Tryz.underlying9 g6 o6 ⟨(stBytes st).toArray⟩ hB c6
          have hsz : (⟨(stBytes st).toArray⟩ : ByteArray).size = 32 := by simp [ByteArray.size, stBytes_length]
          rw [hsz] at hconv
          have HGF := Lib.hid (HGw.out.trans HG.out)
          have hi8' : 4 * i = 32 := by omega
          clear hOF HO hB hsz HG hi8
          go_wp2_with fail
          go_ret
          exact ⟨by rw [← HSh.out]; rfl, HGF.out⟩

end Go.Proofs.YtaoggehdkddgeaaGreatDoor
end
section
namespace Go.Proofs.YtaoggehdkddgeaaGreatDoor
open Go.RowKit Go.Shelf
attribute [local go_sem] gAt gUpon
attribute [local simp] Gr.refl Gr.alloc

theorem StrsAt.cut {p : Option Addr} {n cap : Nat} {l : List ByteArray} {w : World} (h : StrsAt (.slice p n cap) l w) (hn : 0 < n) :
    ∃ g off, p = some ⟨g, off, none⟩ ∧ n = l.length ∧ n ≤ cap ∧ cap ≤ maxLen ∧ ∀ k, k ≤ n → StrsAt (.slice (some ⟨g, off, none⟩) k cap) (l.take k) w ∧ StrsAt (.slice (some ⟨g, off + k, none⟩) (n - k) (cap - k)) (l.drop k) w := by
  rcases h with ⟨h, rfl⟩ | ⟨g, off, cap', h, h1, h2, h3⟩
  · injection h; omega
  · injection h with e1 e2 e3
    subst e1 e3 e2
    refine ⟨g, off, rfl, rfl, h1, h2, fun k hk => ⟨.inr ⟨g, off, cap, by rw [List.length_take, Nat.min_eq_left hk], by rw [List.length_take]; omega, h2, ?_⟩, .inr ⟨g, off + k, cap - k, by rw [List.length_drop], by rw [List.length_drop]; omega, by omega, ?_⟩⟩⟩
    · intro j x hj
      rw [List.getElem?_take] at hj
      split at hj
      · exact h3 j x hj
      · cases hj
    · intro j x hj
      rw [List.getElem?_drop] at hj
      rw [Nat.add_assoc]; exact h3 _ x hj
end Go.Proofs.YtaoggehdkddgeaaGreatDoor
end
