/- The contracts of pick of the statements and of the reference. -/
import Derived.Test.YtjnnhhengpinmaaGreatDoorGenA
import Derived.Test.YtjnnhhengpinmaaGreatDoorMS
namespace Go.Proofs.YtjnnhhengpinmaaGreatDoor
section
open Go Go.RowKit Go.Shelf
attribute [local go_sem] gAt gUpon
attribute [local simp] Gr.refl Gr.alloc

theorem pickR_any (c : Int) (n : Nat) (w : World) (hc : I64 c) (hn : 0 < n) (hn2 : n ≤ 4611686018427387904) :
    Calls Tryz.prog 81 #[.int .i64 c, .int .i64 (n : Int)] w fun e w' => e = .returned (.int .i64 (pickD c n : Int)) ∧ w = w' := by
  unfold I64 at hc
  obtain ⟨hc1, hc2⟩ := hc
  by_cases h0 : c < 0
  · have t0 : decide (c < 0) = true := decide_eq_true h0
    obtain ⟨k, hk⟩ : ∃ k : Nat, -(c + 1) = (k : Int) := ⟨(-(c + 1)).toNat, by omega⟩
    have HP : Hid (pickD c n = k % n) := Lib.hid (by unfold pickD absD; rw [if_pos h0, hk]; simp)
    have ha : IntKind.i64.wrap (c + 1) = c + 1 := IntWalk.i64_in _ (by omega)
    have hneg : IntKind.i64.wrap (-(c + 1)) = (k : Int) := by rw [hk]; exact IntWalk.i64_in _ (by omega)
    have hne : ((n : Int) == 0) = false := by rw [beq_eq_false_iff_ne]; omega
    have hne2 : ¬ ((n : Int) = 0) := by omega
    have hne3 : ¬ (n = 0) := by omega
    clear h0
    go_enter Tryz.func81, Tryz.ntmps81
    go_wp2_with fail
    go_ret
    refine ⟨?_, rfl⟩
    rw [HP.out]
    simp
  · have t0 : decide (c < 0) = false := decide_eq_false h0
    obtain ⟨k, rfl⟩ : ∃ k : Nat, c = (k : Int) := ⟨c.toNat, by omega⟩
    have HP : Hid (pickD (k : Int) n = k % n) := Lib.hid (by unfold pickD absD; rw [if_neg h0]; simp)
    have hne : ((n : Int) == 0) = false := by rw [beq_eq_false_iff_ne]; omega
    have hne2 : ¬ ((n : Int) = 0) := by omega
    have hne3 : ¬ (n = 0) := by omega
    clear h0 hc1 hc2
    go_enter Tryz.func81, Tryz.ntmps81
    go_wp2_with fail
    go_ret
    refine ⟨?_, rfl⟩
    rw [HP.out]
    simp
theorem pick_any (c : Int) (n : Nat) (w : World) (hc : I64 c) (hn : 0 < n) (hn2 : n ≤ 4611686018427387904) :
    Calls Tryz.prog 21 #[.int .i64 c, .int .i64 (n : Int)] w fun e w' => e = .returned (.int .i64 (pickD c n : Int)) ∧ w = w' := by
  unfold I64 at hc
  obtain ⟨hc1, hc2⟩ := hc
  by_cases h0 : c < 0
  · have t0 : decide (c < 0) = true := decide_eq_true h0
    obtain ⟨k, hk⟩ : ∃ k : Nat, -(c + 1) = (k : Int) := ⟨(-(c + 1)).toNat, by omega⟩
    have HP : Hid (pickD c n = k % n) := Lib.hid (by unfold pickD absD; rw [if_pos h0, hk]; simp)
    have ha : IntKind.i64.wrap (c + 1) = c + 1 := IntWalk.i64_in _ (by omega)
    have hneg : IntKind.i64.wrap (-(c + 1)) = (k : Int) := by rw [hk]; exact IntWalk.i64_in _ (by omega)
    have hne : ((n : Int) == 0) = false := by rw [beq_eq_false_iff_ne]; omega
    have hne2 : ¬ ((n : Int) = 0) := by omega
    have hne3 : ¬ (n = 0) := by omega
    clear h0
    go_enter Tryz.func21, Tryz.ntmps21
    go_wp2_with fail
    go_ret
    refine ⟨?_, rfl⟩
    rw [HP.out]
    simp
  · have t0 : decide (c < 0) = false := decide_eq_false h0
    obtain ⟨k, rfl⟩ : ∃ k : Nat, c = (k : Int) := ⟨c.toNat, by omega⟩
    have HP : Hid (pickD (k : Int) n = k % n) := Lib.hid (by unfold pickD absD; rw [if_neg h0]; simp)
    have hne : ((n : Int) == 0) = false := by rw [beq_eq_false_iff_ne]; omega
    have hne2 : ¬ ((n : Int) = 0) := by omega
    have hne3 : ¬ (n = 0) := by omega
    clear h0 hc1 hc2
    go_enter Tryz.func21, Tryz.ntmps21
    go_wp2_with fail
    go_ret
    refine ⟨?_, rfl⟩
    rw [HP.out]
    simp
end
section
open Go Go.RowKit Go.Shelf
attribute [local go_sem] gAt gUpon
attribute [local simp] Gr.refl Gr.alloc

def cutD (s : ByteArray) (n : Nat) : ByteArray := s.extract 0 (min s.size n)
def cutsD (l : List ByteArray) (n m : Nat) : List ByteArray := (l.take n).map fun s => cutD s m
theorem cutD_size (s : ByteArray) (n : Nat) : (cutD s n).size = min s.size n := by
  unfold cutD; rw [ByteArray.size_extract]; omega
theorem cutsD_len (l : List ByteArray) (n m : Nat) : (cutsD l n m).length = min n l.length := by simp [cutsD]
theorem cutsD_step {l : List ByteArray} {k : Nat} {x : ByteArray} (h : l[k]? = some x) (m : Nat) : sC (cutsD l (k + 1) m) = sC (cutsD l k m) ++ [.string (cutD x m)] := by
  unfold cutsD
  rw [List.take_add_one, h, Option.toList_some, List.map_append]
  simp [sC]
set_option maxRecDepth 100000 in
set_option maxHeartbeats 1000000 in
theorem cut_any (v : Value) (l : List ByteArray) (n m : Nat) (w : World) (hv : Rws 1 strC v l w) (hl : l.length ≤ 9223372036854775806) (hn : n ≤ 1000) (hm : m ≤ 1000) (hs : ∀ x ∈ l, x.size ≤ 9223372036854775807) :
    Calls Tryz.prog 14 #[v, .int .i64 (n : Int), .int .i64 (m : Int)] w fun e w' => ∃ u, e = .returned u ∧ OwnL w.heap.size (cutsD l n m) u w' ∧ Gr w w' := by
  obtain ⟨i0, hi, hz0, hz1, hz2⟩ := info_parts infoStr
  have HI := Lib.hid hi
  have HI0 := Lib.hid hz0
  have HI1 := Lib.hid hz1
  have HI2 := Lib.hid hz2
  obtain ⟨p, c, rfl⟩ := hv.shape
  have HV := Lib.hid hv
  have HS := Lib.hid hs
  have HEnd : Hid (∀ B u k y, (k = n ∨ (l.length ≤ k ∧ k ≤ n)) → k ≤ l.length → Own B 1 u k (sC (cutsD l k m)) y → OwnL B (cutsD l n m) u y) := Lib.hid (fun B u k y h1 h3 h2 => by
    have e : cutsD l n m = cutsD l k m := by
      rcases h1 with rfl | ⟨h1, h4⟩
      · rfl
      · unfold cutsD; rw [List.take_of_length_le (by omega), List.take_of_length_le (by omega)]
    unfold OwnL
    rw [e, cutsD_len, Nat.min_eq_left h3]; exact h2)
  clear hi hz0 hz1 hz2 hv hs
  go_enter Tryz.func14, Tryz.ntmps14
  go_wp2_with fail
  go_loopw [7, 8] (fun v7 v8 W => ∃ (k : Nat) (V : Value), k ≤ n ∧ k ≤ l.length ∧ v8 = .int .i64 (k : Int) ∧ V = v7 ∧ Hid (Own w.heap.size 1 V k (sC (cutsD l k m)) W) ∧ Hid (Gr w W)) (fun _ v8 _ => l.length - (intOf v8).toNat)
  case atStart => exact ⟨0, _, Nat.zero_le _, Nat.zero_le _, rfl, rfl, Lib.hid (Own.nil _ _ _), Lib.hid (Gr.refl _)⟩
  case round =>
    obtain ⟨k, v7, hkn, hkl, rfl, rfl, HO, HG⟩ := hrel
    by_cases hlt : k < l.length
    · have ht : decide (k < l.length) = true := decide_eq_true hlt
      have ht' : decide ((k : Int) < (l.length : Int)) = true := decide_eq_true (by omega)
      by_cases hln : k < n
      · have ht2 : decide (k < n) = true := decide_eq_true hln
        have ht2' : decide ((k : Int) < (n : Int)) = true := decide_eq_true (by omega)
        obtain ⟨x, hx⟩ : ∃ x, l[k]? = some x := ⟨_, List.getElem?_eq_getElem hlt⟩
        obtain ⟨g, off, rfl, hlc, hc⟩ := (HV.out.gr HG.out).at_ hx
        have hc0 := hc 0 _ rfl
        rw [Nat.mul_one, Nat.add_zero] at hc0
        have hsx := HS.out x (List.mem_of_getElem? hx)
        have HX := Lib.hid (cutsD_step hx m)
        have hS1 : ∀ q : GrS wr.drew, q.w.cell? ⟨g, off + k, none⟩ = some (.string x) := fun q => q.h.cell (w := wr.drew) hc0
        have hmn : min (x.size : Int) (m : Int) = ((min x.size m : Nat) : Int) := by omega
        have i0' : (0 : Int) ≤ (k : Int) := by omega
        have i1' : (k : Int) < (l.length : Int) := by omega
        clear hc hx hc0
        go_upto_region 5 with fail
        refine region_grow 14 36 (by kernel_rfl) rfl (by kernel_rfl) rfl rfl ?_
        simp only [List.take_succ_cons, List.take_zero, List.drop_succ_cons, List.drop_zero]
        refine seg 11 rfl rfl rfl rfl ?_
        simp only [List.take_succ_cons, List.take_zero, List.drop_succ_cons, List.drop_zero]
        repeat (go_big_quiet_step (fail))
        refine wpQuiet_nil ?_
        intro _
        refine grow_det (v := .int .i64 ((min x.size m : Nat) : Int)) rfl rfl rfl rfl rfl ?_ ?_
        · intro w1 hG
          go_simp
        simp only [Act.put, List.setIfInBounds_toArray, List.set_cons_zero, List.set_cons_succ]
        refine seg 1 rfl rfl rfl rfl ?_
        simp only [List.take_succ_cons, List.take_zero, List.drop_succ_cons, List.drop_zero]
        repeat (go_big_quiet_step (fail))
        refine wpQuiet_nil ?_
        intro _
        refine grow_open (NewEl [.string (cutD x m)] 9) rfl rfl rfl rfl (stb_el _ _) (fun w1 hG => ?_) ?_
        · go_simp
          exact newEl_alloc _ [.string (cutD x m)] _
        refine grow_end1 rfl rfl (by decide) (fun w8 u hG hu => ?_)
        obtain ⟨b2, rfl, hb2⟩ := hu
        simp only [Act.put, List.setIfInBounds_toArray, List.set_cons_zero, List.set_cons_succ]
        have HG8 := Lib.hid (HG.out.trans (Gr.trans (Gr.drew wr) hG))
        have HO8 := Lib.hid (HO.out.gr (Gr.trans (Gr.drew wr) hG))
        have HB2 := Lib.hid hb2
        have hsz8 : w.heap.size ≤ w8.heap.size := HG8.out.size
        clear hG hb2 hS1 HO HG
        go_wp2_with ((with_reducible show wpList _ _ _ (⟨some 34, _, _, _, _, _⟩ :: _) _ _); refine wpList_append_Own rfl (.tmp 20) (.tmp 33) 25 rfl 9 i0 (.string ⟨#[]⟩) 1 16 Tryz.underlying25 HI.out HI0.out HI1.out HI2.out rfl (by decide) rfl HO8.out ⟨b2, 0, none⟩ 1 1 [.string (cutD x m)] rfl rfl (row_at HB2.out) ?h1 (by decide) ?b1 ?b2 hsz8 ?_)
        case h1 => rfl
        case b1 => unfold maxLen; omega
        case b2 => omega
        intro v9 w9 hown hchg _
        have HG9 : Hid (Gr w w9) := Lib.hid (gr_step HG8.out (Gr.refl _) hchg (fun g hg => HO8.out.ge hg))
        have HO9 : Hid (Own w.heap.size 1 v9 (k + 1) (sC (cutsD l (k + 1) m)) w9) := Lib.hid (by rw [HX.out]; exact hown)
        clear hown hchg HO8 HG8 HX HB2 hsz8
        go_wp2_with fail
        go_roundw
        case rel => exact ⟨k + 1, _, by omega, by omega, by go_num, rfl, HO9, HG9⟩
        case measure => simp [intOf]; omega
      · have ht2 : decide (k < n) = false := decide_eq_false hln
        have ht2' : decide ((k : Int) < (n : Int)) = false := decide_eq_false (by omega)
        have HE := Lib.hid (HEnd.out _ _ k _ (.inl (by omega)) hkl HO.out)
        clear HO
        go_wp2_with fail
        go_ret
        exact ⟨_, rfl, HE.out, HG.out⟩
    · have ht : decide (k < l.length) = false := decide_eq_false hlt
      have ht' : decide ((k : Int) < (l.length : Int)) = false := decide_eq_false (by omega)
      have HE := Lib.hid (HEnd.out _ _ k _ (.inr ⟨by omega, hkn⟩) hkl HO.out)
      clear HO
      go_wp2_with fail
      go_ret
      exact ⟨_, rfl, HE.out, HG.out⟩
end
end Go.Proofs.YtjnnhhengpinmaaGreatDoor
