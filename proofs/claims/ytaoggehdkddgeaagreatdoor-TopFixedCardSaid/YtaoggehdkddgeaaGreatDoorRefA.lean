/- Contracts of the reference digest's helpers: the table of round words, the bytes with what is added to them. -/
import Derived.Test.YtaoggehdkddgeaaGreatDoorShaF
namespace Go.Proofs.YtaoggehdkddgeaaGreatDoor
open Go.RowKit Go.Shelf
attribute [local go_sem] gAt gUpon
attribute [local simp] Gr.refl Gr.alloc

theorem rot_c (x n : Nat) (hx : x < 4294967296) (h0 : 0 < n) (h1 : n < 32) (w : World) :
    Calls Tryz.prog 81 #[.int .u32 (x : Int), .int .i64 (n : Int)] w fun e w' => e = .returned (.int .u32 ((rot x n : Nat) : Int)) ∧ ∃ k, w' = w.drewN k := by
  refine (rotated_any (x : Int) (n : Int) (by omega) (by omega) (by omega) (by omega) w).mono ?_
  rintro e w' ⟨rfl, h⟩
  exact ⟨by simp, h⟩
/-- words as cells -/
def wdC (l : List Nat) : List Value := l.map fun x : Nat => Value.int .u32 (x : Int)
theorem wdC_push (l : List Nat) (x : Nat) : wdC l ++ [.int .u32 (x : Int)] = wdC (l ++ [x]) := by simp [wdC]
theorem wdC_get (l : List Nat) (i : Nat) (h : i < l.length) : (wdC l)[i]? = some (.int .u32 ((l.getD i 0 : Nat) : Int)) := by
  simp [wdC, h]
theorem info64 : (Tryz.prog.info? 95).map (fun i => (i.zero, i.size, i.bytes)) = some (some (.int .u32 0), 1, 4) := by kernel_rfl

theorem gr_step' {b : Option Nat} {w wr w1 w2 : World} (hG : Gr w wr) (hg : Gr wr w1) (hc : Chg b w1 w2) (hb : ∀ g, b = some g → w.heap.size ≤ g) : Gr w w2 :=
  Below.trans (hG.trans hg) (hc.below hb (hG.trans hg).size)
theorem own_ge {B s : Nat} {v : Value} {n : Nat} {xs : List Value} {w : World} (h : Own B s v n xs w) {g : Nat} (hg : v.ownBlock = some g) : B ≤ g := by
  rcases h.2 with ⟨rfl, _⟩ | ⟨g', off, cap, rfl, hB, _⟩
  · simp [Value.ownBlock] at hg
  · simp [Value.ownBlock] at hg; subst hg; exact hB

set_option maxRecDepth 100000 in
theorem constants_any (w : World) :
    Calls Tryz.prog 82 #[] w fun e w' => e = .returned (.slice (some ⟨w.heap.size, 0, none⟩) 64 64) ∧ w' = w.alloc (.cells (wdC kRound).toArray 95) := by
  go_enter Tryz.func82, Tryz.ntmps82
  go_wp2
  go_ret
  exact ⟨rfl, rfl⟩

set_option maxRecDepth 100000 in
set_option maxHeartbeats 2000000 in
theorem extended_any (s : ByteArray) (w : World) (hs : s.size ≤ 140737488355000) :
    Calls Tryz.prog 35 #[.string s] w fun e w' => ∃ g off cap L, e = .returned (.slice (some ⟨g, off, none⟩) L cap) ∧ L = (padded s.data.toList).length ∧
      Own w.heap.size 1 (.slice (some ⟨g, off, none⟩) L cap) L (bC (padded s.data.toList)) w' ∧ Gr w w' := by
  obtain ⟨i5, hi5, hz5, hsz5, hb5⟩ := info_parts info5
  go_enter Tryz.func35, Tryz.ntmps35
  go_wp2_with fail
  go_loopw [3, 4] (fun v3 v4 W => ∃ (k : Nat) (V3 : Value), k ≤ s.size ∧ v4 = .int .i64 (k : Int) ∧ V3 = v3 ∧ Hid (Own w.heap.size 1 V3 k (bC (s.data.toList.take k)) W) ∧ Hid (Gr w W)) (fun _ v4 _ => s.size - (intOf v4).toNat)
  case atStart => exact ⟨0, _, Nat.zero_le _, rfl, rfl, Lib.hid (Own.nil _ _ _), Lib.hid (Gr.refl _)⟩
  case round =>
    obtain ⟨k, v3, hk, rfl, rfl, HO, HG⟩ := hrel
    by_cases hlt : k < s.size
    · have HT : Hid (s.data.toList.take (k + 1) = s.data.toList.take k ++ [s[k]]) := Lib.hid (by
        rw [List.take_succ_eq_append_getElem (by simpa using hlt)]; rfl)
      go_wp2_with ((with_reducible show wpList _ _ _ (⟨some 17, _, _, _, _, _⟩ :: _) _ _); refine wpList_append_Own rfl (.tmp 12) (.tmp 16) 73 rfl 5 i5 (.int .u8 0) 1 1 Tryz.underlying73 hi5 hz5 hsz5 hb5 rfl (by decide) rfl (HO.out.gr (Gr.alloc _ _)) ⟨wr.heap.size, 0, none⟩ 1 1 [.int .u8 (s[k].toNat : Int)] rfl rfl ?hnewsA ?h1cA (by decide) ?b1A ?b2A ?hBA ?_)
      case hnewsA => exact one_new' _ _ _ rfl
      case h1cA => intro u hu; simp at hu; subst hu; rfl
      case b1A => unfold maxLen; omega
      case b2A => omega
      case hBA => have := HG.out.size; simp; omega
      intro v5 w5 hown hchg _
      have HG5 : Hid (Gr w w5) := Lib.hid (gr_step' HG.out (Gr.alloc _ _) hchg (fun g hg => own_ge HO.out hg))
      have HO5 : Hid (Own w.heap.size 1 v5 (k + 1) (bC (s.data.toList.take (k + 1))) w5) := Lib.hid (by
        have h := hown
        rw [bC_one] at h; rw [HT.out]; exact h)
      clear hown hchg HO HG HT
      go_wp2_with fail
      go_roundw
      case rel => exact ⟨k + 1, _, by omega, by go_num, rfl, HO5, HG5⟩
      case measure => simp [intOf]; omega
    · have HO2 : Hid (Own w.heap.size 1 v3 s.size (bC s.data.toList) wr) := Lib.hid (by
        have e : k = s.size := by omega
        have h := HO.out
        rw [e, List.take_of_length_le (by simp)] at h; exact h)
      have ht1 : decide (k < s.size) = false := decide_eq_false hlt
      clear HO
      go_wp2_with ((with_reducible show wpList _ _ _ (⟨some 20, _, _, _, _, _⟩ :: _) _ _); refine wpList_append_Own rfl (.tmp 18) (.tmp 19) 73 rfl 5 i5 (.int .u8 0) 1 1 Tryz.underlying73 hi5 hz5 hsz5 hb5 rfl (by decide) rfl (HO2.out.gr (Gr.alloc _ _)) ⟨wr.heap.size, 0, none⟩ 1 1 [.int .u8 128] rfl rfl ?hnewsB ?h1cB (by decide) ?b1B ?b2B ?hBB ?_)
      case hnewsB => exact one_new' _ _ _ rfl
      case h1cB => intro u hu; simp at hu; subst hu; rfl
      case b1B => unfold maxLen; omega
      case b2B => omega
      case hBB => have := HG.out.size; simp; omega
      intro v5 w5 hown hchg _
      have HG5 : Hid (Gr w w5) := Lib.hid (gr_step' HG.out (Gr.alloc _ _) hchg (fun g hg => own_ge HO2.out hg))
      have HO5 := Lib.hid (show Own w.heap.size 1 v5 (s.size + 1) (bC (s.data.toList ++ 128 :: List.replicate 0 0)) w5 by have h := hown; rw [bC_128] at h; exact h)
      obtain ⟨g1, off1, cap1, rfl, _, _, _⟩ := hown.shape (by omega)
      clear hown hchg HO2 HG
      go_wp2_with fail
      go_loopw [3] (fun v wr => ∃ j L g off cap : Nat, j ≤ zeros s.size ∧ Hid (L = s.size + 1 + j) ∧ v = .slice (some ⟨g, off, none⟩) L cap ∧ Hid (Own w.heap.size 1 (.slice (some ⟨g, off, none⟩) L cap) L (bC (s.data.toList ++ 128 :: List.replicate j 0)) wr) ∧ Hid (Gr w wr)) (fun v _ => s.size + 1 + zeros s.size - lenV v)
      case atStart => exact ⟨0, s.size + 1, g1, off1, cap1, Nat.zero_le _, rfl, rfl, HO5, HG5⟩
      clear HO5 HG5
      case round =>
        obtain ⟨j, L, g2, off2, cap2, hj, HL, rfl, HO2, HB2⟩ := hrel
        have hz64 : zeros s.size < 64 := Nat.mod_lt _ (by decide)
        have Hz : Hid ((s.size + 1 + zeros s.size) % 64 = 56) := Lib.hid (by unfold zeros; omega)
        by_cases hlt : j < zeros s.size
        · have ht : ((L : Int) % 64 != 56) = true := by have h1 := HL.out; have h2 := Hz.out; rw [bne_iff_ne]; omega
          have hLb : L ≤ s.size + 65 := by have := HL.out; omega
          go_wp2_with ((with_reducible show wpList _ _ _ (⟨some 27, _, _, _, _, _⟩ :: _) _ _); refine wpList_append_Own rfl (.tmp 25) (.tmp 26) 73 rfl 5 i5 (.int .u8 0) 1 1 Tryz.underlying73 hi5 hz5 hsz5 hb5 rfl (by decide) rfl (HO2.out.gr (Gr.alloc _ _)) ⟨wr.heap.size, 0, none⟩ 1 1 [.int .u8 0] rfl rfl ?hnewsC ?h1cC (by decide) ?b1C ?b2C ?hBC ?_)
          case hnewsC => exact one_new' _ _ _ rfl
          case h1cC => intro u hu; simp at hu; subst hu; rfl
          case b1C => unfold maxLen; omega
          case b2C => omega
          case hBC => have := HB2.out.size; simp; omega
          intro v2 w3 hown3 hchg3 _
          have HB3 : Hid (Gr w w3) := Lib.hid (gr_step' HB2.out (Gr.alloc _ _) hchg3 (fun g hg => own_ge HO2.out hg))
          obtain ⟨g3, off3, cap3, rfl, hg3, _, _⟩ := hown3.shape (by omega)
          have HO3 : Hid (Own w.heap.size 1 (.slice (some ⟨g3, off3, none⟩) (L + 1) cap3) (L + 1) (bC (s.data.toList ++ 128 :: List.replicate (j + 1) 0)) w3) := Lib.hid (by
            have h := hown3
            rw [bC_0, List.append_assoc, List.cons_append, ← List.replicate_succ'] at h; exact h)
          clear hown3 hchg3 HO2 HB2
          go_wp2_with fail
          go_roundw
          case measure => have := HL.out; simp [lenV]; omega
          case rel => exact ⟨j + 1, L + 1, g3, off3, cap3, by omega, Lib.hid (by have := HL.out; omega), rfl, HO3, HB3⟩
        · have hjz : j = zeros s.size := by omega
          have ht : ((L : Int) % 64 != 56) = false := by have h1 := HL.out; have h2 := Hz.out; rw [bne_eq_false_iff_eq]; omega
          have HL2 : Hid (L = s.size + 1 + zeros s.size) := Lib.hid (by rw [HL.out, hjz])
          have HO3 : Hid (Own w.heap.size 1 (.slice (some ⟨g2, off2, none⟩) L cap2) L (bC (s.data.toList ++ 128 :: List.replicate (zeros s.size) 0)) wr) := Lib.hid (by rw [← hjz]; exact HO2.out)
          clear HL HO2 hjz hlt hj
          go_wp2_with fail
          go_loopw [3, 5] (fun v i wr => ∃ (k L2 g off cap : Nat) (x : Int), k ≤ 8 ∧ Hid (L2 = L + k) ∧ Hid (x = 7 - (k : Int)) ∧ v = .slice (some ⟨g, off, none⟩) L2 cap ∧ i = .int .i64 x ∧ Hid (Own w.heap.size 1 (.slice (some ⟨g, off, none⟩) L2 cap) L2 (bC ((s.data.toList ++ 128 :: List.replicate (zeros s.size) 0) ++ (lenBytes s.size).take k)) wr) ∧ Hid (Gr w wr)) (fun _ i _ => (1 + intOf i).toNat)
          case atStart => exact ⟨0, L, g2, off2, cap2, 7, by omega, rfl, rfl, rfl, rfl, Lib.hid (by rw [List.take_zero, List.append_nil]; exact HO3.out), HB2⟩
          clear HO3 HB2
          case round =>
            obtain ⟨k, L2, g3, off3, cap3, x, hk, HL3, Hx, rfl, rfl, HO3, HB3⟩ := hrel
            by_cases hlt8 : k < 8
            · have hx0 : (0 : Int) ≤ x := by have := Hx.out; omega
              have hx7 : x ≤ 7 := by have := Hx.out; omega
              have hLb : L2 ≤ s.size + 80 := by have h1 := HL2.out; have h2 := HL3.out; omega
              have hn8 : (8 : Int) * (s.size : Int) ≤ 9223372036854775807 := by omega
              have Hby : Hid (8 * (s.size : Int) / 2 ^ (8 * x).toNat % 256 = ((UInt8.ofNat (8 * s.size / 2 ^ (8 * (7 - k)))).toNat : Int)) := Lib.hid (by
                rw [← byte8, show (8 * x).toNat = 8 * (7 - k) by have := Hx.out; omega, Int.natCast_mul]; rfl)
              go_wp2_with ((with_reducible show wpList _ _ _ (⟨some 41, _, _, _, _, _⟩ :: _) _ _); refine wpList_append_Own rfl (.tmp 32) (.tmp 40) 73 rfl 5 i5 (.int .u8 0) 1 1 Tryz.underlying73 hi5 hz5 hsz5 hb5 rfl (by decide) rfl (HO3.out.gr (Gr.alloc _ _)) ⟨wr.heap.size, 0, none⟩ 1 1 [.int .u8 (8 * (s.size : Int) / 2 ^ (8 * x).toNat % 256)] rfl rfl ?hnewsD ?h1cD (by decide) ?b1D ?b2D ?hBD ?_)
              case hnewsD => exact one_new' _ _ _ rfl
              case h1cD => intro u hu; simp at hu; subst hu; rfl
              case b1D => unfold maxLen; omega
              case b2D => omega
              case hBD => have := HB3.out.size; simp; omega
              intro v2 w3 hown3 hchg3 _
              have HB4 : Hid (Gr w w3) := Lib.hid (gr_step' HB3.out (Gr.alloc _ _) hchg3 (fun g hg => own_ge HO3.out hg))
              obtain ⟨g4, off4, cap4, rfl, hg4, _, _⟩ := hown3.shape (by omega)
              have HO4 : Hid (Own w.heap.size 1 (.slice (some ⟨g4, off4, none⟩) (L2 + 1) cap4) (L2 + 1) (bC ((s.data.toList ++ 128 :: List.replicate (zeros s.size) 0) ++ (lenBytes s.size).take (k + 1))) w3) := Lib.hid (by
                have h := hown3
                rw [Hby.out, bC_one] at h; rw [lenBytes_take _ _ hlt8]; simp only [List.append_assoc, List.cons_append] at h ⊢; exact h)
              clear hown3 hchg3 HO3 HB3
              go_wp2_with fail
              go_roundw
              case measure => simp [intOf]; omega
              case rel => exact ⟨k + 1, L2 + 1, g4, off4, cap4, x - 1, by omega, Lib.hid (by have := HL3.out; omega), Lib.hid (by have := Hx.out; omega), rfl, rfl, HO4, HB4⟩
            · have Hk8 : Hid (k = 8) := Lib.hid (by omega)
              have hxm : x = -1 := by have h1 := Hx.out; have h2 := Hk8.out; omega
              subst hxm
              have Hpad : Hid (Own w.heap.size 1 (.slice (some ⟨g3, off3, none⟩) L2 cap3) L2 (bC (padded s.data.toList)) wr) := Lib.hid (by
                have h := HO3.out
                rw [Hk8.out, List.take_of_length_le (by simp [lenBytes])] at h
                exact h)
              have HL4 : Hid (L2 = (padded s.data.toList).length) := Lib.hid (by
                have h := Hpad.out.1; rw [bC_length] at h; omega)
              clear HO3 Hx HL3 hk hlt8 Hk8 HL2 ht
              go_wp2_with fail
              go_ret
              exact ⟨_, _, _, _, rfl, HL4.out, Hpad.out, HB3.out⟩
end Go.Proofs.YtaoggehdkddgeaaGreatDoor
