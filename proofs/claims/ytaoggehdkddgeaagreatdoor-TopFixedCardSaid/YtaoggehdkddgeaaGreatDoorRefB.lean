/- The contract of one block of the reference digest. -/
import Derived.Test.YtaoggehdkddgeaaGreatDoorRefA
import Derived.Test.YtaoggehdkddgeaaGreatDoorGGrowF
namespace Go.Proofs.YtaoggehdkddgeaaGreatDoor
open Go.RowKit Go.Shelf
attribute [local go_sem] gAt gUpon
attribute [local simp] Gr.refl Gr.alloc

/-- v is a slice of the eight words of s -/
def W8 (v : Value) (s : St) (w : World) : Prop := ∃ g off cap, v = .slice (some ⟨g, off, none⟩) 8 cap ∧ 8 ≤ cap ∧ cap ≤ maxLen ∧ ∀ (j : Nat) u, (stC s)[j]? = some u → w.cell? ⟨g, off + j, none⟩ = some u
theorem W8.gr {v : Value} {s : St} {w x : World} (h : W8 v s w) (hg : Gr w x) : W8 v s x := by
  obtain ⟨g, off, cap, rfl, h1, h2, h3⟩ := h
  exact ⟨g, off, cap, rfl, h1, h2, fun j u hj => hg.cell (h3 j u hj)⟩
theorem W8.of_own {B : Nat} {v : Value} {s : St} {w : World} (h : Own B 1 v 8 (stC s) w) : W8 v s w := by
  obtain ⟨g, off, cap, rfl, _, h1, h2⟩ := h.shape (by omega)
  exact ⟨g, off, cap, rfl, h1, h2, fun j u hj => h.cell j u hj⟩
theorem stC_wdC (s : St) : stC s = wdC s.list := rfl
theorem new_row1 (w : World) (t : TypeId) (x y : Int) (h : x = y) : NewRow [.int .u32 y] t (.slice (some ⟨w.heap.size, 0, none⟩) 1 1) (w.alloc (.cells #[.int .u32 x] t)) := by
  subst h; exact newRow_alloc w [.int .u32 x] t rfl
theorem row1_cells {w : World} {b : Nat} {v : Value} {T : TypeId} (h : w.heap[b]? = some (.cells [v].toArray T (0, 0))) : ∀ (j : Nat) (u : Value), [v][j]? = some u → w.cell? ((⟨b, 0, none⟩ : Addr).add j) = some u := by
  intro j u hj
  match j, hj with
  | 0, hj =>
    simp at hj; subst hj
    rw [Addr.add_mid]; rw [cell_of_row _ _ _ _ _ _ h]; rfl

theorem next_walk2 (a b c d : Nat) (ha : a < 4294967296) (hd : d < 4294967296) :
    ((b : Int) + bits .xor .u32 (bits .xor .u32 ((rot a 7 : Nat) : Int) ((rot a 18 : Nat) : Int)) ((a : Int) / 8) + (c : Int) + bits .xor .u32 (bits .xor .u32 ((rot d 17 : Nat) : Int) ((rot d 19 : Nat) : Int)) ((d : Int) / 1024)) % 4294967296 =
      ((b + (rot a 7 ^^^ rot a 18 ^^^ a / 8) + c + (rot d 17 ^^^ rot d 19 ^^^ d / 1024)) % 4294967296 : Nat) := by
  rw [xor_u32 _ _ (rot_lt _ _ ha) (rot_lt _ _ ha), xor_u32 _ _ (rot_lt _ _ hd) (rot_lt _ _ hd), next_walk a b c d ha hd]

theorem next_row (v : St) (kk ww : Nat) (w1 : World) : NewRow (stC (v.next kk ww)) 95 (.slice (some ⟨w1.heap.size, 0, none⟩) 8 8)
    (w1.alloc (.cells #[.int .u32 (((v.t kk ww : Nat) + (v.u : Nat) : Int) % 4294967296), .int .u32 (v.a : Int), .int .u32 (v.b : Int), .int .u32 (v.c : Int), .int .u32 (((v.d : Nat) + (v.t kk ww : Nat) : Int) % 4294967296), .int .u32 (v.e : Int), .int .u32 (v.f : Int), .int .u32 (v.g : Int)] 95)) := by
  have := newRow_alloc w1 (stC (v.next kk ww)) 95 (n := 8) rfl
  simpa [stC, St.next] using this
theorem W8.of_row {v : Value} {s : St} {w : World} {b : Nat} (hv : v = .slice (some ⟨b, 0, none⟩) 8 8) (h : w.heap[b]? = some (.cells (stC s).toArray 95 (0, 0))) : W8 v s w :=
  ⟨b, 0, 8, hv, Nat.le_refl _, by decide, fun j u hj => by rw [cell_of_row _ _ _ _ _ _ h, Nat.zero_add]; simpa using hj⟩
theorem list_take_succ (l : List Nat) (i : Nat) (h : i < l.length) : l.take (i + 1) = l.take i ++ [l.getD i 0] := by
  rw [List.take_succ_eq_append_getElem h]; simp [List.getElem?_eq_getElem h]

set_option maxRecDepth 200000 in
set_option maxHeartbeats 8000000 in
theorem block_any (s : St) (hs : s.lt) (l : List UInt8) (v : Value) (b off c : Nat) (w : World) (hv : W8 v s w) (hl : l.length = 64) (hb : BytesAt w b off l) (hbB : b < w.heap.size) :
    Calls Tryz.prog 36 #[v, .slice (some ⟨b, off, none⟩) 64 c] w fun e w' => ∃ u, e = .returned u ∧ W8 u (blockSt s l) w' ∧ Gr w w' := by
  obtain ⟨i64, hi64, hz64, hsz64, hb64⟩ := info_parts info64
  obtain ⟨gv, ov, cv, rfl, hcv1, hcv2, hcv⟩ := hv
  have HCv := Lib.hid hcv
  have HB := Lib.hid hb
  clear hcv hb
  go_enter Tryz.func36, Tryz.ntmps36
  go_wp2_with fail
  go_loopw [5, 6] (fun v5 v6 W => ∃ (k : Nat) (V5 : Value), k ≤ 16 ∧ v6 = .int .i64 (k : Int) ∧ V5 = v5 ∧ Hid (Own w.heap.size 1 V5 k (wdC ((first16 l).take k)) W) ∧ Hid (Gr w W)) (fun _ v6 _ => 16 - (intOf v6).toNat)
  case atStart => exact ⟨0, _, Nat.zero_le _, rfl, rfl, Lib.hid (Own.nil _ _ _), Lib.hid (Gr.refl _)⟩
  case round =>
    obtain ⟨k, v5, hk, rfl, rfl, HO, HG⟩ := hrel
    by_cases hlt : k < 16
    · have hB := HB.out.below (show Below w.heap.size w wr from HG.out) hbB
      have c0 := hB (4 * k) (by omega)
      have c1 := hB (4 * k + 1) (by omega)
      have c2 := hB (4 * k + 2) (by omega)
      have c3 := hB (4 * k + 3) (by omega)
      rw [← Nat.add_assoc] at c1 c2 c3
      have hS0 : ∀ n : GrS wr.drew, n.w.cell? ⟨b, off + 4 * k, none⟩ = some (.int .u8 ((bt l (4 * k) : Nat) : Int)) := fun n => n.h.cell (w := wr.drew) c0
      have hS1 : ∀ n : GrS wr.drew, n.w.cell? ⟨b, off + (4 * k + 1), none⟩ = some (.int .u8 ((bt l (4 * k + 1) : Nat) : Int)) := fun n => n.h.cell (w := wr.drew) c1
      have hS2 : ∀ n : GrS wr.drew, n.w.cell? ⟨b, off + (4 * k + 2), none⟩ = some (.int .u8 ((bt l (4 * k + 2) : Nat) : Int)) := fun n => n.h.cell (w := wr.drew) c2
      have hS3 : ∀ n : GrS wr.drew, n.w.cell? ⟨b, off + (4 * k + 3), none⟩ = some (.int .u8 ((bt l (4 * k + 3) : Nat) : Int)) := fun n => n.h.cell (w := wr.drew) c3
      clear c0 c1 c2 c3 hB
      have e0 : IntKind.i64.wrap (4 * (k : Int)) = 4 * (k : Int) := IntWalk.i64_in _ (by omega)
      have e1 : IntKind.i64.wrap (4 * (k : Int) + 1) = 4 * (k : Int) + 1 := IntWalk.i64_in _ (by omega)
      have e2 : IntKind.i64.wrap (4 * (k : Int) + 2) = 4 * (k : Int) + 2 := IntWalk.i64_in _ (by omega)
      have e3 : IntKind.i64.wrap (4 * (k : Int) + 3) = 4 * (k : Int) + 3 := IntWalk.i64_in _ (by omega)
      have n0 : (4 * (k : Int)).toNat = 4 * k := by omega
      have n1 : (4 * (k : Int) + 1).toNat = 4 * k + 1 := by omega
      have n2 : (4 * (k : Int) + 2).toNat = 4 * k + 2 := by omega
      have n3 : (4 * (k : Int) + 3).toNat = 4 * k + 3 := by omega
      have p0 : 0 ≤ 4 * (k : Int) := by omega
      have p1 : 0 ≤ 4 * (k : Int) + 1 := by omega
      have p2 : 0 ≤ 4 * (k : Int) + 2 := by omega
      have p3 : 0 ≤ 4 * (k : Int) + 3 := by omega
      have q0 : 4 * (k : Int) < 64 := by omega
      have q1 : 4 * (k : Int) + 1 < 64 := by omega
      have q2 : 4 * (k : Int) + 2 < 64 := by omega
      have q3 : 4 * (k : Int) + 3 < 64 := by omega
      have HW := Lib.hid (word_walk (bt l (4 * k)) (bt l (4 * k + 1)) (bt l (4 * k + 2)) (bt l (4 * k + 3)) (bt_lt _ _) (bt_lt _ _) (bt_lt _ _) (bt_lt _ _))
      have HF : Hid ((first16 l).take (k + 1) = (first16 l).take k ++ [word l k]) := Lib.hid (by
        rw [List.take_succ_eq_append_getElem (by rw [first16_length]; omega)]; simp [first16])
      go_upto_region 5 with fail
      refine region_grow16 35 238 (by kernel_rfl) rfl (by kernel_rfl) rfl rfl ?_
      simp only [List.take_succ_cons, List.take_zero, List.drop_succ_cons, List.drop_zero]
      refine seg 34 rfl rfl rfl rfl ?_
      simp only [List.take_succ_cons, List.take_zero, List.drop_succ_cons, List.drop_zero]
      repeat (go_big_quiet_step (fail))
      refine wpQuiet_nil ?_
      intro _
      refine grow_open (NewRow [.int .u32 ((word l k : Nat) : Int)] 95) rfl rfl rfl rfl (stb_row _ _) (fun w1 hG => ?_) ?_
      · go_simp
        exact new_row1 _ _ _ _ HW.out
      refine grow_end1 rfl rfl (by decide) ?_
      rintro w8 u hG8 ⟨b2, rfl, hb2⟩
      simp only [Act.put, List.setIfInBounds_toArray, List.set_cons_zero, List.set_cons_succ]
      have hg78 : Gr wr w8 := Gr.trans (Gr.drew wr) hG8
      clear e0 e1 e2 e3 n0 n1 n2 n3 hS0 hS1 hS2 hS3
      go_wp2_with ((with_reducible show wpList _ _ _ (⟨some 58, _, _, _, _, _⟩ :: _) _ _); refine wpList_append_Own rfl (.tmp 23) (.tmp 57) 96 rfl 95 i64 (.int .u32 0) 1 4 Tryz.underlying96 hi64 hz64 hsz64 hb64 rfl (by decide) rfl (HO.out.gr hg78) ⟨b2, 0, none⟩ 1 1 [.int .u32 ((word l k : Nat) : Int)] rfl rfl ?hnewsA ?h1cA (by decide) ?b1A ?b2A ?hBA ?_)
      case hnewsA => exact fun j u hj => match j, hj with
        | 0, hj => row1_cells hb2 0 u hj
      case h1cA => rfl
      case b1A => unfold maxLen; omega
      case b2A => omega
      case hBA => have := HG.out.size; have := hg78.size; omega
      intro v7 w7 hown hchg _
      have HG7 : Hid (Gr w w7) := Lib.hid (gr_step' HG.out hg78 hchg (fun g hg => own_ge HO.out hg))
      have HO7 : Hid (Own w.heap.size 1 v7 (k + 1) (wdC ((first16 l).take (k + 1))) w7) := Lib.hid (by
        have h := hown
        rw [wdC_push] at h; rw [HF.out]; exact h)
      clear hown hchg HO HG hb2 hG8 HF HW
      go_wp2_with fail
      go_roundw
      case rel => exact ⟨k + 1, _, by omega, by go_num, rfl, HO7, HG7⟩
      case measure => simp [intOf]; omega
    · have HR : Hid (Own w.heap.size 1 v5 16 (wdC (ext 0 (first16 l))) wr) := Lib.hid (by
        have h := HO.out
        have e : k = 16 := by omega
        rw [e, List.take_of_length_le (by rw [first16_length]; omega)] at h; exact h)
      have ht1 : decide (k < 16) = false := decide_eq_false hlt
      clear HO HB
      go_wp2_with fail
      go_loopw [5, 7] (fun v5 v7 W => ∃ (m : Nat) (V5 : Value), 16 ≤ m ∧ m ≤ 64 ∧ v7 = .int .i64 (m : Int) ∧ V5 = v5 ∧ Hid (Own w.heap.size 1 V5 m (wdC (ext (m - 16) (first16 l))) W) ∧ Hid (Gr w W)) (fun _ v7 _ => 64 - (intOf v7).toNat)
      case atStart => exact ⟨16, _, Nat.le_refl _, by omega, rfl, rfl, HR, HG⟩
      clear HR HG
      rename_i wrOld
      case round =>
        obtain ⟨m, v5', hm1, hm2, rfl, rfl, HO, HG⟩ := hrel
        by_cases hlt2 : m < 64
        · have hlen : (ext (m - 16) (first16 l)).length = m := by rw [ext_length, first16_length]; omega
          have hW := ext_lt (m - 16) (first16 l) (fun x hx => by simp [first16] at hx; obtain ⟨i, _, rfl⟩ := hx; exact word_lt l i)
          have hsucc := ext_succ (m - 16) (first16 l)
          rw [show m - 16 + 1 = m + 1 - 16 by omega] at hsucc
          generalize ext (m - 16) (first16 l) = W at HO hlen hW hsucc
          have gW : ∀ i, W.getD i 0 < 4294967296 := by
            intro i
            by_cases hi : i < W.length
            · rw [List.getD_eq_getElem?_getD, List.getElem?_eq_getElem hi]; exact hW _ (List.getElem_mem hi)
            · rw [List.getD_eq_getElem?_getD, List.getElem?_eq_none (by omega)]; decide
          obtain ⟨g5, o5, c5, rfl, _, hc51, hc52⟩ := HO.out.shape (by omega)
          have hget : ∀ i, i < m → wr.cell? ⟨g5, o5 + i, none⟩ = some (.int .u32 ((W.getD i 0 : Nat) : Int)) := fun i hi => HO.out.cell i _ (wdC_get W i (by omega))
          have c15 := hget (m - 15) (by omega)
          have c2 := hget (m - 2) (by omega)
          have c16 := hget (m - 16) (by omega)
          have c7 := hget (m - 7) (by omega)
          have x15 := gW (m - 15); have x2 := gW (m - 2); have x16 := gW (m - 16); have x7 := gW (m - 7)
          have HN : Hid (nextW W = ((W.getD (m - 16) 0) + (rot (W.getD (m - 15) 0) 7 ^^^ rot (W.getD (m - 15) 0) 18 ^^^ (W.getD (m - 15) 0) / 8) + (W.getD (m - 7) 0) + (rot (W.getD (m - 2) 0) 17 ^^^ rot (W.getD (m - 2) 0) 19 ^^^ (W.getD (m - 2) 0) / 1024)) % 4294967296) := Lib.hid (by simp only [nextW, hlen])
          generalize W.getD (m - 15) 0 = w15 at c15 x15 HN
          generalize W.getD (m - 2) 0 = w2 at c2 x2 HN
          generalize W.getD (m - 16) 0 = w16 at c16 x16 HN
          generalize W.getD (m - 7) 0 = w7 at c7 x7 HN
          have HL := Lib.hid hlen; have HS := Lib.hid hsucc
          clear hlen hsucc hget gW hW
          have e15 : IntKind.i64.wrap ((m : Int) - 15) = (m : Int) - 15 := IntWalk.i64_in _ (by omega)
          have e2 : IntKind.i64.wrap ((m : Int) - 2) = (m : Int) - 2 := IntWalk.i64_in _ (by omega)
          have e16 : IntKind.i64.wrap ((m : Int) - 16) = (m : Int) - 16 := IntWalk.i64_in _ (by omega)
          have e7 : IntKind.i64.wrap ((m : Int) - 7) = (m : Int) - 7 := IntWalk.i64_in _ (by omega)
          have n15 : ((m : Int) - 15).toNat = m - 15 := by omega
          have n2 : ((m : Int) - 2).toNat = m - 2 := by omega
          have n16 : ((m : Int) - 16).toNat = m - 16 := by omega
          have n7 : ((m : Int) - 7).toNat = m - 7 := by omega
          have p15 : 0 ≤ (m : Int) - 15 := by omega
          have p2 : 0 ≤ (m : Int) - 2 := by omega
          have p16 : 0 ≤ (m : Int) - 16 := by omega
          have p7 : 0 ≤ (m : Int) - 7 := by omega
          have r16 : (16 : Int) ≤ (m : Int) := by omega
          have r15 : (15 : Int) ≤ (m : Int) := by omega
          have r7 : (7 : Int) ≤ (m : Int) := by omega
          have r2 : (2 : Int) ≤ (m : Int) := by omega
          have s15 : m - 15 < m := by omega
          have s2 : m - 2 < m := by omega
          have s16 : m - 16 < m := by omega
          have s7 : m - 7 < m := by omega
          have q15 : (m : Int) - 15 < (m : Int) := by omega
          have q2 : (m : Int) - 2 < (m : Int) := by omega
          have q16 : (m : Int) - 16 < (m : Int) := by omega
          have q7 : (m : Int) - 7 < (m : Int) := by omega
          go_wp2_with fail
          go_quiet ((go_at_call 81; exact Calls.quiet_of (rot_c _ _ (by omega) (by decide) (by decide) _)))
          rename_i nq
          go_upto_region 10 with fail
          refine wp_gen (F := fun x => Gr wr x) (below_drewN (Below.refl _ _) nq) ?_
          rintro wq hgq
          have d2 := hgq.cell c2
          have d16 := hgq.cell c16
          have d7 := hgq.cell c7
          have HG2 := Lib.hid (HG.out.trans hgq)
          have HO2 := Lib.hid (HO.out.gr hgq)
          clear c15 c2 c16 c7 hgq HO HG
          go_quiet ((go_at_call 81; exact Calls.quiet_of (rot_c _ _ (by omega) (by decide) (by decide) _)))
          go_upto_region 11 with fail
          refine wp_gen (F := fun x => Gr wq x) (below_drewN (Below.refl _ _) _) ?_
          rintro wp hgp
          have hS1 : ∀ n : GrS wp.drew, n.w.cell? ⟨g5, o5 + (m - 16), none⟩ = some (.int .u32 (w16 : Int)) := fun n => n.h.cell (w := wp.drew) (hgp.cell d16)
          have hS2 : ∀ n : GrS wp.drew, n.w.cell? ⟨g5, o5 + (m - 7), none⟩ = some (.int .u32 (w7 : Int)) := fun n => n.h.cell (w := wp.drew) (hgp.cell d7)
          have HG3 := Lib.hid (HG2.out.trans hgp)
          have HO3 := Lib.hid (HO2.out.gr hgp)
          clear d2 d16 d7 hgp HO2 HG2
          refine region_grow16 17 238 (by kernel_rfl) rfl (by kernel_rfl) rfl rfl ?_
          simp only [List.take_succ_cons, List.take_zero, List.drop_succ_cons, List.drop_zero]
          refine seg 16 rfl rfl rfl rfl ?_
          simp only [List.take_succ_cons, List.take_zero, List.drop_succ_cons, List.drop_zero]
          repeat (go_big_quiet_step (fail))
          refine wpQuiet_nil ?_
          intro _
          refine grow_open (NewRow [.int .u32 ((nextW W : Nat) : Int)] 95) rfl rfl rfl rfl (stb_row _ _) (fun w1 hG => ?_) ?_
          · go_simp
            exact new_row1 _ _ _ _ (by rw [next_walk2 _ _ _ _ x15 x2, ← HN.out])
          refine grow_end1 rfl rfl (by decide) ?_
          rintro w8 u hG8 ⟨b2, rfl, hb2⟩
          simp only [Act.put, List.setIfInBounds_toArray, List.set_cons_zero, List.set_cons_succ]
          have hg78 : Gr wp w8 := Gr.trans (Gr.drew wp) hG8
          clear e15 e2 e16 e7 n15 n2 n16 n7 hS1 hS2
          go_wp2_with ((with_reducible show wpList _ _ _ (⟨some 120, _, _, _, _, _⟩ :: _) _ _); refine wpList_append_Own rfl (.tmp 103) (.tmp 119) 96 rfl 95 i64 (.int .u32 0) 1 4 Tryz.underlying96 hi64 hz64 hsz64 hb64 rfl (by decide) rfl (HO3.out.gr hg78) ⟨b2, 0, none⟩ 1 1 [.int .u32 ((nextW W : Nat) : Int)] rfl rfl ?hnewsB ?h1cB (by decide) ?b1B ?b2B ?hBB ?_)
          case hnewsB => exact fun j u hj => match j, hj with
            | 0, hj => row1_cells hb2 0 u hj
          case h1cB => rfl
          case b1B => unfold maxLen; omega
          case b2B => omega
          case hBB => have := HG3.out.size; have := hg78.size; omega
          intro v7 w7' hown hchg _
          have HG7 : Hid (Gr w w7') := Lib.hid (gr_step' HG3.out hg78 hchg (fun g hg => own_ge HO3.out hg))
          have HO7 : Hid (Own w.heap.size 1 v7 (m + 1) (wdC (ext (m + 1 - 16) (first16 l))) w7') := Lib.hid (by
            have h := hown
            rw [wdC_push] at h; rw [HS.out]; exact h)
          clear hown hchg HO3 HG3 hb2 hG8 HS HN
          go_wp2_with fail
          go_roundw
          case rel => exact ⟨m + 1, _, by omega, by omega, by go_num, rfl, HO7, HG7⟩
          case measure => simp [intOf]; omega
        · have HR : Hid (Own w.heap.size 1 v5' 64 (wdC (sched l)) wr) := Lib.hid (by
            have h := HO.out
            have e : m = 64 := by omega
            rw [e] at h; exact h)
          have ht2 : decide (m < 64) = false := decide_eq_false hlt2
          obtain ⟨g5, o5, c5, rfl, _, hc51, hc52⟩ := HR.out.shape (by omega)
          clear HO
          go_wp2_with fail
          refine (constants_any _).mono ?_
          rintro e wk0 ⟨rfl, rfl⟩
          go_upto_region 13 with fail
          refine wp_gen (F := fun x => Gr wr x ∧ Hid (∀ (j : Nat) u, (wdC kRound)[j]? = some u → x.cell? ⟨wr.heap.size, j, none⟩ = some u)) ⟨Gr.alloc _ _, Lib.hid (fun j u hj => ?_)⟩ ?_
          · rw [cell_of_row _ _ _ _ _ _ (heap_alloc_new _ _)]; simpa using hj
          rintro wk ⟨hgk, HK⟩
          have HGk := Lib.hid (HG.out.trans hgk)
          have HSc := Lib.hid (HR.out.gr hgk)
          have HVc := Lib.hid (show ∀ (j : Nat) u, (stC s)[j]? = some u → wk.cell? ((⟨gv, ov, none⟩ : Addr).add j) = some u from fun j u hj => by rw [Addr.add_mid]; exact HGk.out.cell (HCv.out j u hj))
          clear HG HR hgk
          go_upto_region 15 with ((with_reducible show wpList _ _ _ (⟨some 124, _, _, _, _, _⟩ :: _) _ _); refine wpList_append_Own rfl (.tmp 122) (.tmp 123) 96 rfl 95 i64 (.int .u32 0) 1 4 Tryz.underlying96 hi64 hz64 hsz64 hb64 rfl (by decide) rfl (Own.nil w.heap.size 1 wk) ⟨gv, ov, none⟩ 8 cv (stC s) rfl rfl HVc.out ?h1cE (by decide) ?b1E ?b2E ?hBE ?_)
          case h1cE => intro u hu; simp [stC] at hu; rcases hu with rfl | rfl | rfl | rfl | rfl | rfl | rfl | rfl <;> rfl
          case b1E => unfold maxLen; omega
          case b2E => omega
          case hBE => exact HGk.out.size
          intro v11 wz hown hchg _
          have HGz : Hid (Gr w wz) := Lib.hid (HGk.out.trans (Chg.gr hchg))
          have hgz : Gr wk wz := Chg.gr hchg
          have HKz := Lib.hid (fun (j : Nat) u hj => hgz.cell (HK.out j u hj))
          have HSz := Lib.hid (HSc.out.gr hgz)
          have HVz := Lib.hid (fun (j : Nat) u (hj : (stC s)[j]? = some u) => HGz.out.cell (HCv.out j u hj))
          have HW8 : Hid (W8 v11 (rounds ((kRound.zip (sched l)).take 0) s) wz) := Lib.hid (W8.of_own hown)
          clear hown hchg hgz HK HSc HVc HGk HCv
          go_wp2_with fail
          go_loopw [11, 12] (fun v11 v12 W => ∃ (i : Nat) (V11 : Value), i ≤ 64 ∧ v12 = .int .i64 (i : Int) ∧ V11 = v11 ∧ Hid (W8 V11 (rounds ((kRound.zip (sched l)).take i) s) W) ∧ Hid (Gr wz W)) (fun _ v12 _ => 64 - (intOf v12).toNat)
          case atStart => exact ⟨0, _, Nat.zero_le _, rfl, rfl, HW8, Lib.hid (Gr.refl _)⟩
          clear HW8
          case round =>
            obtain ⟨i, v11', hi1, rfl, rfl, H8, HG⟩ := hrel
            by_cases hlt3 : i < 64
            · have hLl : (kRound.zip (sched l)).length = 64 := by rw [List.length_zip, sched_length]; rfl
              have hnext := rounds_take (kRound.zip (sched l)) s i (by omega)
              have hkl : i < kRound.length := hlt3
              have hwl : i < (sched l).length := by rw [sched_length]; exact hlt3
              have hz1 : ((kRound.zip (sched l))[i]'(by omega)).1 = kRound.getD i 0 := by simp [List.getElem_zip, List.getElem?_eq_getElem hkl]
              have hz2 : ((kRound.zip (sched l))[i]'(by omega)).2 = (sched l).getD i 0 := by simp [List.getElem_zip, List.getElem?_eq_getElem hwl]
              rw [hz1, hz2] at hnext
              have hvlt := rounds_lt ((kRound.zip (sched l)).take i) s hs
              have hkk : kRound.getD i 0 < 4294967296 := by rw [List.getD_eq_getElem?_getD, List.getElem?_eq_getElem hkl]; exact kRound_lt _ (List.getElem_mem hkl)
              have hww : (sched l).getD i 0 < 4294967296 := by rw [List.getD_eq_getElem?_getD, List.getElem?_eq_getElem hwl]; exact sched_lt l _ (List.getElem_mem hwl)
              have ck := HG.out.cell (HKz.out i _ (wdC_get kRound i hkl))
              have cw := HG.out.cell (HSz.out.cell i _ (wdC_get (sched l) i hwl))
              generalize rounds ((kRound.zip (sched l)).take i) s = v at hnext H8 hvlt
              generalize kRound.getD i 0 = kk at hnext hkk ck
              generalize (sched l).getD i 0 = ww at hnext hww cw
              have HV := Lib.hid hnext
              clear hnext hz1 hz2 hLl hkl hwl
              obtain ⟨va, vb, vc, vd, ve, vf, vg, vh⟩ := hvlt
              obtain ⟨g8, o8, c8, rfl, hc81, hc82, h8⟩ := H8.out
              have c0 := h8 0 _ rfl
              have c1 := h8 1 _ rfl
              have c2 := h8 2 _ rfl
              have c3 := h8 3 _ rfl
              have c4 := h8 4 _ rfl
              have c5 := h8 5 _ rfl
              have c6 := h8 6 _ rfl
              have c7 := h8 7 _ rfl
              rw [Nat.add_zero] at c0
              clear h8
              have hx1 : bits .xor .u32 (bits .xor .u32 ((rot v.e 6 : Nat) : Int) ((rot v.e 11 : Nat) : Int)) ((rot v.e 25 : Nat) : Int) = ((rot v.e 6 ^^^ rot v.e 11 ^^^ rot v.e 25 : Nat) : Int) := by
                rw [xor_u32 _ _ (rot_lt _ _ ve) (rot_lt _ _ ve), xor_u32 _ _ (xor_lt _ _ (rot_lt _ _ ve) (rot_lt _ _ ve)) (rot_lt _ _ ve)]
              have hx2 : bits .xor .u32 (bits .xor .u32 ((rot v.a 2 : Nat) : Int) ((rot v.a 13 : Nat) : Int)) ((rot v.a 22 : Nat) : Int) = ((rot v.a 2 ^^^ rot v.a 13 ^^^ rot v.a 22 : Nat) : Int) := by
                rw [xor_u32 _ _ (rot_lt _ _ va) (rot_lt _ _ va), xor_u32 _ _ (xor_lt _ _ (rot_lt _ _ va) (rot_lt _ _ va)) (rot_lt _ _ va)]
              have HX1 := Lib.hid hx1
              have HX2 := Lib.hid hx2
              clear hx1 hx2
              have ht3 : (i : Int) < 64 := by omega
              go_upto_region 20 with fail
              go_quiet ((go_at_call 81; exact Calls.quiet_of (rot_c _ _ (by omega) (by decide) (by decide) _)))
              rename_i nq
              rw [HX1.out, t_walk v kk ww ve vf vg]
              go_upto_region 21 with fail
              refine wp_gen (F := fun x => Gr wr x) (below_drewN (Below.refl _ _) nq) ?_
              rintro wq hgq
              have d1 := hgq.cell c1
              have d2 := hgq.cell c2
              have d3 := hgq.cell c3
              have d5 := hgq.cell c5
              have d6 := hgq.cell c6
              have HG2 := Lib.hid (HG.out.trans hgq)
              clear c0 c1 c2 c3 c4 c5 c6 c7 ck cw hgq HG H8
              go_quiet ((go_at_call 81; exact Calls.quiet_of (rot_c _ _ (by omega) (by decide) (by decide) _)))
              rw [HX2.out, u_walk v va vb vc]
              go_upto_region 22 with fail
              refine wp_gen (F := fun x => Gr wq x) (below_drewN (Below.refl _ _) _) ?_
              rintro wp hgp
              have hS1 : ∀ n : GrS wp.drew, n.w.cell? ⟨g8, o8 + 1, none⟩ = some (.int .u32 (v.b : Int)) := fun n => n.h.cell (w := wp.drew) (hgp.cell d1)
              have hS2 : ∀ n : GrS wp.drew, n.w.cell? ⟨g8, o8 + 2, none⟩ = some (.int .u32 (v.c : Int)) := fun n => n.h.cell (w := wp.drew) (hgp.cell d2)
              have hS3 : ∀ n : GrS wp.drew, n.w.cell? ⟨g8, o8 + 3, none⟩ = some (.int .u32 (v.d : Int)) := fun n => n.h.cell (w := wp.drew) (hgp.cell d3)
              have hS5 : ∀ n : GrS wp.drew, n.w.cell? ⟨g8, o8 + 5, none⟩ = some (.int .u32 (v.f : Int)) := fun n => n.h.cell (w := wp.drew) (hgp.cell d5)
              have hS6 : ∀ n : GrS wp.drew, n.w.cell? ⟨g8, o8 + 6, none⟩ = some (.int .u32 (v.g : Int)) := fun n => n.h.cell (w := wp.drew) (hgp.cell d6)
              have HG3 := Lib.hid (HG2.out.trans hgp)
              clear d1 d2 d3 d5 d6 hgp HG2
              refine region_grow16 23 238 (by kernel_rfl) rfl (by kernel_rfl) rfl rfl ?_
              simp only [List.take_succ_cons, List.take_zero, List.drop_succ_cons, List.drop_zero]
              refine seg 22 rfl rfl rfl rfl ?_
              simp only [List.take_succ_cons, List.take_zero, List.drop_succ_cons, List.drop_zero]
              repeat (go_big_quiet_step (fail))
              refine wpQuiet_nil ?_
              intro _
              refine grow_open (NewRow (stC (v.next kk ww)) 95) rfl rfl rfl rfl (stb_row _ _) (fun w1 hG => ?_) ?_
              · go_simp
                exact next_row v kk ww w1
              refine grow_end1 rfl rfl (by decide) ?_
              rintro w8 u hG8 ⟨b2, hu, hb2⟩
              simp only [Act.put, List.setIfInBounds_toArray, List.set_cons_zero, List.set_cons_succ]
              have hg78 : Gr wp w8 := Gr.trans (Gr.drew wp) hG8
              have HG7 : Hid (Gr wz w8) := Lib.hid (HG3.out.trans hg78)
              have HW7 : Hid (W8 u (rounds ((kRound.zip (sched l)).take (i + 1)) s) w8) := Lib.hid (by rw [HV.out]; exact W8.of_row hu hb2)
              clear hS1 hS2 hS3 hS5 hS6 hG8 hb2 hu hg78 HG3 HV
              go_wp2_with fail
              go_roundw
              case rel => exact ⟨i + 1, _, by omega, by go_num, rfl, HW7, HG7⟩
              case measure => simp [intOf]; omega
            · have hLl : (kRound.zip (sched l)).length = 64 := by rw [List.length_zip, sched_length]; rfl
              have H8' : Hid (W8 v11' (rounds (kRound.zip (sched l)) s) wr) := Lib.hid (by
                have h := H8.out
                rw [List.take_of_length_le (by omega)] at h; exact h)
              have ht3 : decide (i < 64) = false := decide_eq_false hlt3
              have HBl : Hid (blockSt s l = s.add (rounds (kRound.zip (sched l)) s)) := Lib.hid rfl
              generalize rounds (kRound.zip (sched l)) s = v at H8' HBl
              have HGw := Lib.hid (HGz.out.trans HG.out)
              obtain ⟨g8, o8, c8, rfl, hc81, hc82, h8⟩ := H8'.out
              have H8c := Lib.hid h8
              have HVw := Lib.hid (fun (j : Nat) u (hj : (stC s)[j]? = some u) => HG.out.cell (HVz.out j u hj))
              obtain ⟨wo, hwo⟩ : ∃ wo, wo = wr := ⟨_, rfl⟩
              rw [← hwo] at HGw H8c HVw
              have HWo : Hid (Gr wo wr) := Lib.hid (by rw [hwo]; exact Gr.refl _)
              clear h8 H8 H8' HG hLl HVz HKz HSz HGz hwo
              go_wp2_with fail
              go_loopw [17, 18] (fun v17 v18 W => ∃ (j : Nat) (V17 : Value), j ≤ 8 ∧ v18 = .int .i64 (j : Int) ∧ V17 = v17 ∧ Hid (Own wo.heap.size 1 V17 j (wdC ((s.add v).list.take j)) W) ∧ Hid (Gr wo W)) (fun _ v18 _ => 8 - (intOf v18).toNat)
              case atStart => exact ⟨0, _, Nat.zero_le _, rfl, rfl, Lib.hid (Own.nil _ _ _), HWo⟩
              clear HWo
              case round =>
                obtain ⟨j, v17, hj1, rfl, rfl, HO, HG⟩ := hrel
                by_cases hlt4 : j < 8
                · have ca := HG.out.cell (HVw.out j _ (stC_list s j hlt4))
                  have cb := HG.out.cell (H8c.out j _ (stC_list v j hlt4))
                  have hla := Lib.hid (list_add s v j hlt4)
                  have hta := Lib.hid (list_take_succ (s.add v).list j hlt4)
                  generalize s.list.getD j 0 = xa at ca hla
                  generalize v.list.getD j 0 = xb at cb hla
                  have hS1 : ∀ n : GrS wr.drew, n.w.cell? ⟨gv, ov + j, none⟩ = some (.int .u32 (xa : Int)) := fun n => n.h.cell (w := wr.drew) ca
                  have hS2 : ∀ n : GrS wr.drew, n.w.cell? ⟨g8, o8 + j, none⟩ = some (.int .u32 (xb : Int)) := fun n => n.h.cell (w := wr.drew) cb
                  clear ca cb
                  go_upto_region 27 with fail
                  refine region_grow16 11 238 (by kernel_rfl) rfl (by kernel_rfl) rfl rfl ?_
                  simp only [List.take_succ_cons, List.take_zero, List.drop_succ_cons, List.drop_zero]
                  refine seg 10 rfl rfl rfl rfl ?_
                  simp only [List.take_succ_cons, List.take_zero, List.drop_succ_cons, List.drop_zero]
                  repeat (go_big_quiet_step (fail))
                  refine wpQuiet_nil ?_
                  intro _
                  refine grow_open (NewRow [.int .u32 (((xa + xb) % 4294967296 : Nat) : Int)] 95) rfl rfl rfl rfl (stb_row _ _) (fun w1 hG => ?_) ?_
                  · go_simp
                    exact new_row1 _ _ _ _ (by omega)
                  refine grow_end1 rfl rfl (by decide) ?_
                  rintro w8 u hG8 ⟨b2, rfl, hb2⟩
                  simp only [Act.put, List.setIfInBounds_toArray, List.set_cons_zero, List.set_cons_succ]
                  have hg78 : Gr wr w8 := Gr.trans (Gr.drew wr) hG8
                  clear hS1 hS2
                  go_wp2_with ((with_reducible show wpList _ _ _ (⟨some 236, _, _, _, _, _⟩ :: _) _ _); refine wpList_append_Own rfl (.tmp 225) (.tmp 235) 96 rfl 95 i64 (.int .u32 0) 1 4 Tryz.underlying96 hi64 hz64 hsz64 hb64 rfl (by decide) rfl (HO.out.gr hg78) ⟨b2, 0, none⟩ 1 1 [.int .u32 (((xa + xb) % 4294967296 : Nat) : Int)] rfl rfl ?hnewsF ?h1cF (by decide) ?b1F ?b2F ?hBF ?_)
                  case hnewsF => exact fun j u hj => match j, hj with
                    | 0, hj => row1_cells hb2 0 u hj
                  case h1cF => rfl
                  case b1F => unfold maxLen; omega
                  case b2F => omega
                  case hBF => have := HG.out.size; have := hg78.size; omega
                  intro v7 w7' hown hchg _
                  have HG7 : Hid (Gr wo w7') := Lib.hid (gr_step' HG.out hg78 hchg (fun g hg => own_ge HO.out hg))
                  have HO7 : Hid (Own wo.heap.size 1 v7 (j + 1) (wdC ((s.add v).list.take (j + 1))) w7') := Lib.hid (by
                    have h := hown
                    rw [show ((xa : Int) + (xb : Int)) % 4294967296 = (((xa + xb) % 4294967296 : Nat) : Int) by omega, wdC_push, ← hla.out, ← hta.out] at h; exact h)
                  clear hown hchg HO HG hb2 hG8 hla hta
                  go_wp2_with fail
                  go_roundw
                  case rel => exact ⟨j + 1, _, by omega, by go_num, rfl, HO7, HG7⟩
                  case measure => simp [intOf]; omega
                · have hj8 : j = 8 := by omega
                  have hOF : Own wo.heap.size 1 v17 8 (stC (s.add v)) wr := by
                    have h := HO.out
                    rw [hj8, List.take_of_length_le (by simp [St.list]), ← stC_wdC] at h; exact h
                  have HWF : Hid (W8 v17 (blockSt s l) wr) := Lib.hid (by rw [HBl.out]; exact W8.of_own hOF)
                  have HGF := Lib.hid (HGw.out.trans HG.out)
                  have ht4 : decide (j < 8) = false := decide_eq_false hlt4
                  clear hOF HO
                  go_wp2_with fail
                  go_ret
                  exact ⟨_, rfl, HWF.out, HGF.out⟩
end Go.Proofs.YtaoggehdkddgeaaGreatDoor
