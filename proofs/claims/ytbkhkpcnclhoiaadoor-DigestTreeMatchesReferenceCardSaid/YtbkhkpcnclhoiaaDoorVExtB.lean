/- The contract of digest.VerifyExtension: its ways. -/
import Derived.Test.YtbkhkpcnclhoiaaDoorVExt
import Derived.RegionTactic
import Derived.ChangeAlike
namespace Go.Proofs.YtbkhkpcnclhoiaaDoor
open Go.RowKit Go.Shelf
attribute [local go_sem] gAt gUpon Oper.semAt_some
attribute [local simp] Gr.refl Gr.alloc

theorem dig_any (s : ByteArray) (w : World) (h : s.size = 32) : Calls Tryd.prog 46 #[.string s] w fun e w' => e = .returned (.bool true) ∧ w = w' := by
  have ht : ((s.size : Int) == 32) = true := by rw [beq_iff_eq]; omega
  go_enter Tryd.func46, Tryd.ntmps46
  go_wp2
  go_ret
  exact ⟨rfl, rfl⟩

set_option maxRecDepth 100000 in
theorem ve_zero (old root : ByteArray) (n : Int) (v : Value) (l : List ByteArray) (w : World) (hv : StrsAt v l w) (hl : l.length ≤ 1099511627776) (ha : allD l = true) (ho : old.size = 32) (hr : root.size = 32) (hn : 0 ≤ n) (hT : Tab w) :
    Calls Tryd.prog 22 #[.string old, .int .i64 0, .string root, .int .i64 n, v] w fun e w' => e = .returned (.bool (decide (l = []) && decide (old = emptyD))) ∧ Gr w w' := by
  have ht2 : decide (n < 0) = false := decide_eq_false (by omega)
  have HDo := Lib.hid (fun w => dig_any old w ho)
  have HDr := Lib.hid (fun w => dig_any root w hr)
  have HA := Lib.hid (all_any v l w hv (by omega))
  rw [ha] at HA
  obtain ⟨p, cap, rfl⟩ := hv.shape
  clear ha hv ho hr
  have HSum := Lib.hid (sum_any ⟨#[]⟩ w (by decide) hT)
  clear hT
  by_cases h0 : l.length = 0
  · have ht5 : ((l.length : Int) == 0) = true := by rw [beq_iff_eq]; omega
    have HZ := Lib.hid h0
    clear h0
    have HR : Hid ((decide (l = []) && decide (old = emptyD)) = decide (old = emptyD)) := Lib.hid (by rw [decide_eq_true (List.eq_nil_of_length_eq_zero HZ.out)]; simp)
    refine (callsIn_wide (n := 6)).1 ?_
    refine callsIn_of_wp_marks Tryd.func22 rfl trivial ?_ rfl
    simp only [Tryd.ntmps22, List.size_toArray, List.length_cons, List.length_nil, Nat.reduceAdd, Nat.reduceSub, Array.replicate_succ, Array.replicate_zero, List.push_toArray, List.append_toArray, List.nil_append, List.cons_append]
    refine wpIn_wide.2 ?_
    go_wp2_with fail
    refine HA.out.mono ?_
    rintro e w' ⟨rfl, rfl⟩
    clear HA
    go_wp2_with (first | (go_at_call 46; refine (HDo.out _).mono ?_; rintro e w' ⟨rfl, rfl⟩) | (go_at_call 46; refine (HDr.out _).mono ?_; rintro e w' ⟨rfl, rfl⟩))
    refine HSum.out.mono ?_
    rintro e wl ⟨rfl, hgl⟩
    go_wp2_with fail
    exact ⟨_, results_tmp rfl _ _ _, by rw [HR.out, ← beq_string]; rfl, hgl⟩
  · have ht5 : ((l.length : Int) == 0) = false := by rw [beq_eq_false_iff_ne]; omega
    have HR : Hid ((decide (l = []) && decide (old = emptyD)) = false) := Lib.hid (by rw [decide_eq_false (fun e => h0 (by rw [e]; rfl))]; simp)
    clear HSum
    refine (callsIn_wide (n := 6)).1 ?_
    refine callsIn_of_wp_marks Tryd.func22 rfl trivial ?_ rfl
    simp only [Tryd.ntmps22, List.size_toArray, List.length_cons, List.length_nil, Nat.reduceAdd, Nat.reduceSub, Array.replicate_succ, Array.replicate_zero, List.push_toArray, List.append_toArray, List.nil_append, List.cons_append]
    refine wpIn_wide.2 ?_
    go_wp2_with fail
    refine HA.out.mono ?_
    rintro e w' ⟨rfl, rfl⟩
    clear HA
    go_wp2_with (first | (go_at_call 46; refine (HDo.out _).mono ?_; rintro e w' ⟨rfl, rfl⟩) | (go_at_call 46; refine (HDr.out _).mono ?_; rintro e w' ⟨rfl, rfl⟩))
    exact ⟨_, results_tmp rfl _ _ _, by rw [HR.out]; rfl, Gr.refl _⟩

set_option maxRecDepth 100000 in
theorem ve_same (old root : ByteArray) (m : Int) (v : Value) (l : List ByteArray) (w : World) (hv : StrsAt v l w) (hl : l.length ≤ 1099511627776) (ha : allD l = true) (ho : old.size = 32) (hr : root.size = 32) (hm : 0 < m) :
    Calls Tryd.prog 22 #[.string old, .int .i64 m, .string root, .int .i64 m, v] w fun e w' => e = .returned (.bool (decide (l = []) && decide (old = root))) ∧ Gr w w' := by
  have ht1 : decide (m < 0) = false := decide_eq_false (by omega)
  have ht6 : (m == 0) = false := by rw [beq_eq_false_iff_ne]; omega
  have HDo := Lib.hid (fun w => dig_any old w ho)
  have HDr := Lib.hid (fun w => dig_any root w hr)
  have HA := Lib.hid (all_any v l w hv (by omega))
  rw [ha] at HA
  obtain ⟨p, cap, rfl⟩ := hv.shape
  clear ha hv ho hr
  by_cases h0 : l.length = 0
  · have ht5 : ((l.length : Int) == 0) = true := by rw [beq_iff_eq]; omega
    have HZ := Lib.hid h0
    clear h0
    have HR : Hid ((decide (l = []) && decide (old = root)) = decide (old = root)) := Lib.hid (by rw [decide_eq_true (List.eq_nil_of_length_eq_zero HZ.out)]; simp)
    refine (callsIn_wide (n := 6)).1 ?_
    refine callsIn_of_wp_marks Tryd.func22 rfl trivial ?_ rfl
    simp only [Tryd.ntmps22, List.size_toArray, List.length_cons, List.length_nil, Nat.reduceAdd, Nat.reduceSub, Array.replicate_succ, Array.replicate_zero, List.push_toArray, List.append_toArray, List.nil_append, List.cons_append]
    refine wpIn_wide.2 ?_
    go_wp2_with fail
    refine HA.out.mono ?_
    rintro e w' ⟨rfl, rfl⟩
    clear HA
    go_wp2_with (first | (go_at_call 46; refine (HDo.out _).mono ?_; rintro e w' ⟨rfl, rfl⟩) | (go_at_call 46; refine (HDr.out _).mono ?_; rintro e w' ⟨rfl, rfl⟩))
    exact ⟨_, results_tmp rfl _ _ _, by rw [HR.out, ← beq_string]; rfl, Gr.refl _⟩
  · have ht5 : ((l.length : Int) == 0) = false := by rw [beq_eq_false_iff_ne]; omega
    have HR : Hid ((decide (l = []) && decide (old = root)) = false) := Lib.hid (by rw [decide_eq_false (fun e => h0 (by rw [e]; rfl))]; simp)
    refine (callsIn_wide (n := 6)).1 ?_
    refine callsIn_of_wp_marks Tryd.func22 rfl trivial ?_ rfl
    simp only [Tryd.ntmps22, List.size_toArray, List.length_cons, List.length_nil, Nat.reduceAdd, Nat.reduceSub, Array.replicate_succ, Array.replicate_zero, List.push_toArray, List.append_toArray, List.nil_append, List.cons_append]
    refine wpIn_wide.2 ?_
    go_wp2_with fail
    refine HA.out.mono ?_
    rintro e w' ⟨rfl, rfl⟩
    clear HA
    go_wp2_with (first | (go_at_call 46; refine (HDo.out _).mono ?_; rintro e w' ⟨rfl, rfl⟩) | (go_at_call 46; refine (HDr.out _).mono ?_; rintro e w' ⟨rfl, rfl⟩))
    exact ⟨_, results_tmp rfl _ _ _, by rw [HR.out]; rfl, Gr.refl _⟩

set_option maxRecDepth 100000 in
set_option maxHeartbeats 4000000 in
theorem ve_in (old root : ByteArray) (m n : Nat) (v : Value) (l : List ByteArray) (w : World) (hv : StrsAt v l w) (hl : l.length ≤ 1099511627776) (ha : allD l = true) (ho : old.size = 32) (hr : root.size = 32) (hm : 0 < m) (hmn : m < n) (hn : n ≤ 9223372036854775807) (hT : Tab w) :
    Calls Tryd.prog 22 #[.string old, .int .i64 m, .string root, .int .i64 n, v] w fun e w' => e = .returned (.bool (decide (bothR old l.reverse m n true = some (old, root)))) ∧ Gr w w' := by
  obtain ⟨i57, hi57, hz57, hsz57, hb57⟩ := info_parts info57
  have ht1 : decide ((m : Int) < 0) = false := decide_eq_false (by omega)
  have ht2 : decide (n < m) = false := decide_eq_false (by omega)
  have ht6 : ((m : Int) == 0) = false := by rw [beq_eq_false_iff_ne]; omega
  have ht7 : ((m : Int) == (n : Int)) = false := by rw [beq_eq_false_iff_ne]; omega
  have HV := Lib.hid hv
  have HT := Lib.hid hT
  have HD := Lib.hid (allD_iff.1 ha)
  have HO32 := Lib.hid ho
  have HDo := Lib.hid (fun w => dig_any old w ho)
  have HDr := Lib.hid (fun w => dig_any root w hr)
  have HA := Lib.hid (all_any v l w hv (by omega))
  rw [ha] at HA
  obtain ⟨p, cap, rfl⟩ := hv.shape
  clear ha hv ho hr
  clear hT
  refine (callsIn_wide (n := 6)).1 ?_
  refine callsIn_of_wp_marks Tryd.func22 rfl trivial ?_ rfl
  simp only [Tryd.ntmps22, List.size_toArray, List.length_cons, List.length_nil, Nat.reduceAdd, Nat.reduceSub, Array.replicate_succ, Array.replicate_zero, List.push_toArray, List.append_toArray, List.nil_append, List.cons_append]
  refine wpIn_wide.2 ?_
  go_wp2_with fail
  refine HA.out.mono ?_
  rintro e w' ⟨rfl, rfl⟩
  clear HA
  go_wp2_with (first | (go_at_call 46; refine (HDo.out _).mono ?_; rintro e w' ⟨rfl, rfl⟩) | (go_at_call 46; refine (HDr.out _).mono ?_; rintro e w' ⟨rfl, rfl⟩))
  clear ht1 ht2 ht6 ht7
  go_loopw [1, 3, 4, 11, 12] (fun v1 v3 v4 v11 v12 W => ∃ (M N : Nat) (b : Bool) (P : List ByteArray) (L : List (ByteArray × Bool)) (V4 V11 : Value), 0 < M ∧ M ≤ N ∧ N ≤ 9223372036854775807 ∧ v1 = .int .i64 (M : Int) ∧ v3 = .int .i64 (N : Int) ∧ v12 = .bool b ∧ V4 = v4 ∧ V11 = v11 ∧ P.length + L.length = l.length ∧
      Hid (StrsAt V4 P w) ∧ Hid (Own w.heap.size 2 V11 L.length (wC L) W) ∧ Hid (Gr w W) ∧ Hid (∀ x ∈ P, x.size = 32) ∧ Hid (∀ x ∈ L, x.1.size = 32) ∧ Hid (bothR old l.reverse m n true = (bothR old P.reverse M N b).map (fun p => (L.foldr stepF p.1, L.foldr joinD p.2)))) (fun _ v3 _ _ _ _ => (intOf v3).toNat)
  case atStart =>
    exact ⟨m, n, true, l, [], _, _, hm, by omega, hn, rfl, rfl, rfl, rfl, rfl, by simp, HV, Lib.hid (Own.nil _ _ _), Lib.hid (Gr.refl _), HD, Lib.hid (by simp), Lib.hid (by simp)⟩
  clear HV HD hmn hm hn
  case round =>
    obtain ⟨M, N, b, P, L, v4, v11, hM0, hMN, hN, rfl, rfl, rfl, rfl, rfl, hPL, HP, HO, HG, HPs, HLs, HVal⟩ := hrel
    by_cases h1 : M < N
    · have ht1 : decide (M < N) = true := decide_eq_true (by omega)
      rcases snoc_cases P with rfl | ⟨Q, x, rfl⟩
      · obtain ⟨p4, c4, rfl⟩ := HP.out.shape
        have HR : Hid (decide (bothR old l.reverse m n true = some (old, root)) = false) := Lib.hid (by
          rw [HVal.out, List.reverse_nil, bothR, if_pos h1]; rfl)
        clear HP HO HVal
        go_wp2_with (go_at_call 43; refine (take0_any _ _ _).mono ?_; rintro e w' ⟨rfl, rfl⟩)
        exact ⟨_, results_tmp rfl _ _ _, by rw [HR.out]; rfl, HG.out⟩
      · obtain ⟨g, off, c4, rfl, hcap, hcm, hc⟩ := HP.out.shape_snoc
        have hcx : wr.cell? ⟨g, off + Q.length, none⟩ = some (.string x) := HG.out.cell (hc _ _ (by simp))
        rw [List.length_append, List.length_singleton] at hPL
        have HTk := Lib.hid (take_any g off Q.length c4 x wr (by omega) hcap hcx)
        have HLf0 := fun w => left_any N (by omega) hN w
        have hK1 := (lp_spec N (by omega)).1
        have hK0 := lp_pos N
        have HStep := Lib.hid (both_step old Q x b h1)
        generalize lp N = K at HLf0 hK1 hK0 HStep
        have HLf := Lib.hid HLf0
        clear HLf0
        have HX : Hid (x.size = 32) := Lib.hid (HPs.out x (by simp))
        have HPQ : Hid (∀ y ∈ Q, y.size = 32) := Lib.hid (fun y hy => HPs.out y (by simp [hy]))
        have HSQ : Hid (StrsAt (.slice (some ⟨g, off, none⟩) Q.length c4) Q w) := Lib.hid (.inr ⟨g, off, c4, rfl, by omega, hcm, fun j y hj => hc j y (by rw [List.getElem?_append_left (List.getElem?_eq_some_iff.1 hj).1]; exact hj)⟩)
        clear hc HP HPs hcx
        go_upto_region 16 with (first | (go_at_call 43; refine HTk.out.mono ?_; rintro e wt ⟨rfl, hgt⟩) | (go_at_call 37; refine (HLf.out _).mono ?_; rintro e wl ⟨rfl, rfl⟩) | ((with_reducible show wpList _ _ _ (⟨some 88, _, _, _, _, _⟩ :: _) _ _); refine wpList_append_Own rfl (.tmp 81) (.tmp 87) 53 rfl 57 i57 (.agg #[.string ⟨#[]⟩, .bool false]) 2 24 Tryd.underlying53 hi57 hz57 hsz57 hb57 rfl (by decide) rfl (HO.out.gr ?hgA) ⟨wt.heap.size, 0, none⟩ 1 1 [.string x, .bool (decide (K < M))] rfl rfl ?hnewsA ?h1cA (by decide) ?b1A ?b2A ?hBA ?_))
        case hgA => exact hgt.trans (Gr.alloc _ _)
        case hnewsA => exact row_new _ _ _ rfl
        case h1cA => intro u hu; simp at hu; rcases hu with rfl | rfl <;> rfl
        case b1A => unfold maxLen; omega
        case b2A => omega
        case hBA => have := hgt.size; have := HG.out.size; simp; omega
        intro v3 w3 hown hchg _
        have hgA : Gr wr (wt.alloc (.cells #[.string x, .bool (decide (K < M))] 57)) := hgt.trans (Gr.alloc _ _)
        have HG3 : Hid (Gr w w3) := Lib.hid (gr_step HG.out hgA hchg (fun g hg => HO.out.ge hg))
        have HO3 : Hid (Own w.heap.size 2 v3 (L ++ [(x, decide (K < M))]).length (wC (L ++ [(x, decide (K < M))])) w3) := Lib.hid (by
          rw [← wC_push, List.length_append, List.length_singleton]; exact hown)
        clear hown hchg hgA HO HTk HLf
        have HL3 : Hid (∀ y ∈ L ++ [(x, decide (K < M))], y.1.size = 32) := Lib.hid (fun y hy => by
          rcases List.mem_append.1 hy with hy | hy
          · exact HLs.out y hy
          · simp at hy; subst hy; exact HX.out)
        by_cases hKM : K < M
        · have ht3 : decide (K < M) = true := decide_eq_true hKM
          rw [ht3] at HO3 HL3 HStep
          have HV3 : Hid (bothR old l.reverse m n true = (bothR old Q.reverse (M - K) (N - K) false).map (fun p => ((L ++ [(x, true)]).foldr stepF p.1, (L ++ [(x, true)]).foldr joinD p.2))) := Lib.hid (by
            rw [HVal.out, HStep.out, Option.map_map]
            simp only [if_true]
            congr 1
            funext v
            simp)
          clear HStep HVal HLs
          go_wp2_with fail
          go_roundw
          case rel => exact ⟨M - K, N - K, false, Q, L ++ [(x, true)], _, _, by omega, by omega, by omega, by go_num, by go_num, rfl, rfl, rfl, by rw [List.length_append, List.length_singleton]; omega, HSQ, HO3, HG3, HPQ, HL3, HV3⟩
          case measure => simp [intOf]; omega
        · have ht3 : decide (K < M) = false := decide_eq_false hKM
          rw [ht3] at HO3 HL3 HStep
          have HV3 : Hid (bothR old l.reverse m n true = (bothR old Q.reverse M K b).map (fun p => ((L ++ [(x, false)]).foldr stepF p.1, (L ++ [(x, false)]).foldr joinD p.2))) := Lib.hid (by
            rw [HVal.out, HStep.out, Option.map_map]
            simp only [if_false, Bool.false_eq_true]
            congr 1
            funext v
            simp)
          clear HStep HVal HLs
          go_wp2_with fail
          go_roundw
          case rel => exact ⟨M, K, b, Q, L ++ [(x, false)], _, _, by omega, by omega, by omega, rfl, rfl, rfl, rfl, rfl, by rw [List.length_append, List.length_singleton]; omega, HSQ, HO3, HG3, HPQ, HL3, HV3⟩
          case measure => simp [intOf]; omega
    · have ht1 : decide (M < N) = false := decide_eq_false h1
      obtain ⟨p4, c4, rfl⟩ := HP.out.shape
      obtain ⟨hLl, hsd⟩ := HO.out.sides
      obtain ⟨p11, c11, rfl⟩ := HO.out.slice
      have HS := Lib.hid hsd
      have HB : Hid (∀ k, blk L.length (.slice p11 L.length c11) = some k → k < wr.heap.size) := Lib.hid (HS.out.blk_lt rfl)
      cases b with
      | false =>
        by_cases hP1 : P.length = 1
        · rw [hP1] at HP ⊢
          obtain ⟨z, rfl⟩ := List.length_eq_one_iff.1 hP1
          obtain ⟨g, off, cz, hsl, hcz, hcm, hc⟩ : ∃ g off cz, Value.slice p4 1 c4 = .slice (some ⟨g, off, none⟩) 1 cz ∧ 1 ≤ cz ∧ cz ≤ maxLen ∧ ∀ (j : Nat) y, [z][j]? = some y → w.cell? ⟨g, off + j, none⟩ = some (.string y) := by
            rcases HP.out with ⟨_, h⟩ | ⟨g, off, cz, h, h1, h2, h3⟩
            · cases h
            · exact ⟨g, off, cz, h, h1, h2, h3⟩
          injection hsl with e1 _ e2
          subst e1 e2
          have hcw : wr.cell? ⟨g, off, none⟩ = some (.string z) := HG.out.cell (hc 0 z rfl)
          have hgl : g < wr.heap.size := World.block_lt_of_cell? _ _ hcw
          have HZs : Hid (z.size = 32) := Lib.hid (HPs.out z (by simp))
          have HR : Hid (decide (bothR old l.reverse m n true = some (old, root)) = (decide (L.foldr stepF z = old) && decide (L.foldr joinD z = root))) := Lib.hid (by
            rw [HVal.out]
            simp [bothR, h1])
          have HLs0 := HLs
          obtain ⟨q, hq⟩ : ∃ q, L.length = q := ⟨_, rfl⟩
          have Hm := Lib.hid hq
          rw [hq] at HS HB hPL ⊢
          clear hq
          obtain ⟨F, hF⟩ : ∃ F : _root_.Fin q → ByteArray × Bool, ∀ k, F k = L.reverse.getD k.1 (⟨#[]⟩, false) := ⟨_, fun _ => rfl⟩
          have HF0 := Lib.hid hF
          have HFs : Hid (∀ k, (F k).1.size = 32) := Lib.hid (fun k => by
            have hk := k.2
            have h2 := Hm.out
            rw [hF, List.getD_eq_getElem?_getD, List.getElem?_eq_getElem (by rw [List.length_reverse]; omega)]
            exact HLs.out _ (List.mem_reverse.1 (List.getElem_mem _)))
          have HFl1 : Hid (foldFst F z (List.finRange q) = L.foldr stepF z) := Lib.hid (foldFst_rev L Hm.out F hF _)
          have HFl2 : Hid (foldJ F z (List.finRange q) = L.foldr joinD z) := Lib.hid (foldJ_rev L Hm.out F hF _)
          clear hF HLs HLs0 HO HVal hsd HP HPs hLl hc hP1
          go_upto_region 23 with fail
          refine wp_gen (F := fun x => Gr wr x ∧ Boxed x wr.heap.size 9 (.string old) ∧ Boxed x (wr.heap.size + 1) 9 (.string old)) ?hfacts0 ?_
          case hfacts0 =>
            refine ⟨(Gr.alloc _ _).trans (Gr.alloc _ _), ?_, ?_⟩
            · exact (Boxed.new _ _ _).alloc _
            · have := Boxed.new (wr.alloc (.cells #[.string old] 9)) 9 (.string old)
              rw [World.size_alloc] at this; exact this
          rintro x0 ⟨hG0, hb10, hb20⟩
          have hz0 : x0.cell? ⟨g, off, none⟩ = some (.string z) := hG0.cell hcw
          have hz1 := hb10.cell
          have hz2 := hb20.cell
          have hf1 := hb10.frozen
          have hf2 := hb20.frozen
          have hne1 : g ≠ wr.heap.size := by omega
          have hne2 : g ≠ wr.heap.size + 1 := by omega
          have HG0 := Lib.hid hG0
          have HB1 := Lib.hid hb10
          have HB2 := Lib.hid hb20
          clear hG0 hb10 hb20 hcw
          go_region
          go_upto_region 24 with fail
          clear hz0 hz1 hz2 hf1 hf2 hne1 hne2
          refine wp_gen (F := fun x => Gr wr x ∧ Boxed x wr.heap.size 9 (.string z) ∧ Boxed x (wr.heap.size + 1) 9 (.string z)) ?hfacts ?_
          case hfacts =>
            have h1 : Chg (some wr.heap.size) x0 (x0.setCell ⟨wr.heap.size, 0, none⟩ (.string z)) := setCells_chg wr.heap.size [_] 0 x0
            have h2 : Chg (some (wr.heap.size + 1)) (x0.setCell ⟨wr.heap.size, 0, none⟩ (.string z)) ((x0.setCell ⟨wr.heap.size, 0, none⟩ (.string z)).setCell ⟨wr.heap.size + 1, 0, none⟩ (.string z)) := setCells_chg (wr.heap.size + 1) [_] 0 _
            have h3 : Below wr.heap.size wr x0 := HG0.out
            refine ⟨((h3.trans (h1.below (fun k hk => by cases hk; exact Nat.le_refl _) h3.size)).trans (h2.below (fun k hk => by cases hk; omega) (Nat.le_trans h3.size h1.size))).drew, ?_, ?_⟩
            · exact (HB1.out.set _).other (by omega) _
            · exact ((HB2.out.other (by omega) _).set _ : Boxed ((x0.setCell ⟨wr.heap.size, 0, none⟩ (.string z)).setCell ⟨wr.heap.size + 1, 0, none⟩ (.string z)) _ _ _)
          rintro x ⟨hGx, hb1, hb2⟩
          have hx2 := hb2.lt
          go_wp2_with fail
          refine (backW_any _ _ _ _).mono ?_
          rintro e w' ⟨rfl, rfl⟩
          go_wp2_with fail
          refine wp_gen (F := fun y => Gr x y ∧ y.heap[x.heap.size]? = some (.cells #[.slice p11 q c11] 53 (0, 0)) ∧ x.heap.size < y.heap.size) ⟨Gr.alloc _ _, heap_alloc_new _ _, by simp⟩ ?_
          rintro y ⟨hGy, hy1, hy2⟩
          have hI0 : Box2I w y.heap.size wr.heap.size (wr.heap.size + 1) 9 (fun pre : List (_root_.Fin q) => .string (foldFst F z pre)) (fun pre => .string (foldJ F z pre)) [] y :=
            ⟨⟨hGy.block hb1, HT.out.gr (HG.out.trans (hGx.trans hGy)), HG.out.trans (hGx.trans hGy), Nat.le_refl _⟩, hGy.block hb2⟩
          have hwx : w.heap.size ≤ wr.heap.size := HG.out.size
          have htab : 0 < w.heap.size := HT.out.lt
          refine (wpIn_wide (n := 6)).1 ?_
          refine wpIn_rangeFunc_box 20 (fun k => #[.string (F k).1, .bool (F k).2]) 57 rfl (by decide) (gf := 57) (lb := #[.pointer (some ⟨x.heap.size, 0, none⟩)]) rfl trivial (enters_of Tryd.func57 (by kernel_rfl) rfl)
            (backW_stops 5 (by decide) L x.heap.size q c11 p11 Hm.out (by omega) F HF0.out y (HS.out.gr (hGx.trans hGy)) hy1)
            KpB.t (KpB.put hy2 (fun k e => by have := HB.out k e; omega)) (Below.refl _ _) (fun _ => rfl)
            (Box2I w y.heap.size wr.heap.size (wr.heap.size + 1) 9 (fun pre : List (_root_.Fin q) => .string (foldFst F z pre)) (fun pre => .string (foldJ F z pre))) (fun _ _ _ => False)
            (box2I_own w y _ _ _ _ _ (by omega) (by omega) (by omega) (by omega)) (fun _ _ _ _ _ h _ _ => h) hI0
            (fun pre W h => h.1.2.2.2) (fun pre W o h => h.gr (Gr.alloc W o)) (fun pre W o h => KpB.chg (Chg.of_gr (g := none) (Gr.alloc W o)) (by have := h.1.2.2.2; omega) (by simp) (fun k e => by have := h.1.2.2.2; have := HB.out k e; exact ⟨by omega, by simp⟩))
            ?assign ?body ?done ?stop
          case stop => intro D c pre W _ _ h _; exact h.elim
          case assign =>
            intro l' k W K hK
            simp [boxAct] at hK
            gi_wp2
            exact hK
          case body =>
            intro l' pre k Bx W hBx HI hX hpl2
            have hyW := HI.1.2.2.2
            have hXlt : Bx < W.heap.size := (Array.getElem?_eq_some_iff.1 hX).1
            have hP1 := Lib.hid (foldFst_push F z pre k)
            have hP2 := Lib.hid (foldJ_push F z pre k)
            have hs1 := foldFst_size F z HZs.out pre
            have hs2 := foldJ_size F z HZs.out pre
            have hel := HFs.out k
            clear hI0 hb1 hb2 hy1
            unfold boxAct
            cases hF2 : (F k).2 with
            | true =>
              have hcx0 : W.cell? ⟨Bx, 0, none⟩ = some (.string (F k).1) := cell_of_row _ _ _ _ _ _ hX
              have hcx1 : W.cell? ⟨Bx, 1, none⟩ = some (.bool true) := by rw [← hF2]; exact cell_of_row _ _ _ _ _ _ hX
              have hc1 : W.cell? ⟨wr.heap.size, 0, none⟩ = some (.string (foldFst F z pre)) := HI.1.1.cell
              have hN : Calls Tryd.prog 45 #[.agg #[.string (F k).1, .bool true], .string (foldFst F z pre)] W fun e w' => e = .returned (.string (stepF (F k) (foldFst F z pre))) ∧ Gr W w' := by
                have h := join_any (F k) (foldFst F z pre) W (by omega) HI.1.2.1
                unfold sideV at h
                rw [hF2] at h
                unfold stepF
                rw [hF2]; exact h
              have HN := Lib.hid hN
              have HJ := Lib.hid HI
              have HX := Lib.hid hX
              have HF2 := Lib.hid hF2
              clear hN HI hX
              gi_wp2_with fail
              refine ⟨trivial, ?_⟩
              refine (CallsIn.inRound l' (callsIn_wide.2 HN.out)).mono ?_
              rintro e W1 ⟨rfl, hg1⟩
              have hj1 : BoxI w y.heap.size wr.heap.size 9 (fun pre : List (_root_.Fin q) => .string (foldFst F z pre)) (pre ++ [k]) (W1.setCell ⟨wr.heap.size, 0, none⟩ (.string (stepF (F k) (foldFst F z pre)))) := by
                have := boxI_set (pre' := pre ++ [k]) HJ.out.1 hg1 (by omega) (by omega)
                rw [hP1.out] at this
                exact this
              have hj2 : Boxed (W1.setCell ⟨wr.heap.size, 0, none⟩ (.string (stepF (F k) (foldFst F z pre)))) (wr.heap.size + 1) 9 (.string (foldJ F z pre)) := (show Boxed W1 (wr.heap.size + 1) 9 (.string (foldJ F z pre)) from hg1.block HJ.out.2).other (by omega) _
              have hch1 : Chg (some wr.heap.size) W (W1.setCell ⟨wr.heap.size, 0, none⟩ (.string (stepF (F k) (foldFst F z pre)))) := (Chg.of_gr hg1).trans (setCells_chg wr.heap.size [_] 0 W1)
              have hbx := hch1.block HX.out (by simp; omega)
              have hcA := hg1.cell hc1
              have hfA : W1.frozen? ⟨wr.heap.size, 0, none⟩ = false := (show Boxed W1 wr.heap.size 9 (.string (foldFst F z pre)) from hg1.block HJ.out.1.1).frozen
              clear hcx0 hcx1 hc1 HN hg1 HJ HX
              have HJ1 := Lib.hid hj1
              have HJ2 := Lib.hid hj2
              have HC1 := Lib.hid hch1
              have HBX := Lib.hid hbx
              have hcx0 : (W1.setCell ⟨wr.heap.size, 0, none⟩ (.string (stepF (F k) (foldFst F z pre)))).cell? ⟨Bx, 0, none⟩ = some (.string (F k).1) := cell_of_row _ _ _ _ _ _ hbx
              have hcx1 : (W1.setCell ⟨wr.heap.size, 0, none⟩ (.string (stepF (F k) (foldFst F z pre)))).cell? ⟨Bx, 1, none⟩ = some (.bool true) := by rw [← HF2.out]; exact cell_of_row _ _ _ _ _ _ hbx
              have hcB : (W1.setCell ⟨wr.heap.size, 0, none⟩ (.string (stepF (F k) (foldFst F z pre)))).cell? ⟨wr.heap.size + 1, 0, none⟩ = some (.string (foldJ F z pre)) := hj2.cell
              clear hj1 hj2 hch1 hbx
              gi_wp2_with fail
              have hN2 : Calls Tryd.prog 45 #[.agg #[.string (F k).1, .bool true], .string (foldJ F z pre)] (W1.setCell ⟨wr.heap.size, 0, none⟩ (.string (stepF (F k) (foldFst F z pre)))) fun e w' => e = .returned (.string (joinD (F k) (foldJ F z pre))) ∧ Gr (W1.setCell ⟨wr.heap.size, 0, none⟩ (.string (stepF (F k) (foldFst F z pre)))) w' := by
                have h := join_any (F k) (foldJ F z pre) (W1.setCell ⟨wr.heap.size, 0, none⟩ (.string (stepF (F k) (foldFst F z pre)))) (by omega) HJ1.out.2.1
                unfold sideV at h
                rw [HF2.out] at h
                exact h
              refine ⟨trivial, ?_⟩
              refine (CallsIn.inRound l' (callsIn_wide.2 hN2)).mono ?_
              rintro e W2 ⟨rfl, hg2⟩
              have hcC := hg2.cell hcB
              have hfC : W2.frozen? ⟨wr.heap.size + 1, 0, none⟩ = false := (show Boxed W2 (wr.heap.size + 1) 9 (.string (foldJ F z pre)) from hg2.block HJ2.out).frozen
              have hend1 := boxI_other (b2 := wr.heap.size + 1) (v := .string (joinD (F k) (foldJ F z pre))) HJ1.out hg2 (by omega) (by omega) (by omega)
              have hend2 : Boxed (W2.setCell ⟨wr.heap.size + 1, 0, none⟩ (.string (joinD (F k) (foldJ F z pre)))) (wr.heap.size + 1) 9 (.string (joinD (F k) (foldJ F z pre))) := (show Boxed W2 (wr.heap.size + 1) 9 (.string (foldJ F z pre)) from hg2.block HJ2.out).set _
              have hch2 : Chg (some (wr.heap.size + 1)) (W1.setCell ⟨wr.heap.size, 0, none⟩ (.string (stepF (F k) (foldFst F z pre)))) (W2.setCell ⟨wr.heap.size + 1, 0, none⟩ (.string (joinD (F k) (foldJ F z pre)))) := (Chg.of_gr hg2).trans (setCells_chg (wr.heap.size + 1) [_] 0 W2)
              have HE1 := Lib.hid hend1
              have HE2 := Lib.hid hend2
              have HC2 := Lib.hid hch2
              clear hN2 hg2 hcx0 hcx1 hcB hend1 hend2 hch2
              gi_wp2
              have hsz1 := HC1.out.size
              refine ⟨(keepsFrom_chg HC1.out (fun j e => by cases e; omega)).trans (keepsFrom_chg HC2.out (fun j e => by cases e; omega)), KpB.t (KpB.chg HC1.out (by omega) (by simp; omega) (fun k e => by have := HB.out k e; exact ⟨by omega, by simp; omega⟩)) (KpB.chg HC2.out (by omega) (by simp; omega) (fun k e => by have := HB.out k e; exact ⟨by omega, by simp; omega⟩)), HE1.out, ?_⟩
              show Boxed _ _ _ (.string (foldJ F z (pre ++ [k])))
              rw [hP2.out]
              exact HE2.out
            | false =>
              have hcx0 : W.cell? ⟨Bx, 0, none⟩ = some (.string (F k).1) := cell_of_row _ _ _ _ _ _ hX
              have hcx1 : W.cell? ⟨Bx, 1, none⟩ = some (.bool false) := by rw [← hF2]; exact cell_of_row _ _ _ _ _ _ hX
              have hcB : W.cell? ⟨wr.heap.size + 1, 0, none⟩ = some (.string (foldJ F z pre)) := HI.2.cell
              have hsame : foldFst F z (pre ++ [k]) = foldFst F z pre := by rw [hP1.out, stepF, hF2]; rfl
              have HJ1 : Hid (BoxI w y.heap.size wr.heap.size 9 (fun pre : List (_root_.Fin q) => .string (foldFst F z pre)) (pre ++ [k]) W) := Lib.hid (by
                have h := HI.1
                obtain ⟨i1, i2, i3, i4⟩ := h
                dsimp only at i1
                rw [← hsame] at i1
                exact ⟨i1, i2, i3, i4⟩)
              have HJ2 := Lib.hid HI.2
              have HC1 := Lib.hid (Chg.of_gr (g := none) (Gr.refl W))
              have HF2 := Lib.hid hF2
              clear hX hsame HI hF2
              gi_wp2_with fail
              have hN2 : Calls Tryd.prog 45 #[.agg #[.string (F k).1, .bool false], .string (foldJ F z pre)] W fun e w' => e = .returned (.string (joinD (F k) (foldJ F z pre))) ∧ Gr W w' := by
                have h := join_any (F k) (foldJ F z pre) W (by omega) HJ1.out.2.1
                unfold sideV at h
                rw [HF2.out] at h
                exact h
              refine ⟨trivial, ?_⟩
              refine (CallsIn.inRound l' (callsIn_wide.2 hN2)).mono ?_
              rintro e W2 ⟨rfl, hg2⟩
              have hcC := hg2.cell hcB
              have hfC : W2.frozen? ⟨wr.heap.size + 1, 0, none⟩ = false := (show Boxed W2 (wr.heap.size + 1) 9 (.string (foldJ F z pre)) from hg2.block HJ2.out).frozen
              have hend1 := boxI_other (b2 := wr.heap.size + 1) (v := .string (joinD (F k) (foldJ F z pre))) HJ1.out hg2 (by omega) (by omega) (by omega)
              have hend2 : Boxed (W2.setCell ⟨wr.heap.size + 1, 0, none⟩ (.string (joinD (F k) (foldJ F z pre)))) (wr.heap.size + 1) 9 (.string (joinD (F k) (foldJ F z pre))) := (show Boxed W2 (wr.heap.size + 1) 9 (.string (foldJ F z pre)) from hg2.block HJ2.out).set _
              have hch2 : Chg (some (wr.heap.size + 1)) W (W2.setCell ⟨wr.heap.size + 1, 0, none⟩ (.string (joinD (F k) (foldJ F z pre)))) := (Chg.of_gr hg2).trans (setCells_chg (wr.heap.size + 1) [_] 0 W2)
              have HE1 := Lib.hid hend1
              have HE2 := Lib.hid hend2
              have HC2 := Lib.hid hch2
              clear hN2 hg2 hcx0 hcx1 hcB hend1 hend2 hch2
              gi_wp2
              have hsz1 := HC1.out.size
              refine ⟨(keepsFrom_chg HC1.out (fun j e => by cases e)).trans (keepsFrom_chg HC2.out (fun j e => by cases e; omega)), KpB.t (KpB.chg HC1.out (by omega) (by simp) (fun k e => by have := HB.out k e; exact ⟨by omega, by simp⟩)) (KpB.chg HC2.out (by omega) (by simp; omega) (fun k e => by have := HB.out k e; exact ⟨by omega, by simp; omega⟩)), HE1.out, ?_⟩
              show Boxed _ _ _ (.string (foldJ F z (pre ++ [k])))
              rw [hP2.out]
              exact HE2.out
          case done =>
            rintro D xs W hD rfl HI hK
            have hc1 : W.cell? ⟨wr.heap.size, 0, none⟩ = some (.string (foldFst F z (List.finRange q))) := HI.1.1.cell
            have hc2 : W.cell? ⟨wr.heap.size + 1, 0, none⟩ = some (.string (foldJ F z (List.finRange q))) := HI.2.cell
            have HJ := Lib.hid HI
            have HK := Lib.hid hK
            clear hI0 hb1 hb2 hy1 HI hK
            have HEnd : Hid (∀ D', Gr w (W.putObj D' (.deferred none)) ∨ True) := Lib.hid (fun _ => .inr trivial)
            clear HEnd
            by_cases hA : foldFst F z (List.finRange q) = old
            · have htA : ((foldFst F z (List.finRange q)).toList == old.toList) = true := by rw [beq_string]; exact decide_eq_true hA
              have HA := Lib.hid hA
              clear hA
              go_wp2_with fail
              refine ⟨by simp, .inl ⟨_, _, rfl, run_takeDeferred HK.out, ?_⟩⟩
              refine ⟨_, results_tmp rfl _ _ _, ?_, ?_⟩
              · rw [HR.out, ← HFl1.out, ← HFl2.out, decide_eq_true HA.out, Bool.true_and, ← beq_string]; rfl
              · have h1 := HJ.out.1.2.2.1
                exact (show Below w.heap.size w W from h1).trans ((Chg.of_grownBy (grownBy_putObj' W D _)).below (fun j hj => by simp at hj; omega) h1.size)
            · have htA : ((foldFst F z (List.finRange q)).toList == old.toList) = false := by rw [beq_string]; exact decide_eq_false hA
              have HA := Lib.hid hA
              clear hA
              go_wp2_with fail
              refine ⟨by simp, .inl ⟨_, _, rfl, run_takeDeferred HK.out, ?_⟩⟩
              refine ⟨_, results_tmp rfl _ _ _, ?_, ?_⟩
              · rw [HR.out, ← HFl1.out, decide_eq_false HA.out, Bool.false_and]; rfl
              · have h1 := HJ.out.1.2.2.1
                exact (show Below w.heap.size w W from h1).trans ((Chg.of_grownBy (grownBy_putObj' W D _)).below (fun j hj => by simp at hj; omega) h1.size)
        · have ht2 : ((P.length : Int) != 1) = true := by rw [bne_iff_ne]; omega
          have HR : Hid (decide (bothR old l.reverse m n true = some (old, root)) = false) := Lib.hid (by
            rw [HVal.out]
            cases hr : P.reverse with
            | nil => simp [bothR]
            | cons y r =>
              have hr2 : r ≠ [] := by
                intro e
                rw [e] at hr
                have := congrArg List.length hr
                simp at this; omega
              rw [bothR, if_neg h1, if_neg (by decide), if_neg hr2]; rfl)
          clear HP HO HVal HS HB hsd
          go_wp2_with fail
          exact ⟨_, results_tmp rfl _ _ _, by rw [HR.out]; rfl, HG.out.trans ((Gr.alloc _ _).trans (Gr.alloc _ _))⟩
      | true =>
        have HR : Hid (decide (bothR old l.reverse m n true = some (old, root)) = (decide (P.length = 0) && (decide (L.foldr stepF old = old) && decide (L.foldr joinD old = root)))) := Lib.hid (by
          rw [HVal.out]
          cases P with
          | nil => simp [bothR, h1]
          | cons z P =>
            have : bothR old (z :: P).reverse M N true = none := by
              cases hr : (z :: P).reverse with
              | nil => simp at hr
              | cons z r => rw [bothR, if_neg h1, if_pos rfl]
            rw [this]; simp)
        have HLs0 := HLs
        obtain ⟨q, hq⟩ : ∃ q, L.length = q := ⟨_, rfl⟩
        have Hm := Lib.hid hq
        rw [hq] at HS HB hPL ⊢
        clear hq
        obtain ⟨F, hF⟩ : ∃ F : _root_.Fin q → ByteArray × Bool, ∀ k, F k = L.reverse.getD k.1 (⟨#[]⟩, false) := ⟨_, fun _ => rfl⟩
        have HF0 := Lib.hid hF
        have HFs : Hid (∀ k, (F k).1.size = 32) := Lib.hid (fun k => by
          have hk := k.2
          have h2 := Hm.out
          rw [hF, List.getD_eq_getElem?_getD, List.getElem?_eq_getElem (by rw [List.length_reverse]; omega)]
          exact HLs.out _ (List.mem_reverse.1 (List.getElem_mem _)))
        have HFl1 : Hid (foldFst F old (List.finRange q) = L.foldr stepF old) := Lib.hid (foldFst_rev L Hm.out F hF _)
        have HFl2 : Hid (foldJ F old (List.finRange q) = L.foldr joinD old) := Lib.hid (foldJ_rev L Hm.out F hF _)
        clear hF HLs HLs0 HO HVal hsd HP HPs hLl
        go_upto_region 24 with fail
        refine wp_gen (F := fun x => Gr wr x ∧ Boxed x wr.heap.size 9 (.string old) ∧ Boxed x (wr.heap.size + 1) 9 (.string old)) ?hfacts ?_
        case hfacts =>
          refine ⟨(Gr.alloc _ _).trans (Gr.alloc _ _), ?_, ?_⟩
          · exact (Boxed.new _ _ _).alloc _
          · have := Boxed.new (wr.alloc (.cells #[.string old] 9)) 9 (.string old)
            rw [World.size_alloc] at this; exact this
        rintro x ⟨hGx, hb1, hb2⟩
        have hx2 := hb2.lt
        go_wp2_with fail
        refine (backW_any _ _ _ _).mono ?_
        rintro e w' ⟨rfl, rfl⟩
        go_wp2_with fail
        refine wp_gen (F := fun y => Gr x y ∧ y.heap[x.heap.size]? = some (.cells #[.slice p11 q c11] 53 (0, 0)) ∧ x.heap.size < y.heap.size) ⟨Gr.alloc _ _, heap_alloc_new _ _, by simp⟩ ?_
        rintro y ⟨hGy, hy1, hy2⟩
        have hI0 : Box2I w y.heap.size wr.heap.size (wr.heap.size + 1) 9 (fun pre : List (_root_.Fin q) => .string (foldFst F old pre)) (fun pre => .string (foldJ F old pre)) [] y :=
          ⟨⟨hGy.block hb1, HT.out.gr (HG.out.trans (hGx.trans hGy)), HG.out.trans (hGx.trans hGy), Nat.le_refl _⟩, hGy.block hb2⟩
        have hwx : w.heap.size ≤ wr.heap.size := HG.out.size
        have htab : 0 < w.heap.size := HT.out.lt
        refine (wpIn_wide (n := 6)).1 ?_
        refine wpIn_rangeFunc_box 20 (fun k => #[.string (F k).1, .bool (F k).2]) 57 rfl (by decide) (gf := 57) (lb := #[.pointer (some ⟨x.heap.size, 0, none⟩)]) rfl trivial (enters_of Tryd.func57 (by kernel_rfl) rfl)
          (backW_stops 5 (by decide) L x.heap.size q c11 p11 Hm.out (by omega) F HF0.out y (HS.out.gr (hGx.trans hGy)) hy1)
          KpB.t (KpB.put hy2 (fun k e => by have := HB.out k e; omega)) (Below.refl _ _) (fun _ => rfl)
          (Box2I w y.heap.size wr.heap.size (wr.heap.size + 1) 9 (fun pre : List (_root_.Fin q) => .string (foldFst F old pre)) (fun pre => .string (foldJ F old pre))) (fun _ _ _ => False)
          (box2I_own w y _ _ _ _ _ (by omega) (by omega) (by omega) (by omega)) (fun _ _ _ _ _ h _ _ => h) hI0
          (fun pre W h => h.1.2.2.2) (fun pre W o h => h.gr (Gr.alloc W o)) (fun pre W o h => KpB.chg (Chg.of_gr (g := none) (Gr.alloc W o)) (by have := h.1.2.2.2; omega) (by simp) (fun k e => by have := h.1.2.2.2; have := HB.out k e; exact ⟨by omega, by simp⟩))
          ?assign ?body ?done ?stop
        case stop => intro D c pre W _ _ h _; exact h.elim
        case assign =>
          intro l' k W K hK
          simp [boxAct] at hK
          gi_wp2
          exact hK
        case body =>
          intro l' pre k Bx W hBx HI hX hpl2
          have hyW := HI.1.2.2.2
          have hXlt : Bx < W.heap.size := (Array.getElem?_eq_some_iff.1 hX).1
          have hP1 := Lib.hid (foldFst_push F old pre k)
          have hP2 := Lib.hid (foldJ_push F old pre k)
          have hs1 := foldFst_size F old HO32.out pre
          have hs2 := foldJ_size F old HO32.out pre
          have hel := HFs.out k
          clear hI0 hb1 hb2 hy1
          unfold boxAct
          cases hF2 : (F k).2 with
          | true =>
            have hcx0 : W.cell? ⟨Bx, 0, none⟩ = some (.string (F k).1) := cell_of_row _ _ _ _ _ _ hX
            have hcx1 : W.cell? ⟨Bx, 1, none⟩ = some (.bool true) := by rw [← hF2]; exact cell_of_row _ _ _ _ _ _ hX
            have hc1 : W.cell? ⟨wr.heap.size, 0, none⟩ = some (.string (foldFst F old pre)) := HI.1.1.cell
            have hN : Calls Tryd.prog 45 #[.agg #[.string (F k).1, .bool true], .string (foldFst F old pre)] W fun e w' => e = .returned (.string (stepF (F k) (foldFst F old pre))) ∧ Gr W w' := by
              have h := join_any (F k) (foldFst F old pre) W (by omega) HI.1.2.1
              unfold sideV at h
              rw [hF2] at h
              unfold stepF
              rw [hF2]; exact h
            have HN := Lib.hid hN
            have HJ := Lib.hid HI
            have HX := Lib.hid hX
            have HF2 := Lib.hid hF2
            clear hN HI hX
            gi_wp2_with fail
            refine ⟨trivial, ?_⟩
            refine (CallsIn.inRound l' (callsIn_wide.2 HN.out)).mono ?_
            rintro e W1 ⟨rfl, hg1⟩
            have hj1 : BoxI w y.heap.size wr.heap.size 9 (fun pre : List (_root_.Fin q) => .string (foldFst F old pre)) (pre ++ [k]) (W1.setCell ⟨wr.heap.size, 0, none⟩ (.string (stepF (F k) (foldFst F old pre)))) := by
              have := boxI_set (pre' := pre ++ [k]) HJ.out.1 hg1 (by omega) (by omega)
              rw [hP1.out] at this
              exact this
            have hj2 : Boxed (W1.setCell ⟨wr.heap.size, 0, none⟩ (.string (stepF (F k) (foldFst F old pre)))) (wr.heap.size + 1) 9 (.string (foldJ F old pre)) := (show Boxed W1 (wr.heap.size + 1) 9 (.string (foldJ F old pre)) from hg1.block HJ.out.2).other (by omega) _
            have hch1 : Chg (some wr.heap.size) W (W1.setCell ⟨wr.heap.size, 0, none⟩ (.string (stepF (F k) (foldFst F old pre)))) := (Chg.of_gr hg1).trans (setCells_chg wr.heap.size [_] 0 W1)
            have hbx := hch1.block HX.out (by simp; omega)
            have hcA := hg1.cell hc1
            have hfA : W1.frozen? ⟨wr.heap.size, 0, none⟩ = false := (show Boxed W1 wr.heap.size 9 (.string (foldFst F old pre)) from hg1.block HJ.out.1.1).frozen
            clear hcx0 hcx1 hc1 HN hg1 HJ HX
            have HJ1 := Lib.hid hj1
            have HJ2 := Lib.hid hj2
            have HC1 := Lib.hid hch1
            have HBX := Lib.hid hbx
            have hcx0 : (W1.setCell ⟨wr.heap.size, 0, none⟩ (.string (stepF (F k) (foldFst F old pre)))).cell? ⟨Bx, 0, none⟩ = some (.string (F k).1) := cell_of_row _ _ _ _ _ _ hbx
            have hcx1 : (W1.setCell ⟨wr.heap.size, 0, none⟩ (.string (stepF (F k) (foldFst F old pre)))).cell? ⟨Bx, 1, none⟩ = some (.bool true) := by rw [← HF2.out]; exact cell_of_row _ _ _ _ _ _ hbx
            have hcB : (W1.setCell ⟨wr.heap.size, 0, none⟩ (.string (stepF (F k) (foldFst F old pre)))).cell? ⟨wr.heap.size + 1, 0, none⟩ = some (.string (foldJ F old pre)) := hj2.cell
            clear hj1 hj2 hch1 hbx
            gi_wp2_with fail
            have hN2 : Calls Tryd.prog 45 #[.agg #[.string (F k).1, .bool true], .string (foldJ F old pre)] (W1.setCell ⟨wr.heap.size, 0, none⟩ (.string (stepF (F k) (foldFst F old pre)))) fun e w' => e = .returned (.string (joinD (F k) (foldJ F old pre))) ∧ Gr (W1.setCell ⟨wr.heap.size, 0, none⟩ (.string (stepF (F k) (foldFst F old pre)))) w' := by
              have h := join_any (F k) (foldJ F old pre) (W1.setCell ⟨wr.heap.size, 0, none⟩ (.string (stepF (F k) (foldFst F old pre)))) (by omega) HJ1.out.2.1
              unfold sideV at h
              rw [HF2.out] at h
              exact h
            refine ⟨trivial, ?_⟩
            refine (CallsIn.inRound l' (callsIn_wide.2 hN2)).mono ?_
            rintro e W2 ⟨rfl, hg2⟩
            have hcC := hg2.cell hcB
            have hfC : W2.frozen? ⟨wr.heap.size + 1, 0, none⟩ = false := (show Boxed W2 (wr.heap.size + 1) 9 (.string (foldJ F old pre)) from hg2.block HJ2.out).frozen
            have hend1 := boxI_other (b2 := wr.heap.size + 1) (v := .string (joinD (F k) (foldJ F old pre))) HJ1.out hg2 (by omega) (by omega) (by omega)
            have hend2 : Boxed (W2.setCell ⟨wr.heap.size + 1, 0, none⟩ (.string (joinD (F k) (foldJ F old pre)))) (wr.heap.size + 1) 9 (.string (joinD (F k) (foldJ F old pre))) := (show Boxed W2 (wr.heap.size + 1) 9 (.string (foldJ F old pre)) from hg2.block HJ2.out).set _
            have hch2 : Chg (some (wr.heap.size + 1)) (W1.setCell ⟨wr.heap.size, 0, none⟩ (.string (stepF (F k) (foldFst F old pre)))) (W2.setCell ⟨wr.heap.size + 1, 0, none⟩ (.string (joinD (F k) (foldJ F old pre)))) := (Chg.of_gr hg2).trans (setCells_chg (wr.heap.size + 1) [_] 0 W2)
            have HE1 := Lib.hid hend1
            have HE2 := Lib.hid hend2
            have HC2 := Lib.hid hch2
            clear hN2 hg2 hcx0 hcx1 hcB hend1 hend2 hch2
            gi_wp2
            have hsz1 := HC1.out.size
            refine ⟨(keepsFrom_chg HC1.out (fun j e => by cases e; omega)).trans (keepsFrom_chg HC2.out (fun j e => by cases e; omega)), KpB.t (KpB.chg HC1.out (by omega) (by simp; omega) (fun k e => by have := HB.out k e; exact ⟨by omega, by simp; omega⟩)) (KpB.chg HC2.out (by omega) (by simp; omega) (fun k e => by have := HB.out k e; exact ⟨by omega, by simp; omega⟩)), HE1.out, ?_⟩
            show Boxed _ _ _ (.string (foldJ F old (pre ++ [k])))
            rw [hP2.out]
            exact HE2.out
          | false =>
            have hcx0 : W.cell? ⟨Bx, 0, none⟩ = some (.string (F k).1) := cell_of_row _ _ _ _ _ _ hX
            have hcx1 : W.cell? ⟨Bx, 1, none⟩ = some (.bool false) := by rw [← hF2]; exact cell_of_row _ _ _ _ _ _ hX
            have hcB : W.cell? ⟨wr.heap.size + 1, 0, none⟩ = some (.string (foldJ F old pre)) := HI.2.cell
            have hsame : foldFst F old (pre ++ [k]) = foldFst F old pre := by rw [hP1.out, stepF, hF2]; rfl
            have HJ1 : Hid (BoxI w y.heap.size wr.heap.size 9 (fun pre : List (_root_.Fin q) => .string (foldFst F old pre)) (pre ++ [k]) W) := Lib.hid (by
              have h := HI.1
              obtain ⟨i1, i2, i3, i4⟩ := h
              dsimp only at i1
              rw [← hsame] at i1
              exact ⟨i1, i2, i3, i4⟩)
            have HJ2 := Lib.hid HI.2
            have HC1 := Lib.hid (Chg.of_gr (g := none) (Gr.refl W))
            have HF2 := Lib.hid hF2
            clear hX hsame HI hF2
            gi_wp2_with fail
            have hN2 : Calls Tryd.prog 45 #[.agg #[.string (F k).1, .bool false], .string (foldJ F old pre)] W fun e w' => e = .returned (.string (joinD (F k) (foldJ F old pre))) ∧ Gr W w' := by
              have h := join_any (F k) (foldJ F old pre) W (by omega) HJ1.out.2.1
              unfold sideV at h
              rw [HF2.out] at h
              exact h
            refine ⟨trivial, ?_⟩
            refine (CallsIn.inRound l' (callsIn_wide.2 hN2)).mono ?_
            rintro e W2 ⟨rfl, hg2⟩
            have hcC := hg2.cell hcB
            have hfC : W2.frozen? ⟨wr.heap.size + 1, 0, none⟩ = false := (show Boxed W2 (wr.heap.size + 1) 9 (.string (foldJ F old pre)) from hg2.block HJ2.out).frozen
            have hend1 := boxI_other (b2 := wr.heap.size + 1) (v := .string (joinD (F k) (foldJ F old pre))) HJ1.out hg2 (by omega) (by omega) (by omega)
            have hend2 : Boxed (W2.setCell ⟨wr.heap.size + 1, 0, none⟩ (.string (joinD (F k) (foldJ F old pre)))) (wr.heap.size + 1) 9 (.string (joinD (F k) (foldJ F old pre))) := (show Boxed W2 (wr.heap.size + 1) 9 (.string (foldJ F old pre)) from hg2.block HJ2.out).set _
            have hch2 : Chg (some (wr.heap.size + 1)) W (W2.setCell ⟨wr.heap.size + 1, 0, none⟩ (.string (joinD (F k) (foldJ F old pre)))) := (Chg.of_gr hg2).trans (setCells_chg (wr.heap.size + 1) [_] 0 W2)
            have HE1 := Lib.hid hend1
            have HE2 := Lib.hid hend2
            have HC2 := Lib.hid hch2
            clear hN2 hg2 hcx0 hcx1 hcB hend1 hend2 hch2
            gi_wp2
            have hsz1 := HC1.out.size
            refine ⟨(keepsFrom_chg HC1.out (fun j e => by cases e)).trans (keepsFrom_chg HC2.out (fun j e => by cases e; omega)), KpB.t (KpB.chg HC1.out (by omega) (by simp) (fun k e => by have := HB.out k e; exact ⟨by omega, by simp⟩)) (KpB.chg HC2.out (by omega) (by simp; omega) (fun k e => by have := HB.out k e; exact ⟨by omega, by simp; omega⟩)), HE1.out, ?_⟩
            show Boxed _ _ _ (.string (foldJ F old (pre ++ [k])))
            rw [hP2.out]
            exact HE2.out
        case done =>
          rintro D xs W hD rfl HI hK
          have hc1 : W.cell? ⟨wr.heap.size, 0, none⟩ = some (.string (foldFst F old (List.finRange q))) := HI.1.1.cell
          have hc2 : W.cell? ⟨wr.heap.size + 1, 0, none⟩ = some (.string (foldJ F old (List.finRange q))) := HI.2.cell
          have HJ := Lib.hid HI
          have HK := Lib.hid hK
          clear hI0 hb1 hb2 hy1 HI hK
          have HEnd : Hid (∀ D', Gr w (W.putObj D' (.deferred none)) ∨ True) := Lib.hid (fun _ => .inr trivial)
          clear HEnd
          by_cases hP0 : P.length = 0
          · have ht : ((P.length : Int) == 0) = true := by rw [beq_iff_eq]; omega
            have HPZ := Lib.hid hP0
            clear hP0
            by_cases hA : foldFst F old (List.finRange q) = old
            · have htA : ((foldFst F old (List.finRange q)).toList == old.toList) = true := by rw [beq_string]; exact decide_eq_true hA
              have HA := Lib.hid hA
              clear hA
              go_wp2_with fail
              refine ⟨by simp, .inl ⟨_, _, rfl, run_takeDeferred HK.out, ?_⟩⟩
              refine ⟨_, results_tmp rfl _ _ _, ?_, ?_⟩
              · rw [HR.out, decide_eq_true HPZ.out, Bool.true_and, ← HFl1.out, ← HFl2.out, decide_eq_true HA.out, Bool.true_and, ← beq_string]; rfl
              · have h1 := HJ.out.1.2.2.1
                exact (show Below w.heap.size w W from h1).trans ((Chg.of_grownBy (grownBy_putObj' W D _)).below (fun j hj => by simp at hj; omega) h1.size)
            · have htA : ((foldFst F old (List.finRange q)).toList == old.toList) = false := by rw [beq_string]; exact decide_eq_false hA
              have HA := Lib.hid hA
              clear hA
              go_wp2_with fail
              refine ⟨by simp, .inl ⟨_, _, rfl, run_takeDeferred HK.out, ?_⟩⟩
              refine ⟨_, results_tmp rfl _ _ _, ?_, ?_⟩
              · rw [HR.out, decide_eq_true HPZ.out, Bool.true_and, ← HFl1.out, decide_eq_false HA.out, Bool.false_and]; rfl
              · have h1 := HJ.out.1.2.2.1
                exact (show Below w.heap.size w W from h1).trans ((Chg.of_grownBy (grownBy_putObj' W D _)).below (fun j hj => by simp at hj; omega) h1.size)
          · have ht : ((P.length : Int) == 0) = false := by rw [beq_eq_false_iff_ne]; omega
            have HPZ := Lib.hid hP0
            clear hP0
            go_wp2_with fail
            refine ⟨by simp, .inl ⟨_, _, rfl, run_takeDeferred HK.out, ?_⟩⟩
            refine ⟨_, results_tmp rfl _ _ _, ?_, ?_⟩
            · rw [HR.out, decide_eq_false HPZ.out]; rfl
            · have h1 := HJ.out.1.2.2.1
              exact (show Below w.heap.size w W from h1).trans ((Chg.of_grownBy (grownBy_putObj' W D _)).below (fun j hj => by simp at hj; omega) h1.size)

/-- what VerifyExtension answers -/
def verED (old : ByteArray) (m : Int) (root : ByteArray) (n : Int) (l : List ByteArray) : Bool :=
  decide (0 ≤ m) && decide (m ≤ n) && allD l && decide (old.size = 32) && decide (root.size = 32) &&
    if m = 0 then decide (l = []) && decide (old = emptyD) else decide (bothR old l.reverse m.toNat n.toNat true = some (old, root))
theorem vext_any (old root : ByteArray) (m n : Int) (v : Value) (l : List ByteArray) (w : World) (hv : StrsAt v l w) (hl : l.length ≤ 1099511627776) (hn : n ≤ 9223372036854775807) (hT : Tab w) :
    Calls Tryd.prog 22 #[.string old, .int .i64 m, .string root, .int .i64 n, v] w fun e w' => e = .returned (.bool (verED old m root n l)) ∧ Gr w w' := by
  by_cases h1 : m < 0
  · have hd : verED old m root n l = false := by unfold verED; rw [decide_eq_false (show ¬ 0 ≤ m by omega)]; rfl
    rw [hd]; exact ve_neg old root m n v l w h1
  by_cases h2 : n < m
  · have hd : verED old m root n l = false := by unfold verED; rw [decide_eq_false (show ¬ m ≤ n by omega)]; simp
    rw [hd]; exact ve_big old root m n v l w (by omega) h2
  cases ha : allD l with
  | false =>
    have hd : verED old m root n l = false := by unfold verED; rw [ha]; simp
    rw [hd]; exact ve_odd old root m n v l w hv hl (by omega) (by omega) ha
  | true =>
    by_cases ho : old.size = 32
    · by_cases hr : root.size = 32
      · have hd : verED old m root n l = if m = 0 then decide (l = []) && decide (old = emptyD) else decide (bothR old l.reverse m.toNat n.toNat true = some (old, root)) := by
          unfold verED
          rw [decide_eq_true (show 0 ≤ m by omega), decide_eq_true (show m ≤ n by omega), ha, decide_eq_true ho, decide_eq_true hr]
          simp
        rw [hd]
        by_cases h0 : m = 0
        · subst h0
          rw [if_pos rfl]
          exact ve_zero old root n v l w hv hl ha ho hr (by omega) hT
        · rw [if_neg h0]
          by_cases he : m = n
          · subst he
            have : decide (bothR old l.reverse m.toNat m.toNat true = some (old, root)) = (decide (l = []) && decide (old = root)) := by
              cases hrv : l.reverse with
              | nil =>
                have : l = [] := by simpa using hrv
                subst this
                simp [bothR]
              | cons y r =>
                have : l ≠ [] := by intro e; subst e; simp at hrv
                rw [bothR, if_neg (by omega), if_pos rfl, decide_eq_false this]; rfl
            rw [this]
            exact ve_same old root m v l w hv hl ha ho hr (by omega)
          · obtain ⟨M, rfl⟩ : ∃ M : Nat, m = (M : Int) := ⟨m.toNat, by omega⟩
            obtain ⟨N, rfl⟩ : ∃ N : Nat, n = (N : Int) := ⟨n.toNat, by omega⟩
            exact ve_in old root M N v l w hv hl ha ho hr (by omega) (by omega) (by omega) hT
      · have hd : verED old m root n l = false := by unfold verED; rw [decide_eq_false hr]; simp
        rw [hd]; exact ve_root old root m n v l w hv hl (by omega) (by omega) ha ho hr
    · have hd : verED old m root n l = false := by unfold verED; rw [decide_eq_false ho]; simp
      rw [hd]; exact ve_old old root m n v l w hv hl (by omega) (by omega) ha ho
end Go.Proofs.YtbkhkpcnclhoiaaDoor
