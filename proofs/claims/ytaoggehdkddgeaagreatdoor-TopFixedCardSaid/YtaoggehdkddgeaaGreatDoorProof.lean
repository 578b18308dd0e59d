/- The contracts of slices.Reverse on a slice that the call owns, and of digest.Proof. -/
import Derived.Test.YtaoggehdkddgeaaGreatDoorNI
import Derived.Test.YtaoggehdkddgeaaGreatDoorGRefC
import Derived.WalkMore
import Derived.Outline
namespace Go.Proofs.YtaoggehdkddgeaaGreatDoor
open Go.RowKit Go.Shelf
attribute [local go_sem] gAt gUpon
attribute [local simp] Gr.refl Gr.alloc

theorem sC_length (l : List ByteArray) : (sC l).length = l.length := by simp [sC]
theorem sC_push (l : List ByteArray) (x : ByteArray) : sC l ++ [.string x] = sC (l ++ [x]) := by simp [sC]
theorem Own.strs {B : Nat} {v : Value} {n : Nat} {l : List ByteArray} {w : World} (h : Own B 1 v n (sC l) w) : n = l.length ∧ StrsAt v l w := by
  have hl := h.1
  rw [sC_length] at hl
  have hn : n = l.length := by omega
  subst hn
  refine ⟨rfl, ?_⟩
  rcases h.2 with ⟨h, h0⟩ | ⟨g, off, cap, rfl, hB, hc, hm, hx, hw⟩
  · exact .inl ⟨h, List.eq_nil_of_length_eq_zero h0⟩
  · exact .inr ⟨g, off, cap, rfl, hc, hm, fun j x hj => hx j _ (by rw [sC, List.getElem?_map, hj]; rfl)⟩
theorem enc_strs (l : List ByteArray) (n : Nat) (hn : n = l.length) : (Lib.strsOf (fun i => l.getD i ⟨#[]⟩) n).reverse.map encStr = sC l.reverse := by
  subst hn
  apply List.ext_getElem
  · simp [Lib.strsOf, sC]
  · intro i h1 h2
    simp [Lib.strsOf] at h1
    simp [Lib.strsOf, sC]
    rw [List.getElem?_eq_getElem (by omega)]
    rfl
theorem reverse_any {B : Nat} {v : Value} {n : Nat} {l : List ByteArray} {w : World} (h : Own B 1 v n (sC l) w) (hn : n ≤ 9223372036854775807) :
    Calls Tryz.prog 80 #[v] w fun e w' => e = .returned (.tuple #[]) ∧ Own B 1 v n (sC l.reverse) w' ∧ Chg v.ownBlock w w' := by
  have hl := h.1
  rw [sC_length] at hl
  rcases h.2 with ⟨rfl, h0⟩ | ⟨g, off, cap, rfl, hB, hc, hm, hx, hw⟩
  · subst h0
    refine (Tryz.slices_Reverse_string_empty _ _ w).mono ?_
    rintro e w' ⟨rfl, rfl⟩
    have : l = [] := List.eq_nil_of_length_eq_zero (by omega)
    subst this
    exact ⟨rfl, h, Chg.of_gr (Gr.refl _)⟩
  · refine (Tryz.slices_Reverse_string_cells g off n cap (fun i => l.getD i ⟨#[]⟩) w hn ?_ (fun j hj => (hw j (by omega)).2)).mono ?_
    · intro i hi
      refine hx i _ ?_
      rw [sC, List.getElem?_map, List.getElem?_eq_getElem (by omega), List.getD_eq_getElem?_getD, List.getElem?_eq_getElem (by omega)]; rfl
    rintro e w' ⟨rfl, q, rfl⟩
    rw [enc_strs l n (by omega)]
    have hch : Chg (some g) w ((w.drewN q).setCells g off (sC l.reverse)) := (Chg.of_gr (⟨rfl, rfl, rfl, Nat.le_refl _, fun _ _ => rfl⟩)).trans (setCells_chg g _ off _)
    have hsome : ∀ j, j < (sC l.reverse).length → ((w.drewN q).cell? ⟨g, off + j, none⟩).isSome = true := by
      intro j hj
      rw [sC_length, List.length_reverse] at hj
      exact (hw j (by omega)).1
    refine ⟨rfl, ⟨by rw [sC_length, List.length_reverse]; omega, .inr ⟨g, off, cap, rfl, hB, hc, hm, ?_, ?_⟩⟩, hch⟩
    · intro j u hj
      have hjl := (List.getElem?_eq_some_iff.1 hj).1
      rw [World.cell?_setCells_in g (sC l.reverse) off (w.drewN q) hsome j hjl]
      exact congrArg some (List.getElem?_eq_some_iff.1 hj).2
    · intro j hj
      refine ⟨World.isSome_setCells g _ _ _ _ (hw j hj).1, ?_⟩
      rw [World.frozen?_setCells]; exact (hw j hj).2

set_option maxRecDepth 100000 in
set_option maxHeartbeats 4000000 in
theorem proof_in (v : Value) (l : List ByteArray) (i : Nat) (w : World) (hv : StrsAt v l w) (hl : l.length ≤ 1099511627776) (hi : i < l.length) (hs : ∀ x ∈ l, x.size ≤ 140737488354000) (hT : Tab w) :
    Calls Tryz.prog 34 #[v, .int .i64 (i : Int)] w fun e w' => ∃ u, e = .returned (.tuple #[u, .int .i64 0]) ∧ Own w.heap.size 1 u (proofD l i).length (sC (proofD l i)) w' ∧ Gr w w' := by
  obtain ⟨i9, hi9, hz9, hsz9, hb9⟩ := info_parts info9
  obtain ⟨p, cap, rfl⟩ := hv.shape
  have ht2 : decide (l.length ≤ i) = false := decide_eq_false (by omega)
  have HV := Lib.hid hv
  have HT := Lib.hid hT
  have HS := Lib.hid hs
  clear hv hT hs
  go_enter Tryz.func34, Tryz.ntmps34
  go_wp2_with fail
  go_step3
  go_wp2_with fail
  go_step3
  have HD0 : Hid (proofD l i = proofD l i ++ ([] : List ByteArray).reverse) := Lib.hid (by simp)
  go_wp2_with fail
  clear ht2
  go_loopw [0, 1, 6] (fun v0 v1 v6 W => ∃ (I : Nat) (l' out : List ByteArray) (V0 V6 : Value), I < l'.length ∧ l'.length ≤ l.length ∧ v1 = .int .i64 (I : Int) ∧ V0 = v0 ∧ V6 = v6 ∧ Hid (StrsAt V0 l' w) ∧ Hid (Own w.heap.size 1 V6 out.length (sC out) W) ∧ Hid (Gr w W) ∧ out.length + l'.length ≤ l.length ∧ Hid (∀ x ∈ l', x.size ≤ 140737488354000) ∧ Hid (proofD l i = proofD l' I ++ out.reverse)) (fun v0 _ _ _ => lenV v0)
  case atStart => exact ⟨i, l, [], _, _, hi, Nat.le_refl _, rfl, rfl, rfl, HV, Lib.hid (Own.nil _ _ _), Lib.hid (Gr.refl _), by simp, HS, HD0⟩
  clear HV HS HD0 hi
  case round =>
    obtain ⟨I, l', out, v0, v6, hI, hll, rfl, rfl, rfl, HV, HO, HG, hout, HS, HD⟩ := hrel
    obtain ⟨p0, c0, rfl⟩ := HV.out.shape
    obtain ⟨n, hn⟩ : ∃ n, l'.length = n := ⟨_, rfl⟩
    have Hn := Lib.hid hn
    rw [hn] at HV hI hll hout ⊢
    clear hn
    by_cases h1 : n = 1
    · have ht : ((n : Int) == 1) = true := by rw [beq_iff_eq]; omega
      have HD1 : Hid (proofD l i = out.reverse) := Lib.hid (by rw [HD.out, proofD_one _ _ (by rw [Hn.out]; omega)]; rfl)
      subst h1
      have HRv := Lib.hid (reverse_any HO.out (by omega))
      clear HD HV HS Hn
      go_wp2_with fail
      refine HRv.out.mono ?_
      rintro e w2 ⟨rfl, hown, hch⟩
      have hgr : Gr w w2 := gr_step HG.out (Gr.refl _) hch (fun g hg => HO.out.ge hg)
      have HO2 := Lib.hid hown
      have HG2 := Lib.hid hgr
      clear hown hch hgr HRv HO
      go_wp2_with fail
      try rw [Exit.noGoto_ret]
      go_ret2
      exact ⟨_, rfl, by rw [HD1.out, List.length_reverse]; exact HO2.out, HG2.out⟩
    · have ht : ((n : Int) == 1) = false := by rw [beq_eq_false_iff_ne]; omega
      obtain ⟨g, off, rfl, -, hc1, hc2, hcut⟩ := HV.out.cut (by omega)
      have HLf0 := fun w => left_any n (by omega) (by omega) w
      have hK1 := (lp_spec n (by omega)).1
      have hK0 := lp_pos n
      have HStep : Hid (proofD l' I = if I < lp n then proofD (l'.take (lp n)) I ++ [rootD (l'.drop (lp n))] else proofD (l'.drop (lp n)) (I - lp n) ++ [rootD (l'.take (lp n))]) := Lib.hid (by
        have h := proofD_split l' I (by rw [Hn.out]; omega)
        rw [Hn.out] at h; exact h)
      generalize lp n = K at HLf0 hK1 hK0 HStep
      have HLf := Lib.hid HLf0
      have hc := hcut K (by omega)
      have HA := Lib.hid hc.1
      have HB := Lib.hid hc.2
      have HlA : Hid ((l'.take K).length = K) := Lib.hid (by rw [List.length_take, Hn.out]; omega)
      have HlB : Hid ((l'.drop K).length = n - K) := Lib.hid (by rw [List.length_drop, Hn.out])
      have HsA : Hid (∀ x ∈ l'.take K, x.size ≤ 140737488354000) := Lib.hid (fun x hx => HS.out x (List.mem_of_mem_take hx))
      have HsB : Hid (∀ x ∈ l'.drop K, x.size ≤ 140737488354000) := Lib.hid (fun x hx => HS.out x (List.mem_of_mem_drop hx))
      clear HLf0 hcut hc HV HS
      go_upto_region 6 with (go_at_call 79; refine (HLf.out _).mono ?_; rintro e wl ⟨rfl, rfl⟩)
      go_quiet (fail)
      rename_i nq
      have hg5 : Gr wr (wr.drewN nq) := ⟨rfl, rfl, rfl, Nat.le_refl _, fun _ _ => rfl⟩
      generalize wr.drewN nq = w5 at hg5 ⊢
      have HO5 := Lib.hid (HO.out.gr hg5)
      have HG5 := Lib.hid (HG.out.trans hg5)
      clear HO HG hg5 HLf
      by_cases hIK : I < K
      · have ht3 : decide (K ≤ I) = false := decide_eq_false (by omega)
        rw [if_pos hIK] at HStep
        have HD7 : Hid (proofD l i = proofD (l'.take K) I ++ (out ++ [rootD (l'.drop K)]).reverse) := Lib.hid (by
          rw [HD.out, HStep.out]; simp)
        clear HStep HD
        have HR := Lib.hid (root_any (.slice (some ⟨g, off + K, none⟩) (n - K) (c0 - K)) (l'.drop K) w5 (HB.out.gr HG5.out) (by rw [HlB.out]; omega) HsB.out (HT.out.gr HG5.out))
        clear HB HlB HsB
        go_wp2_with (first | (go_at_call 30; refine HR.out.mono ?_; rintro e wt ⟨rfl, hgt⟩) | ((with_reducible show wpList _ _ _ (⟨some 42, _, _, _, _, _⟩ :: _) _ _); refine wpList_append_Own rfl (.tmp 38) (.tmp 41) 27 rfl 9 i9 (.string ⟨#[]⟩) 1 16 Tryz.underlying27 hi9 hz9 hsz9 hb9 rfl (by decide) rfl (HO5.out.gr ?hgA) ⟨wt.heap.size, 0, none⟩ 1 1 [.string (rootD (l'.drop K))] rfl rfl ?hnewsA ?h1cA (by decide) ?b1A ?b2A ?hBA ?_))
        case hgA => exact hgt.trans (Gr.alloc _ _)
        case hnewsA => exact row_new _ _ _ rfl
        case h1cA => intro u hu; simp at hu; subst hu; rfl
        case b1A => unfold maxLen; omega
        case b2A => omega
        case hBA => have := hgt.size; have := HG5.out.size; simp; omega
        intro v7 w7 hown hchg _
        have HG7 : Hid (Gr w w7) := Lib.hid (gr_step HG5.out (hgt.trans (Gr.alloc _ (.cells #[.string (rootD (l'.drop K))] 9))) hchg (fun g hg => HO5.out.ge hg))
        have HO7 : Hid (Own w.heap.size 1 v7 (out ++ [rootD (l'.drop K)]).length (sC (out ++ [rootD (l'.drop K)])) w7) := Lib.hid (by
          rw [← sC_push, List.length_append, List.length_singleton]; exact hown)
        clear hown hchg hgt HR HO5 HG5
        go_wp2_with fail
        go_roundw
        case rel => exact ⟨I, l'.take K, out ++ [rootD (l'.drop K)], _, _, by rw [HlA.out]; omega, by rw [HlA.out]; omega, by go_num, rfl, rfl, HA, HO7, HG7, by rw [List.length_append, List.length_singleton, HlA.out]; omega, HsA, HD7⟩
        case measure => simp [lenV]; omega
      · have ht3 : decide (K ≤ I) = true := decide_eq_true (by omega)
        rw [if_neg hIK] at HStep
        have HD7 : Hid (proofD l i = proofD (l'.drop K) (I - K) ++ (out ++ [rootD (l'.take K)]).reverse) := Lib.hid (by
          rw [HD.out, HStep.out]; simp)
        clear HStep HD
        have HR := Lib.hid (root_any (.slice (some ⟨g, off, none⟩) K c0) (l'.take K) w5 (HA.out.gr HG5.out) (by rw [HlA.out]; omega) HsA.out (HT.out.gr HG5.out))
        clear HA HlA HsA
        go_wp2_with (first | (go_at_call 30; refine HR.out.mono ?_; rintro e wt ⟨rfl, hgt⟩) | ((with_reducible show wpList _ _ _ (⟨some 42, _, _, _, _, _⟩ :: _) _ _); refine wpList_append_Own rfl (.tmp 38) (.tmp 41) 27 rfl 9 i9 (.string ⟨#[]⟩) 1 16 Tryz.underlying27 hi9 hz9 hsz9 hb9 rfl (by decide) rfl (HO5.out.gr ?hgA) ⟨wt.heap.size, 0, none⟩ 1 1 [.string (rootD (l'.take K))] rfl rfl ?hnewsA ?h1cA (by decide) ?b1A ?b2A ?hBA ?_))
        case hgA => exact hgt.trans (Gr.alloc _ _)
        case hnewsA => exact row_new _ _ _ rfl
        case h1cA => intro u hu; simp at hu; subst hu; rfl
        case b1A => unfold maxLen; omega
        case b2A => omega
        case hBA => have := hgt.size; have := HG5.out.size; simp; omega
        intro v7 w7 hown hchg _
        have HG7 : Hid (Gr w w7) := Lib.hid (gr_step HG5.out (hgt.trans (Gr.alloc _ (.cells #[.string (rootD (l'.take K))] 9))) hchg (fun g hg => HO5.out.ge hg))
        have HO7 : Hid (Own w.heap.size 1 v7 (out ++ [rootD (l'.take K)]).length (sC (out ++ [rootD (l'.take K)])) w7) := Lib.hid (by
          rw [← sC_push, List.length_append, List.length_singleton]; exact hown)
        clear hown hchg hgt HR HO5 HG5
        go_wp2_with fail
        go_roundw
        case rel => exact ⟨(I - K), l'.drop K, out ++ [rootD (l'.take K)], _, _, by rw [HlB.out]; omega, by rw [HlB.out]; omega, by go_num, rfl, rfl, HB, HO7, HG7, by rw [List.length_append, List.length_singleton, HlB.out]; omega, HsB, HD7⟩
        case measure => simp [lenV]; omega

end Go.Proofs.YtaoggehdkddgeaaGreatDoor
