/- The contract of digest.Extension. -/
import Derived.Test.YtbkhkpcnclhoiaaDoorProof
namespace Go.Proofs.YtbkhkpcnclhoiaaDoor
open Go.RowKit Go.Shelf
attribute [local go_sem] gAt gUpon
attribute [local simp] Gr.refl Gr.alloc

set_option maxRecDepth 100000 in
theorem ext_arg (v : Value) (l : List ByteArray) (m : Int) (w : World) (hv : StrsAt v l w) (hi : m < 0 ∨ (l.length : Int) < m) :
    Calls Tryd.prog 15 #[v, .int .i64 m] w fun e w' => e = .returned (.tuple #[.slice none 0 0, .int .i64 2]) ∧ w = w' := by
  obtain ⟨p, cap, rfl⟩ := hv.shape
  clear hv
  rcases Int.lt_or_le m 0 with h0 | h0
  · have ht : decide (m < 0) = true := decide_eq_true h0
    go_enter Tryd.func15, Tryd.ntmps15
    go_wp2_with fail
    go_ret2
    exact ⟨rfl, rfl⟩
  · have ht : decide (m < 0) = false := decide_eq_false (by omega)
    have ht2 : decide ((l.length : Int) < m) = true := decide_eq_true (by omega)
    go_enter Tryd.func15, Tryd.ntmps15
    go_wp2_with fail
    go_ret2
    exact ⟨rfl, rfl⟩
set_option maxRecDepth 100000 in
theorem ext_zero (v : Value) (l : List ByteArray) (w : World) (hv : StrsAt v l w) :
    Calls Tryd.prog 15 #[v, .int .i64 0] w fun e w' => e = .returned (.tuple #[.slice none 0 0, .int .i64 0]) ∧ w = w' := by
  obtain ⟨p, cap, rfl⟩ := hv.shape
  clear hv
  have ht2 : decide ((l.length : Int) < 0) = false := decide_eq_false (by omega)
  go_enter Tryd.func15, Tryd.ntmps15
  go_wp2_with fail
  go_ret2
  exact ⟨rfl, rfl⟩

set_option maxRecDepth 100000 in
set_option maxHeartbeats 4000000 in
theorem ext_in (v : Value) (l : List ByteArray) (m : Nat) (w : World) (hv : StrsAt v l w) (hl : l.length ≤ 1099511627776) (hm0 : 0 < m) (hi : m ≤ l.length) (hs : ∀ x ∈ l, x.size ≤ 140737488354000) (hT : Tab w) :
    Calls Tryd.prog 15 #[v, .int .i64 (m : Int)] w fun e w' => ∃ u, e = .returned (.tuple #[u, .int .i64 0]) ∧ Own w.heap.size 1 u (extD l m true).length (sC (extD l m true)) w' ∧ Gr w w' := by
  obtain ⟨i9, hi9, hz9, hsz9, hb9⟩ := info_parts info9
  obtain ⟨p, cap, rfl⟩ := hv.shape
  have ht2 : decide (l.length < m) = false := decide_eq_false (by omega)
  have ht3 : ((m : Int) == 0) = false := by rw [beq_eq_false_iff_ne]; omega
  have HV := Lib.hid hv
  have HT := Lib.hid hT
  have HS := Lib.hid hs
  have HD0 : Hid (extD l m true = extD l m true ++ ([] : List ByteArray).reverse) := Lib.hid (by simp)
  clear hv hT hs
  go_enter Tryd.func15, Tryd.ntmps15
  go_wp2_with fail
  clear ht2 ht3
  go_loopw [0, 1, 6, 7] (fun v0 v1 v6 v7 W => ∃ (M : Nat) (b : Bool) (l' out : List ByteArray) (V0 V6 : Value), 0 < M ∧ M ≤ l'.length ∧ l'.length ≤ l.length ∧ v1 = .int .i64 (M : Int) ∧ v7 = .bool b ∧ V0 = v0 ∧ V6 = v6 ∧ Hid (StrsAt V0 l' w) ∧ Hid (Own w.heap.size 1 V6 out.length (sC out) W) ∧ Hid (Gr w W) ∧ out.length + l'.length ≤ l.length ∧ Hid (∀ x ∈ l', x.size ≤ 140737488354000) ∧ Hid (extD l m true = extD l' M b ++ out.reverse)) (fun v0 _ _ _ _ => lenV v0)
  case atStart => exact ⟨m, true, l, [], _, _, hm0, hi, Nat.le_refl _, rfl, rfl, rfl, rfl, HV, Lib.hid (Own.nil _ _ _), Lib.hid (Gr.refl _), by simp, HS, HD0⟩
  clear HV HS HD0 hi hm0
  case round =>
    obtain ⟨M, b, l', out, v0, v6, hM0, hM, hll, rfl, rfl, rfl, rfl, HV, HO, HG, hout, HS, HD⟩ := hrel
    obtain ⟨p0, c0, rfl⟩ := HV.out.shape
    obtain ⟨n, hn⟩ : ∃ n, l'.length = n := ⟨_, rfl⟩
    have Hn := Lib.hid hn
    rw [hn] at HV hM hll hout ⊢
    clear hn
    by_cases h1 : M = n
    · have ht : decide (M < n) = false := decide_eq_false (by omega)
      cases b with
      | true =>
        have HD1 : Hid (extD l m true = out.reverse) := Lib.hid (by rw [HD.out, extD_end _ _ _ (by rw [Hn.out]; omega)]; rfl)
        have HRv := Lib.hid (reverse_any HO.out (by omega))
        clear HD HV HS Hn
        go_wp2_with fail
        refine HRv.out.mono ?_
        rintro e w2 ⟨rfl, hown, hch⟩
        have hgr : Gr w w2 := gr_step HG.out (Gr.refl _) hch (fun g hg => HO.out.ge hg)
        have HO2 := Lib.hid hown
        have HG2 := Lib.hid hgr
        clear hown hch hgr HRv HO
        go_wp2_with fail
        go_ret2
        exact ⟨_, rfl, by rw [HD1.out, List.length_reverse]; exact HO2.out, HG2.out⟩
      | false =>
        have HD1 : Hid (extD l m true = (out ++ [rootD l']).reverse) := Lib.hid (by rw [HD.out, extD_end _ _ _ (by rw [Hn.out]; omega)]; simp)
        have HR := Lib.hid (root_any (.slice p0 n c0) l' wr (HV.out.gr HG.out) (by rw [Hn.out]; omega) HS.out (HT.out.gr HG.out))
        clear HD HV HS Hn
        go_upto_region 16 with (first | (go_at_call 18; refine HR.out.mono ?_; rintro e wt ⟨rfl, hgt⟩) | ((with_reducible show wpList _ _ _ (⟨some 56, _, _, _, _, _⟩ :: _) _ _); refine wpList_append_Own rfl (.tmp 52) (.tmp 55) 22 rfl 9 i9 (.string ⟨#[]⟩) 1 16 Tryd.underlying22 hi9 hz9 hsz9 hb9 rfl (by decide) rfl (HO.out.gr ?hgA) ⟨wt.heap.size, 0, none⟩ 1 1 [.string (rootD l')] rfl rfl ?hnewsA ?h1cA (by decide) ?b1A ?b2A ?hBA ?_))
        case hgA => exact hgt.trans (Gr.alloc _ _)
        case hnewsA => exact row_new _ _ _ rfl
        case h1cA => intro u hu; simp at hu; subst hu; rfl
        case b1A => unfold maxLen; omega
        case b2A => omega
        case hBA => have := hgt.size; have := HG.out.size; simp; omega
        intro v7 w7 hown hchg _
        have HG7 : Hid (Gr w w7) := Lib.hid (gr_step HG.out (hgt.trans (Gr.alloc _ (.cells #[.string (rootD l')] 9))) hchg (fun g hg => HO.out.ge hg))
        have HO7 : Hid (Own w.heap.size 1 v7 (out ++ [rootD l']).length (sC (out ++ [rootD l'])) w7) := Lib.hid (by
          rw [← sC_push, List.length_append, List.length_singleton]; exact hown)
        have HRv := Lib.hid (reverse_any HO7.out (by rw [List.length_append, List.length_singleton]; omega))
        clear hown hchg hgt HR HO HG
        go_wp2_with fail
        refine HRv.out.mono ?_
        rintro e w2 ⟨rfl, hown, hch⟩
        have hgr : Gr w w2 := gr_step HG7.out (Gr.refl _) hch (fun g hg => HO7.out.ge hg)
        have HO2 := Lib.hid hown
        have HG2 := Lib.hid hgr
        clear hown hch hgr HRv HO7
        go_wp2_with fail
        go_ret2
        exact ⟨_, rfl, by rw [HD1.out, List.length_reverse]; exact HO2.out, HG2.out⟩
    · have ht : decide (M < n) = true := decide_eq_true (by omega)
      obtain ⟨g, off, rfl, -, hc1, hc2, hcut⟩ := HV.out.cut (by omega)
      have HLf0 := fun w => left_any n (by omega) (by omega) w
      have hK1 := (lp_spec n (by omega)).1
      have hK0 := lp_pos n
      have HStep1 : Hid (M ≤ lp n → extD l' M b = extD (l'.take (lp n)) M b ++ [rootD (l'.drop (lp n))]) := Lib.hid (fun h2 => by
        have h := extD_low l' M b hM0 (by rw [Hn.out]; omega) (by rw [Hn.out]; exact h2)
        rw [Hn.out] at h; exact h)
      have HStep2 : Hid (lp n < M → extD l' M b = extD (l'.drop (lp n)) (M - lp n) false ++ [rootD (l'.take (lp n))]) := Lib.hid (fun h2 => by
        have h := extD_high l' M b (by rw [Hn.out]; omega) (by rw [Hn.out]; exact h2)
        rw [Hn.out] at h; exact h)
      generalize lp n = K at HLf0 hK1 hK0 HStep1 HStep2
      have HLf := Lib.hid HLf0
      have hc := hcut K (by omega)
      have HA := Lib.hid hc.1
      have HB := Lib.hid hc.2
      have HlA : Hid ((l'.take K).length = K) := Lib.hid (by rw [List.length_take, Hn.out]; omega)
      have HlB : Hid ((l'.drop K).length = n - K) := Lib.hid (by rw [List.length_drop, Hn.out])
      have HsA : Hid (∀ x ∈ l'.take K, x.size ≤ 140737488354000) := Lib.hid (fun x hx => HS.out x (List.mem_of_mem_take hx))
      have HsB : Hid (∀ x ∈ l'.drop K, x.size ≤ 140737488354000) := Lib.hid (fun x hx => HS.out x (List.mem_of_mem_drop hx))
      clear HLf0 hcut hc HV HS
      go_upto_region 9 with (go_at_call 37; refine (HLf.out _).mono ?_; rintro e wl ⟨rfl, rfl⟩)
      go_quiet (fail)
      rename_i nq
      have hg5 : Gr wr (wr.drewN nq) := below_drewN (Below.refl _ _) nq
      generalize wr.drewN nq = w5 at hg5 ⊢
      have HO5 := Lib.hid (HO.out.gr hg5)
      have HG5 := Lib.hid (HG.out.trans hg5)
      clear HO HG hg5 HLf
      by_cases hMK : M ≤ K
      · have ht3 : decide (K < M) = false := decide_eq_false (by omega)
        have HD7 : Hid (extD l m true = extD (l'.take K) M b ++ (out ++ [rootD (l'.drop K)]).reverse) := Lib.hid (by
          rw [HD.out, HStep1.out hMK]; simp)
        clear HStep1 HStep2 HD
        have HR := Lib.hid (root_any (.slice (some ⟨g, off + K, none⟩) (n - K) (c0 - K)) (l'.drop K) w5 (HB.out.gr HG5.out) (by rw [HlB.out]; omega) HsB.out (HT.out.gr HG5.out))
        clear HB HlB HsB
        go_wp2_with (first | (go_at_call 18; refine HR.out.mono ?_; rintro e wt ⟨rfl, hgt⟩) | ((with_reducible show wpList _ _ _ (⟨some 48, _, _, _, _, _⟩ :: _) _ _); refine wpList_append_Own rfl (.tmp 44) (.tmp 47) 22 rfl 9 i9 (.string ⟨#[]⟩) 1 16 Tryd.underlying22 hi9 hz9 hsz9 hb9 rfl (by decide) rfl (HO5.out.gr ?hgA) ⟨wt.heap.size, 0, none⟩ 1 1 [.string (rootD (l'.drop K))] rfl rfl ?hnewsA ?h1cA (by decide) ?b1A ?b2A ?hBA ?_))
        case hgA => exact hgt.trans (Gr.alloc _ _)
        case hnewsA => exact row_new _ _ _ rfl
        case h1cA => intro u hu; simp at hu; subst hu; rfl
        case b1A => unfold maxLen; omega
        case b2A => omega
        case hBA => have := hgt.size; have := HG5.out.size; simp; omega
        intro v7 w7 hown hchg _
        have HG7 : Hid (Gr w w7) := Lib.hid (gr_step HG5.out (hgt.trans (Gr.alloc _ (.cells #[.string (rootD (l'.drop K))] 9))) hchg (fun g hg => HO5.out.ge hg))
        have HO7 : Hid (Own w.heap.size 1 v7 (out ++ [rootD (l'.drop K)]).length (sC (out ++ [rootD (l'.drop K)])) w7) := Lib.hid (by
          rw [← sC_push, List.length_append, List.length_singleton]; exact hown)
        clear hown hchg hgt HR HO5 HG5
        go_wp2_with fail
        go_roundw
        case rel => exact ⟨M, b, l'.take K, out ++ [rootD (l'.drop K)], _, _, by omega, by rw [HlA.out]; omega, by rw [HlA.out]; omega, by go_num, rfl, rfl, rfl, HA, HO7, HG7, by rw [List.length_append, List.length_singleton, HlA.out]; omega, HsA, HD7⟩
        case measure => simp [lenV]; omega
      · have ht3 : decide (K < M) = true := decide_eq_true (by omega)
        have HD7 : Hid (extD l m true = extD (l'.drop K) (M - K) false ++ (out ++ [rootD (l'.take K)]).reverse) := Lib.hid (by
          rw [HD.out, HStep2.out (by omega)]; simp)
        clear HStep1 HStep2 HD
        have HR := Lib.hid (root_any (.slice (some ⟨g, off, none⟩) K c0) (l'.take K) w5 (HA.out.gr HG5.out) (by rw [HlA.out]; omega) HsA.out (HT.out.gr HG5.out))
        clear HA HlA HsA
        go_wp2_with (first | (go_at_call 18; refine HR.out.mono ?_; rintro e wt ⟨rfl, hgt⟩) | ((with_reducible show wpList _ _ _ (⟨some 48, _, _, _, _, _⟩ :: _) _ _); refine wpList_append_Own rfl (.tmp 44) (.tmp 47) 22 rfl 9 i9 (.string ⟨#[]⟩) 1 16 Tryd.underlying22 hi9 hz9 hsz9 hb9 rfl (by decide) rfl (HO5.out.gr ?hgA) ⟨wt.heap.size, 0, none⟩ 1 1 [.string (rootD (l'.take K))] rfl rfl ?hnewsA ?h1cA (by decide) ?b1A ?b2A ?hBA ?_))
        case hgA => exact hgt.trans (Gr.alloc _ _)
        case hnewsA => exact row_new _ _ _ rfl
        case h1cA => intro u hu; simp at hu; subst hu; rfl
        case b1A => unfold maxLen; omega
        case b2A => omega
        case hBA => have := hgt.size; have := HG5.out.size; simp; omega
        intro v7 w7 hown hchg _
        have HG7 : Hid (Gr w w7) := Lib.hid (gr_step HG5.out (hgt.trans (Gr.alloc _ (.cells #[.string (rootD (l'.take K))] 9))) hchg (fun g hg => HO5.out.ge hg))
        have HO7 : Hid (Own w.heap.size 1 v7 (out ++ [rootD (l'.take K)]).length (sC (out ++ [rootD (l'.take K)])) w7) := Lib.hid (by
          rw [← sC_push, List.length_append, List.length_singleton]; exact hown)
        clear hown hchg hgt HR HO5 HG5
        go_wp2_with fail
        go_roundw
        case rel => exact ⟨(M - K), false, l'.drop K, out ++ [rootD (l'.take K)], _, _, by omega, by rw [HlB.out]; omega, by rw [HlB.out]; omega, by go_num, rfl, rfl, rfl, HB, HO7, HG7, by rw [List.length_append, List.length_singleton, HlB.out]; omega, HsB, HD7⟩
        case measure => simp [lenV]; omega

/-- Extension, for every number -/
theorem ext_any (v : Value) (l : List ByteArray) (m : Int) (w : World) (hv : StrsAt v l w) (hl : l.length ≤ 1099511627776) (hs : ∀ x ∈ l, x.size ≤ 140737488354000) (hT : Tab w) :
    Calls Tryd.prog 15 #[v, .int .i64 m] w fun e w' => ∃ u x, e = .returned (.tuple #[u, .int .i64 x]) ∧ x = (if m < 0 ∨ (l.length : Int) < m then 2 else 0) ∧
      Own w.heap.size 1 u (if m ≤ 0 ∨ (l.length : Int) < m then [] else extD l m.toNat true).length (sC (if m ≤ 0 ∨ (l.length : Int) < m then [] else extD l m.toNat true)) w' ∧ Gr w w' := by
  by_cases h1 : m < 0 ∨ (l.length : Int) < m
  · refine (ext_arg v l m w hv h1).mono ?_
    rintro e w' ⟨rfl, rfl⟩
    refine ⟨_, _, rfl, by rw [if_pos h1], ?_, Gr.refl _⟩
    rw [if_pos (by omega)]
    exact Own.nil _ _ _
  · by_cases h2 : m = 0
    · subst h2
      refine (ext_zero v l w hv).mono ?_
      rintro e w' ⟨rfl, rfl⟩
      refine ⟨_, _, rfl, by rw [if_neg h1], ?_, Gr.refl _⟩
      rw [if_pos (by omega)]
      exact Own.nil _ _ _
    · obtain ⟨M, rfl⟩ : ∃ M : Nat, m = (M : Int) := ⟨m.toNat, by omega⟩
      refine (ext_in v l M w hv hl (by omega) (by omega) hs hT).mono ?_
      rintro e w' ⟨u, rfl, h3, h4⟩
      refine ⟨u, _, rfl, by rw [if_neg h1], ?_, h4⟩
      rw [if_neg (by omega)]
      exact h3
end Go.Proofs.YtbkhkpcnclhoiaaDoor
