/- The contract of the statements' helper sides. -/
import Derived.Test.YtbkhkpcnclhoiaaDoorColl
import Derived.WalkMore
namespace Go.Proofs.YtbkhkpcnclhoiaaDoor
open Go.RowKit Go.Shelf
attribute [local go_sem] gAt gUpon
attribute [local simp] Gr.refl Gr.alloc

theorem sidesR_size {old : ByteArray} (ho : old.size = 32) : ∀ (r : List ByteArray) (m n : Nat) (b : Bool), (∀ x ∈ r, x.size = 32) → (sidesR old r m n b).2.size = 32 := by
  intro r
  cases r with
  | nil => intro m n b _; exact ho
  | cons x r =>
    intro m n b hr
    rw [sidesR]
    split
    · show (if b then old else (x :: r).getLast _).size = 32
      split
      · exact ho
      · exact hr _ (List.getLast_mem _)
    · split <;> exact nodeD_size _ _
theorem sidesR_len (old : ByteArray) : ∀ (r : List ByteArray) (m n : Nat) (b : Bool), (sidesR old r m n b).1.length ≤ r.length := by
  intro r
  induction r with
  | nil => intro m n b; simp [sidesR]
  | cons x r ih =>
    intro m n b
    rw [sidesR]
    split
    · simp
    · split <;> simp <;> exact ih _ _ _
theorem sidesR_end {old : ByteArray} {r : List ByteArray} {m n : Nat} (h : n ≤ m) : sidesR old r m n true = ([], old) := by
  cases r with
  | nil => rfl
  | cons x r => rw [sidesR, if_pos h]; rfl

set_option maxRecDepth 100000 in
set_option maxHeartbeats 4000000 in
theorem sides_any (old : ByteArray) (ho : old.size = 32) : ∀ (n : Nat) (P : List ByteArray) (M N : Nat) (b : Bool) (v : Value) (w : World), P.length = n → n ≤ 1000 → StrsAt v P w → (∀ x ∈ P, x.size = 32) → 0 < M → M ≤ 9223372036854775807 → N ≤ 9223372036854775807 → Tab w →
    Calls Tryd.prog 25 #[.string old, .int .i64 (M : Int), .int .i64 (N : Int), v, .bool b] w fun e w' => ∃ u, e = .returned (.tuple #[u, .string (sidesR old P.reverse M N b).2]) ∧ Own w.heap.size 1 u (sidesR old P.reverse M N b).1.length (sC (sidesR old P.reverse M N b).1) w' ∧ Gr w w' ∧
      ((sidesR old P.reverse M N b).1.length = 0 → u = .slice none 0 0) := by
  obtain ⟨i9, hi9, hz9, hsz9, hb9⟩ := info_parts info9
  intro n
  induction n with
  | zero =>
    intro P M N b v w hPn hn hv hPs hM hM2 hN hT
    have hP : P = [] := List.eq_nil_of_length_eq_zero hPn
    subst hP
    obtain ⟨p, c, rfl⟩ := hv.shape
    have HW : Hid (sidesR old ([] : List ByteArray).reverse M N b = ([], old)) := Lib.hid rfl
    have HO := Lib.hid (Own.nil w.heap.size 1 w)
    clear hv hPs hPn hT
    rw [List.length_nil]
    by_cases h1 : N ≤ M
    · have ht1 : decide (N ≤ M) = true := decide_eq_true h1
      cases b with
      | true =>
        go_enter Tryd.func25, Tryd.ntmps25
        go_wp2_with fail
        go_ret2
        exact ⟨_, by rw [HW.out]; rfl, by rw [HW.out]; exact HO.out, Gr.refl _, fun _ => rfl⟩
      | false =>
        go_enter Tryd.func25, Tryd.ntmps25
        go_wp2_with fail
        go_ret2
        exact ⟨_, by rw [HW.out]; rfl, by rw [HW.out]; exact HO.out, Gr.refl _, fun _ => rfl⟩
    · have ht1 : decide (N ≤ M) = false := decide_eq_false h1
      cases b with
      | true =>
        go_enter Tryd.func25, Tryd.ntmps25
        go_wp2_with fail
        go_ret2
        exact ⟨_, by rw [HW.out]; rfl, by rw [HW.out]; exact HO.out, Gr.refl _, fun _ => rfl⟩
      | false =>
        go_enter Tryd.func25, Tryd.ntmps25
        go_wp2_with fail
        go_ret2
        exact ⟨_, by rw [HW.out]; rfl, by rw [HW.out]; exact HO.out, Gr.refl _, fun _ => rfl⟩
  | succ n ih =>
    intro P M N b v w hPn hn hv hPs hM hM2 hN hT
    have ht0 : ((n : Int) + 1 == 0) = false := by rw [beq_eq_false_iff_ne]; omega
    by_cases h1 : N ≤ M
    · have ht1 : decide (N ≤ M) = true := decide_eq_true h1
      have HO := Lib.hid (Own.nil w.heap.size 1 w)
      cases b with
      | true =>
        have HW : Hid (sidesR old P.reverse M N true = ([], old)) := Lib.hid (sidesR_end h1)
        obtain ⟨p, c, rfl⟩ := hv.shape
        clear hv hPs hPn hT ih
        go_enter Tryd.func25, Tryd.ntmps25
        go_wp2_with fail
        go_ret2
        exact ⟨_, by rw [HW.out]; rfl, by rw [HW.out]; exact HO.out, Gr.refl _, fun _ => rfl⟩
      | false =>
        obtain ⟨z, Z, rfl⟩ : ∃ z Z, P = z :: Z := by
          cases P with
          | nil => simp at hPn
          | cons z Z => exact ⟨z, Z, rfl⟩
        have HW : Hid (sidesR old (z :: Z).reverse M N false = ([], z)) := Lib.hid (by
          cases hr : (z :: Z).reverse with
          | nil => simp at hr
          | cons y r =>
            rw [sidesR, if_pos h1]
            have : (y :: r).getLast (by simp) = z := by
              have h2 : (y :: r).getLast? = some z := by rw [← hr, List.getLast?_reverse]; rfl
              rw [List.getLast?_eq_some_getLast (by simp)] at h2
              exact Option.some.inj h2
            rw [this]; rfl)
        obtain ⟨g, off, c4, rfl, hcz⟩ : ∃ g off c4, v = .slice (some ⟨g, off, none⟩) (n + 1) c4 ∧ w.cell? ⟨g, off, none⟩ = some (.string z) := by
          rcases hv with ⟨_, h⟩ | ⟨g, off, c4, h, _, _, h3⟩
          · cases h
          · exact ⟨g, off, c4, by rw [h, hPn], h3 0 z rfl⟩
        clear hv hPs hPn hT ih
        go_enter Tryd.func25, Tryd.ntmps25
        go_upto_region 4 with fail
        go_quiet (fail)
        rename_i nq
        have hg5 : Gr w (w.drewN nq) := below_drewN (Below.refl _ _) nq
        generalize w.drewN nq = w5 at hg5 ⊢
        have HG5 := Lib.hid hg5
        have HO5 := Lib.hid (HO.out.gr hg5)
        clear hg5 hcz
        go_wp2_with fail
        go_ret2
        exact ⟨_, by rw [HW.out]; rfl, by rw [HW.out]; exact HO5.out, HG5.out, fun _ => rfl⟩
    obtain ⟨Q, x, rfl⟩ : ∃ Q x, P = Q ++ [x] := by
      rcases snoc_cases P with rfl | h
      · simp at hPn
      · exact h
    obtain ⟨g, off, c4, rfl, hcap, hcm, hc⟩ := hv.shape_snoc
    have hQn : Q.length = n := by simpa using hPn
    have hcx : w.cell? ⟨g, off + n, none⟩ = some (.string x) := hc _ _ (by rw [← hQn]; simp)
    have HSQ : Hid (StrsAt (.slice (some ⟨g, off, none⟩) n c4) Q w) := Lib.hid (.inr ⟨g, off, c4, by rw [hQn], by omega, hcm, fun j y hj => hc j y (by rw [List.getElem?_append_left (List.getElem?_eq_some_iff.1 hj).1]; exact hj)⟩)
    have HPQ : Hid (∀ y ∈ Q, y.size = 32) := Lib.hid (fun y hy => hPs y (by simp [hy]))
    have hxs : x.size = 32 := hPs x (by simp)
    have HT := Lib.hid hT
    have ht1 : decide (N ≤ M) = false := decide_eq_false h1
    have HLf0 := fun w => lawLeft_any N (by omega) hN w
    have hK1 := (lp_spec N (by omega)).1
    have hK0 := lp_pos N
    have hWl : M ≤ lp N → sidesR old (Q ++ [x]).reverse M N b = (cat 1 [(sidesR old Q.reverse M (lp N) b).2, x] :: (sidesR old Q.reverse M (lp N) b).1, nodeD (sidesR old Q.reverse M (lp N) b).2 x) := fun h => by
      rw [List.reverse_append, List.reverse_singleton, List.singleton_append]; exact sides_low old x _ b (by omega) h
    have hWh : ¬ M ≤ lp N → sidesR old (Q ++ [x]).reverse M N b = (cat 1 [x, (sidesR old Q.reverse (M - lp N) (N - lp N) false).2] :: (sidesR old Q.reverse (M - lp N) (N - lp N) false).1, nodeD x (sidesR old Q.reverse (M - lp N) (N - lp N) false).2) := fun h => by
      rw [List.reverse_append, List.reverse_singleton, List.singleton_append]; exact sides_high old x _ b (by omega) h
    rw [hQn] at hcap ⊢
    generalize lp N = K at HLf0 hK1 hK0 hWl hWh
    have HLf := Lib.hid HLf0
    have HWl := Lib.hid hWl
    have HWh := Lib.hid hWh
    have HQn := Lib.hid hQn
    have Hih := Lib.hid ih
    clear HLf0 hWl hWh hQn ih hc hv hPs hPn hT
    by_cases hMK : M ≤ K
    · have ht2 : decide (M ≤ K) = true := decide_eq_true hMK
      have hrec := Hih.out Q M K b (.slice (some ⟨g, off, none⟩) n c4) w HQn.out (by omega) HSQ.out HPQ.out hM hM2 (by omega) HT.out
      have hWs := sidesR_size ho Q.reverse M K b (fun z hz => HPQ.out z (List.mem_reverse.1 hz))
      have hWn := sidesR_len old Q.reverse M K b
      have HW := Lib.hid (HWl.out hMK)
      rw [List.length_reverse, HQn.out] at hWn
      generalize hR : sidesR old Q.reverse M K b = R at hrec hWs hWn HW
      obtain ⟨LL, VV⟩ := R
      dsimp only at hrec hWs hWn HW
      have Hrec := Lib.hid hrec
      clear hrec hR Hih HWl HWh HSQ HPQ
      go_enter Tryd.func25, Tryd.ntmps25
      go_wp2_with (first | (go_at_call 28; refine (HLf.out _).mono ?_; rintro e wl ⟨rfl, rfl⟩))
      refine Hrec.out.mono ?_
      rintro e w4 ⟨u, rfl, ho4, hg4, hz4⟩
      have HG4 := Lib.hid hg4
      by_cases hL0 : LL.length = 0
      · obtain rfl := hz4 hL0
        have HLn : Hid (LL = []) := Lib.hid (List.eq_nil_of_length_eq_zero hL0)
        clear ho4 hg4 hz4 Hrec hcx hL0
        have hadd1 : ∀ w1, (Op.stringOp .add (⟨#[1]⟩ : ByteArray) VV).run Tryd.prog w1 = .ok (.string (⟨#[1]⟩ ++ VV)) w1 := fun w1 => by
          rw [run_string_add_sum]; rw [show (⟨#[1]⟩ : ByteArray).size = 1 from rfl]; omega
        have hadd2 : ∀ w1, (Op.stringOp .add ((⟨#[1]⟩ : ByteArray) ++ VV) x).run Tryd.prog w1 = .ok (.string (cat 1 [VV, x])) w1 := fun w1 => by
          rw [run_string_add_sum, cat_add2]
          rw [ByteArray.size_append, show (⟨#[1]⟩ : ByteArray).size = 1 from rfl]; omega
        have HN := Lib.hid (node_any VV x (w4.alloc (.cells #[.string (cat 1 [VV, x])] 9)) (by omega) (HT.out.gr (HG4.out.trans (Gr.alloc _ _))))
        have HO5 := Lib.hid ((own_new1 w4 (cat 1 [VV, x])).mono HG4.out.size)
        have HG5 := Lib.hid (HG4.out.trans (Gr.alloc w4 (.cells #[.string (cat 1 [VV, x])] 9)))
        go_wp2_with fail
        refine HN.out.mono ?_
        rintro e w6 ⟨rfl, hg6⟩
        have HG6 := Lib.hid (HG5.out.trans hg6)
        have HO6 := Lib.hid (HO5.out.gr hg6)
        clear hg6 HN HG5 HO5 hadd1 hadd2
        go_wp2_with fail
        go_ret2
        exact ⟨_, by rw [HW.out]; rfl, by rw [HW.out, HLn.out]; exact HO6.out, HG6.out, fun h => by rw [HW.out] at h; simp at h⟩
      obtain ⟨gu, ou, cu, rfl, _, hcu1, hcu2⟩ := ho4.shape (by omega)
      obtain ⟨m4, hm4⟩ : ∃ m4, LL.length = m4 := ⟨_, rfl⟩
      have HLL := Lib.hid hm4
      rw [hm4] at ho4 hWn hcu1 hL0 ⊢
      have HO4 := Lib.hid ho4
      clear hm4 ho4 hg4 hz4 Hrec hcx
      have hadd1 : ∀ w1, (Op.stringOp .add (⟨#[1]⟩ : ByteArray) VV).run Tryd.prog w1 = .ok (.string (⟨#[1]⟩ ++ VV)) w1 := fun w1 => by
        rw [run_string_add_sum]; rw [show (⟨#[1]⟩ : ByteArray).size = 1 from rfl]; omega
      have hadd2 : ∀ w1, (Op.stringOp .add ((⟨#[1]⟩ : ByteArray) ++ VV) x).run Tryd.prog w1 = .ok (.string (cat 1 [VV, x])) w1 := fun w1 => by
        rw [run_string_add_sum, cat_add2]
        rw [ByteArray.size_append, show (⟨#[1]⟩ : ByteArray).size = 1 from rfl]; omega
      go_wp2_with (first | ((with_reducible show wpList _ _ _ (⟨some 68, _, _, _, _, _⟩ :: _) _ _); refine wpList_append_Own rfl (.tmp 66) (.tmp 67) 22 rfl 9 i9 (.string ⟨#[]⟩) 1 16 Tryd.underlying22 hi9 hz9 hsz9 hb9 rfl (by decide) rfl (own_new1 w4 (cat 1 [VV, x])) ⟨gu, ou, none⟩ m4 cu (sC LL) rfl ?hlA ?hnewsA ?h1cA (by omega) ?b1A ?b2A ?hBA ?_))
      case hlA => rw [sC_length, HLL.out]; omega
      case hnewsA => exact fun j u hj => by rw [Addr.add_mid]; exact (Gr.alloc w4 _).cell (HO4.out.cell j u hj)
      case h1cA => intro u hu; simp [sC] at hu; obtain ⟨y, _, rfl⟩ := hu; rfl
      case b1A => unfold maxLen; omega
      case b2A => omega
      case hBA => simp
      intro v5 w5 hown hchg _
      have hg5 : Gr w w5 := gr_step HG4.out (Gr.alloc w4 (.cells #[.string (cat 1 [VV, x])] 9)) hchg (fun g hg => by
        have := (own_new1 w4 (cat 1 [VV, x])).ge hg
        have := HG4.out.size; omega)
      have HO5 : Hid (Own w.heap.size 1 v5 (LL.length + 1) (sC (cat 1 [VV, x] :: LL)) w5) := Lib.hid (by
        have h := hown.mono HG4.out.size
        rw [show LL.length + 1 = 1 + m4 by rw [HLL.out]; omega]
        exact h)
      have HN := Lib.hid (node_any VV x w5 (by omega) (HT.out.gr hg5))
      have HG5 := Lib.hid hg5
      clear hown hchg hg5 hadd1 hadd2
      go_wp2_with fail
      refine HN.out.mono ?_
      rintro e w6 ⟨rfl, hg6⟩
      have HG6 := Lib.hid (HG5.out.trans hg6)
      have HO6 := Lib.hid (HO5.out.gr hg6)
      clear hg6 HN HG5 HO5
      go_wp2_with fail
      go_ret2
      exact ⟨v5, by rw [HW.out]; rfl, by rw [HW.out]; exact HO6.out, HG6.out, fun h => by rw [HW.out] at h; simp at h⟩
    · have ht2 : decide (M ≤ K) = false := decide_eq_false hMK
      have hrec := Hih.out Q (M - K) (N - K) false (.slice (some ⟨g, off, none⟩) n c4) w HQn.out (by omega) HSQ.out HPQ.out (by omega) (by omega) (by omega) HT.out
      rw [show ((M - K : Nat) : Int) = (M : Int) - (K : Int) by omega, show ((N - K : Nat) : Int) = (N : Int) - (K : Int) by omega] at hrec
      have hWs := sidesR_size ho Q.reverse (M - K) (N - K) false (fun z hz => HPQ.out z (List.mem_reverse.1 hz))
      have hWn := sidesR_len old Q.reverse (M - K) (N - K) false
      have HW := Lib.hid (HWh.out hMK)
      rw [List.length_reverse, HQn.out] at hWn
      generalize hR : sidesR old Q.reverse (M - K) (N - K) false = R at hrec hWs hWn HW
      obtain ⟨LL, VV⟩ := R
      dsimp only at hrec hWs hWn HW
      have Hrec := Lib.hid hrec
      clear hrec hR Hih HWl HWh HSQ HPQ
      go_enter Tryd.func25, Tryd.ntmps25
      go_wp2_with (first | (go_at_call 28; refine (HLf.out _).mono ?_; rintro e wl ⟨rfl, rfl⟩))
      refine Hrec.out.mono ?_
      rintro e w4 ⟨u, rfl, ho4, hg4, hz4⟩
      have HG4 := Lib.hid hg4
      by_cases hL0 : LL.length = 0
      · obtain rfl := hz4 hL0
        have HLn : Hid (LL = []) := Lib.hid (List.eq_nil_of_length_eq_zero hL0)
        clear ho4 hg4 hz4 Hrec hcx hL0
        have hadd1 : ∀ w1, (Op.stringOp .add (⟨#[1]⟩ : ByteArray) x).run Tryd.prog w1 = .ok (.string (⟨#[1]⟩ ++ x)) w1 := fun w1 => by
          rw [run_string_add_sum]; rw [show (⟨#[1]⟩ : ByteArray).size = 1 from rfl]; omega
        have hadd2 : ∀ w1, (Op.stringOp .add ((⟨#[1]⟩ : ByteArray) ++ x) VV).run Tryd.prog w1 = .ok (.string (cat 1 [x, VV])) w1 := fun w1 => by
          rw [run_string_add_sum, cat_add2]
          rw [ByteArray.size_append, show (⟨#[1]⟩ : ByteArray).size = 1 from rfl]; omega
        have HN := Lib.hid (node_any x VV (w4.alloc (.cells #[.string (cat 1 [x, VV])] 9)) (by omega) (HT.out.gr (HG4.out.trans (Gr.alloc _ _))))
        have HO5 := Lib.hid ((own_new1 w4 (cat 1 [x, VV])).mono HG4.out.size)
        have HG5 := Lib.hid (HG4.out.trans (Gr.alloc w4 (.cells #[.string (cat 1 [x, VV])] 9)))
        go_wp2_with fail
        refine HN.out.mono ?_
        rintro e w6 ⟨rfl, hg6⟩
        have HG6 := Lib.hid (HG5.out.trans hg6)
        have HO6 := Lib.hid (HO5.out.gr hg6)
        clear hg6 HN HG5 HO5 hadd1 hadd2
        go_wp2_with fail
        go_ret2
        exact ⟨_, by rw [HW.out]; rfl, by rw [HW.out, HLn.out]; exact HO6.out, HG6.out, fun h => by rw [HW.out] at h; simp at h⟩
      obtain ⟨gu, ou, cu, rfl, _, hcu1, hcu2⟩ := ho4.shape (by omega)
      obtain ⟨m4, hm4⟩ : ∃ m4, LL.length = m4 := ⟨_, rfl⟩
      have HLL := Lib.hid hm4
      rw [hm4] at ho4 hWn hcu1 hL0 ⊢
      have HO4 := Lib.hid ho4
      clear hm4 ho4 hg4 hz4 Hrec hcx
      have hadd1 : ∀ w1, (Op.stringOp .add (⟨#[1]⟩ : ByteArray) x).run Tryd.prog w1 = .ok (.string (⟨#[1]⟩ ++ x)) w1 := fun w1 => by
        rw [run_string_add_sum]; rw [show (⟨#[1]⟩ : ByteArray).size = 1 from rfl]; omega
      have hadd2 : ∀ w1, (Op.stringOp .add ((⟨#[1]⟩ : ByteArray) ++ x) VV).run Tryd.prog w1 = .ok (.string (cat 1 [x, VV])) w1 := fun w1 => by
        rw [run_string_add_sum, cat_add2]
        rw [ByteArray.size_append, show (⟨#[1]⟩ : ByteArray).size = 1 from rfl]; omega
      go_wp2_with (first | ((with_reducible show wpList _ _ _ (⟨some 90, _, _, _, _, _⟩ :: _) _ _); refine wpList_append_Own rfl (.tmp 88) (.tmp 89) 22 rfl 9 i9 (.string ⟨#[]⟩) 1 16 Tryd.underlying22 hi9 hz9 hsz9 hb9 rfl (by decide) rfl (own_new1 w4 (cat 1 [x, VV])) ⟨gu, ou, none⟩ m4 cu (sC LL) rfl ?hlA ?hnewsA ?h1cA (by omega) ?b1A ?b2A ?hBA ?_))
      case hlA => rw [sC_length, HLL.out]; omega
      case hnewsA => exact fun j u hj => by rw [Addr.add_mid]; exact (Gr.alloc w4 _).cell (HO4.out.cell j u hj)
      case h1cA => intro u hu; simp [sC] at hu; obtain ⟨y, _, rfl⟩ := hu; rfl
      case b1A => unfold maxLen; omega
      case b2A => omega
      case hBA => simp
      intro v5 w5 hown hchg _
      have hg5 : Gr w w5 := gr_step HG4.out (Gr.alloc w4 (.cells #[.string (cat 1 [x, VV])] 9)) hchg (fun g hg => by
        have := (own_new1 w4 (cat 1 [x, VV])).ge hg
        have := HG4.out.size; omega)
      have HO5 : Hid (Own w.heap.size 1 v5 (LL.length + 1) (sC (cat 1 [x, VV] :: LL)) w5) := Lib.hid (by
        have h := hown.mono HG4.out.size
        rw [show LL.length + 1 = 1 + m4 by rw [HLL.out]; omega]
        exact h)
      have HN := Lib.hid (node_any x VV w5 (by omega) (HT.out.gr hg5))
      have HG5 := Lib.hid hg5
      clear hown hchg hg5 hadd1 hadd2
      go_wp2_with fail
      refine HN.out.mono ?_
      rintro e w6 ⟨rfl, hg6⟩
      have HG6 := Lib.hid (HG5.out.trans hg6)
      have HO6 := Lib.hid (HO5.out.gr hg6)
      clear hg6 HN HG5 HO5
      go_wp2_with fail
      go_ret2
      exact ⟨v5, by rw [HW.out]; rfl, by rw [HW.out]; exact HO6.out, HG6.out, fun h => by rw [HW.out] at h; simp at h⟩
end Go.Proofs.YtbkhkpcnclhoiaaDoor
