/- The contracts of the statements' helpers way and collide. -/
import Derived.Test.YtbkhkpcnclhoiaaDoorAppend
import Derived.WalkMore
namespace Go.Proofs.YtbkhkpcnclhoiaaDoor
open Go.RowKit Go.Shelf
attribute [local go_sem] gAt gUpon
attribute [local simp] Gr.refl Gr.alloc

theorem cat_add1 (m : UInt8) (a : ByteArray) : (⟨#[m]⟩ : ByteArray) ++ a = cat m [a] := by
  apply ByteArray.ext; simp [cat]
theorem cat_add2 (m : UInt8) (a b : ByteArray) : (⟨#[m]⟩ : ByteArray) ++ a ++ b = cat m [a, b] := by
  apply ByteArray.ext; simp [cat]
theorem own_new1 (w : World) (x : ByteArray) : Own w.heap.size 1 (.slice (some ⟨w.heap.size, 0, none⟩) 1 1) 1 [.string x] (w.alloc (.cells #[.string x] 9)) := by
  have hrow : (w.alloc (.cells #[.string x] 9)).heap[w.heap.size]? = some (.cells #[.string x] 9 (0, 0)) := heap_alloc_new _ _
  refine ⟨rfl, .inr ⟨_, 0, 1, rfl, Nat.le_refl _, Nat.le_refl _, by unfold maxLen; omega, ?_, ?_⟩⟩
  · intro j u hj
    match j, hj with
    | 0, hj => rw [cell_of_row _ _ _ _ _ _ hrow]; exact hj
  · intro j hj
    have : j = 0 := by omega
    subst this
    rw [cell_of_row _ _ _ _ _ _ hrow]
    exact ⟨rfl, frozen_of_row _ _ _ _ _ hrow⟩
theorem wayR_size (s : ByteArray) : ∀ (r : List ByteArray) (n i : Nat), (wayR s r n i).2.size = 32 := by
  intro r
  cases r with
  | nil => intro n i; exact leafD_size _
  | cons x r => intro n i; rw [wayR]; split; · exact leafD_size _
                split <;> exact nodeD_size _ _
theorem wayR_len (s : ByteArray) : ∀ (r : List ByteArray) (n i : Nat), 0 < (wayR s r n i).1.length ∧ (wayR s r n i).1.length ≤ r.length + 1 := by
  intro r
  induction r with
  | nil => intro n i; simp [wayR]
  | cons x r ih =>
    intro n i
    rw [wayR]
    split
    · simp
    · split <;> simp <;> first | exact (ih _ _).2 | skip

set_option maxRecDepth 100000 in
set_option maxHeartbeats 4000000 in
theorem way_any (s : ByteArray) (hs : s.size ≤ 60) : ∀ (n : Nat) (P : List ByteArray) (N I : Nat) (v : Value) (w : World), P.length = n → n ≤ 1000 → StrsAt v P w → (∀ x ∈ P, x.size = 32) → I < N → N ≤ 9223372036854775807 → Tab w →
    Calls Tryd.prog 23 #[.int .i64 (N : Int), .int .i64 (I : Int), .string s, v] w fun e w' => ∃ u, e = .returned (.tuple #[u, .string (wayR s P.reverse N I).2]) ∧ Own w.heap.size 1 u (wayR s P.reverse N I).1.length (sC (wayR s P.reverse N I).1) w' ∧ Gr w w' := by
  obtain ⟨i9, hi9, hz9, hsz9, hb9⟩ := info_parts info9
  intro n
  induction n with
  | zero =>
    intro P N I v w hPn hn hv hPs hIN hN hT
    have hP : P = [] := List.eq_nil_of_length_eq_zero hPn
    subst hP
    obtain ⟨p, c, rfl⟩ := hv.shape
    have HW : Hid (wayR s ([] : List ByteArray).reverse N I = ([cat 0 [s]], leafD s)) := Lib.hid rfl
    clear hv hPs hPn
    rw [List.length_nil]
    by_cases h1 : N ≤ 1
    · have ht1 : decide (N ≤ 1) = true := decide_eq_true h1
      have hadd : ∀ w1, (Op.stringOp .add (⟨#[0]⟩ : ByteArray) s).run Tryd.prog w1 = .ok (.string (cat 0 [s])) w1 := fun w1 => by
        rw [run_string_add_sum, cat_add1]; rw [show (⟨#[0]⟩ : ByteArray).size = 1 from rfl]; omega
      have HL := Lib.hid (leaf_any s (w.alloc (.cells #[.string (cat 0 [s])] 9)) (by omega) (hT.gr (Gr.alloc _ _)))
      have HO := Lib.hid (own_new1 w (cat 0 [s]))
      clear hT
      go_enter Tryd.func23, Tryd.ntmps23
      go_wp2_with fail
      refine HL.out.mono ?_
      rintro e w6 ⟨rfl, hg6⟩
      have HG6 := Lib.hid ((Gr.alloc w (.cells #[.string (cat 0 [s])] 9)).trans hg6)
      have HO6 := Lib.hid (HO.out.gr hg6)
      clear hg6 HL HO hadd
      go_wp2_with fail
      go_ret2
      exact ⟨_, by rw [HW.out]; rfl, by rw [HW.out]; exact HO6.out, HG6.out⟩
    have ht1 : decide (N ≤ 1) = false := decide_eq_false h1
    have hadd : ∀ w1, (Op.stringOp .add (⟨#[0]⟩ : ByteArray) s).run Tryd.prog w1 = .ok (.string (cat 0 [s])) w1 := fun w1 => by
      rw [run_string_add_sum, cat_add1]; rw [show (⟨#[0]⟩ : ByteArray).size = 1 from rfl]; omega
    have HL := Lib.hid (leaf_any s (w.alloc (.cells #[.string (cat 0 [s])] 9)) (by omega) (hT.gr (Gr.alloc _ _)))
    have HO := Lib.hid (own_new1 w (cat 0 [s]))
    clear hT
    go_enter Tryd.func23, Tryd.ntmps23
    go_wp2_with fail
    refine HL.out.mono ?_
    rintro e w6 ⟨rfl, hg6⟩
    have HG6 := Lib.hid ((Gr.alloc w (.cells #[.string (cat 0 [s])] 9)).trans hg6)
    have HO6 := Lib.hid (HO.out.gr hg6)
    clear hg6 HL HO hadd
    go_wp2_with fail
    go_ret2
    exact ⟨_, by rw [HW.out]; rfl, by rw [HW.out]; exact HO6.out, HG6.out⟩
  | succ n ih =>
    intro P N I v w hPn hn hv hPs hIN hN hT
    by_cases h1 : N ≤ 1
    · have ht1 : decide (N ≤ 1) = true := decide_eq_true h1
      have HW : Hid (wayR s P.reverse N I = ([cat 0 [s]], leafD s)) := Lib.hid (by
        cases hr : P.reverse with
        | nil => rfl
        | cons y r => rw [wayR, if_pos h1])
      obtain ⟨p, c, rfl⟩ := hv.shape
      clear hv hPs hPn
      have hadd : ∀ w1, (Op.stringOp .add (⟨#[0]⟩ : ByteArray) s).run Tryd.prog w1 = .ok (.string (cat 0 [s])) w1 := fun w1 => by
        rw [run_string_add_sum, cat_add1]; rw [show (⟨#[0]⟩ : ByteArray).size = 1 from rfl]; omega
      have HL := Lib.hid (leaf_any s (w.alloc (.cells #[.string (cat 0 [s])] 9)) (by omega) (hT.gr (Gr.alloc _ _)))
      have HO := Lib.hid (own_new1 w (cat 0 [s]))
      clear hT
      go_enter Tryd.func23, Tryd.ntmps23
      go_wp2_with fail
      refine HL.out.mono ?_
      rintro e w6 ⟨rfl, hg6⟩
      have HG6 := Lib.hid ((Gr.alloc w (.cells #[.string (cat 0 [s])] 9)).trans hg6)
      have HO6 := Lib.hid (HO.out.gr hg6)
      clear hg6 HL HO hadd
      go_wp2_with fail
      go_ret2
      exact ⟨_, by rw [HW.out]; rfl, by rw [HW.out]; exact HO6.out, HG6.out⟩
    obtain ⟨Q, x, rfl⟩ : ∃ Q x, P = Q ++ [x] := by
      rcases snoc_cases P with rfl | h
      · simp at hPn
      · exact h
    obtain ⟨g, off, c4, rfl, hcap, hcm, hc⟩ := hv.shape_snoc
    have hQn : Q.length = n := by simpa using hPn
    have hcx : w.cell? ⟨g, off + n, none⟩ = some (.string x) := hc _ _ (by rw [← hQn]; simp)
    have HSQ : Hid (StrsAt (.slice (some ⟨g, off, none⟩) n c4) Q w) := Lib.hid (.inr ⟨g, off, c4, by rw [hQn], by omega, hcm, fun j y hj => hc j y (by rw [List.getElem?_append_left (List.getElem?_eq_some_iff.1 hj).1]; exact hj)⟩)
    have HPQ : Hid (∀ y ∈ Q, y.size = 32) := Lib.hid (fun y hy => hPs y (by simp [hy]))
    have hxs : x.size = 32 := hPs x (by simp)
    have HT := Lib.hid hT
    have ht1 : decide (N ≤ 1) = false := decide_eq_false h1
    have HLf0 := fun w => lawLeft_any N (by omega) hN w
    have hK1 := (lp_spec N (by omega)).1
    have hK0 := lp_pos N
    have hWl : I < lp N → wayR s (Q ++ [x]).reverse N I = (cat 1 [(wayR s Q.reverse (lp N) I).2, x] :: (wayR s Q.reverse (lp N) I).1, nodeD (wayR s Q.reverse (lp N) I).2 x) := fun h => by
      rw [List.reverse_append, List.reverse_singleton, List.singleton_append]; exact wayR_low s x _ (by omega) h
    have hWh : ¬ I < lp N → wayR s (Q ++ [x]).reverse N I = (cat 1 [x, (wayR s Q.reverse (N - lp N) (I - lp N)).2] :: (wayR s Q.reverse (N - lp N) (I - lp N)).1, nodeD x (wayR s Q.reverse (N - lp N) (I - lp N)).2) := fun h => by
      rw [List.reverse_append, List.reverse_singleton, List.singleton_append]; exact wayR_high s x _ (by omega) h
    rw [hQn] at hcap ⊢
    generalize lp N = K at HLf0 hK1 hK0 hWl hWh
    have HLf := Lib.hid HLf0
    have HWl := Lib.hid hWl
    have HWh := Lib.hid hWh
    have HQn := Lib.hid hQn
    have Hih := Lib.hid ih
    have ht0 : ((n : Int) + 1 == 0) = false := by rw [beq_eq_false_iff_ne]; omega
    clear HLf0 hWl hWh hQn ih hc hv hPs hPn hT
    by_cases hIK : I < K
    · have ht2 : decide (I < K) = true := decide_eq_true hIK
      have hrec := Hih.out Q K I (.slice (some ⟨g, off, none⟩) n c4) w HQn.out (by omega) HSQ.out HPQ.out hIK (by omega) HT.out
      have hWs := wayR_size s Q.reverse K I
      have hWn := wayR_len s Q.reverse K I
      have HW := Lib.hid (HWl.out hIK)
      rw [List.length_reverse, HQn.out] at hWn
      generalize hR : wayR s Q.reverse K I = R at hrec hWs hWn HW
      obtain ⟨LL, VV⟩ := R
      dsimp only at hrec hWs hWn HW
      have Hrec := Lib.hid hrec
      clear hrec hR Hih HWl HWh HSQ HPQ
      go_enter Tryd.func23, Tryd.ntmps23
      go_wp2_with (first | (go_at_call 28; refine (HLf.out _).mono ?_; rintro e wl ⟨rfl, rfl⟩))
      refine Hrec.out.mono ?_
      rintro e w4 ⟨u, rfl, ho4, hg4⟩
      obtain ⟨gu, ou, cu, rfl, _, hcu1, hcu2⟩ := ho4.shape hWn.1
      obtain ⟨m4, hm4⟩ : ∃ m4, LL.length = m4 := ⟨_, rfl⟩
      have HLL := Lib.hid hm4
      rw [hm4] at ho4 hWn hcu1 ⊢
      have HO4 := Lib.hid ho4
      have HG4 := Lib.hid hg4
      obtain ⟨hWn1, hWn2⟩ := hWn
      clear hm4 ho4 hg4 Hrec hcx
      have hadd1 : ∀ w1, (Op.stringOp .add (⟨#[1]⟩ : ByteArray) VV).run Tryd.prog w1 = .ok (.string (⟨#[1]⟩ ++ VV)) w1 := fun w1 => by
        rw [run_string_add_sum]; rw [show (⟨#[1]⟩ : ByteArray).size = 1 from rfl]; omega
      have hadd2 : ∀ w1, (Op.stringOp .add ((⟨#[1]⟩ : ByteArray) ++ VV) x).run Tryd.prog w1 = .ok (.string (cat 1 [VV, x])) w1 := fun w1 => by
        rw [run_string_add_sum, cat_add2]
        rw [ByteArray.size_append, show (⟨#[1]⟩ : ByteArray).size = 1 from rfl]; omega
      go_wp2_with (first | ((with_reducible show wpList _ _ _ (⟨some 59, _, _, _, _, _⟩ :: _) _ _); refine wpList_append_Own rfl (.tmp 57) (.tmp 58) 22 rfl 9 i9 (.string ⟨#[]⟩) 1 16 Tryd.underlying22 hi9 hz9 hsz9 hb9 rfl (by decide) rfl (own_new1 w4 (cat 1 [VV, x])) ⟨gu, ou, none⟩ m4 cu (sC LL) rfl ?hlA ?hnewsA ?h1cA (by omega) ?b1A ?b2A ?hBA ?_))
      case hlA => rw [sC_length, HLL.out]; omega
      case hnewsA => exact fun j u hj => by rw [Addr.add_mid]; exact (Gr.alloc w4 _).cell (HO4.out.cell j u hj)
      case h1cA => intro u hu; simp [sC] at hu; obtain ⟨y, _, rfl⟩ := hu; rfl
      case b1A => unfold maxLen; omega
      case b2A => omega
      case hBA => simp
      intro v5 w5 hown hchg _
      have hg5 : Gr w w5 := gr_step HG4.out (Gr.alloc w4 (.cells #[.string (cat 1 [VV, x])] 9)) hchg (fun g hg => by
        have := (own_new1 w4 (cat 1 [VV, x])).ge hg
        have := HG4.out.size; omega)
      have HO5 : Hid (Own w.heap.size 1 v5 (LL.length + 1) (sC (cat 1 [VV, x] :: LL)) w5) := Lib.hid (by
        have h := hown.mono HG4.out.size
        rw [show LL.length + 1 = 1 + m4 by rw [HLL.out]; omega]
        exact h)
      have HN := Lib.hid (node_any VV x w5 (by omega) (HT.out.gr hg5))
      have HG5 := Lib.hid hg5
      clear hown hchg hg5 hadd1 hadd2
      go_wp2_with fail
      refine HN.out.mono ?_
      rintro e w6 ⟨rfl, hg6⟩
      have HG6 := Lib.hid (HG5.out.trans hg6)
      have HO6 := Lib.hid (HO5.out.gr hg6)
      clear hg6 HN HG5 HO5
      go_wp2_with fail
      go_ret2
      exact ⟨v5, by rw [HW.out]; rfl, by rw [HW.out]; exact HO6.out, HG6.out⟩
    · have ht2 : decide (I < K) = false := decide_eq_false hIK
      have hrec := Hih.out Q (N - K) (I - K) (.slice (some ⟨g, off, none⟩) n c4) w HQn.out (by omega) HSQ.out HPQ.out (by omega) (by omega) HT.out
      rw [show ((N - K : Nat) : Int) = (N : Int) - (K : Int) by omega, show ((I - K : Nat) : Int) = (I : Int) - (K : Int) by omega] at hrec
      have hWs := wayR_size s Q.reverse (N - K) (I - K)
      have hWn := wayR_len s Q.reverse (N - K) (I - K)
      have HW := Lib.hid (HWh.out hIK)
      rw [List.length_reverse, HQn.out] at hWn
      generalize hR : wayR s Q.reverse (N - K) (I - K) = R at hrec hWs hWn HW
      obtain ⟨LL, VV⟩ := R
      dsimp only at hrec hWs hWn HW
      have Hrec := Lib.hid hrec
      clear hrec hR Hih HWl HWh HSQ HPQ
      go_enter Tryd.func23, Tryd.ntmps23
      go_wp2_with (first | (go_at_call 28; refine (HLf.out _).mono ?_; rintro e wl ⟨rfl, rfl⟩))
      refine Hrec.out.mono ?_
      rintro e w4 ⟨u, rfl, ho4, hg4⟩
      obtain ⟨gu, ou, cu, rfl, _, hcu1, hcu2⟩ := ho4.shape hWn.1
      obtain ⟨m4, hm4⟩ : ∃ m4, LL.length = m4 := ⟨_, rfl⟩
      have HLL := Lib.hid hm4
      rw [hm4] at ho4 hWn hcu1 ⊢
      have HO4 := Lib.hid ho4
      have HG4 := Lib.hid hg4
      obtain ⟨hWn1, hWn2⟩ := hWn
      clear hm4 ho4 hg4 Hrec hcx
      have hadd1 : ∀ w1, (Op.stringOp .add (⟨#[1]⟩ : ByteArray) x).run Tryd.prog w1 = .ok (.string (⟨#[1]⟩ ++ x)) w1 := fun w1 => by
        rw [run_string_add_sum]; rw [show (⟨#[1]⟩ : ByteArray).size = 1 from rfl]; omega
      have hadd2 : ∀ w1, (Op.stringOp .add ((⟨#[1]⟩ : ByteArray) ++ x) VV).run Tryd.prog w1 = .ok (.string (cat 1 [x, VV])) w1 := fun w1 => by
        rw [run_string_add_sum, cat_add2]
        rw [ByteArray.size_append, show (⟨#[1]⟩ : ByteArray).size = 1 from rfl]; omega
      go_wp2_with (first | ((with_reducible show wpList _ _ _ (⟨some 81, _, _, _, _, _⟩ :: _) _ _); refine wpList_append_Own rfl (.tmp 79) (.tmp 80) 22 rfl 9 i9 (.string ⟨#[]⟩) 1 16 Tryd.underlying22 hi9 hz9 hsz9 hb9 rfl (by decide) rfl (own_new1 w4 (cat 1 [x, VV])) ⟨gu, ou, none⟩ m4 cu (sC LL) rfl ?hlA ?hnewsA ?h1cA (by omega) ?b1A ?b2A ?hBA ?_))
      case hlA => rw [sC_length, HLL.out]; omega
      case hnewsA => exact fun j u hj => by rw [Addr.add_mid]; exact (Gr.alloc w4 _).cell (HO4.out.cell j u hj)
      case h1cA => intro u hu; simp [sC] at hu; obtain ⟨y, _, rfl⟩ := hu; rfl
      case b1A => unfold maxLen; omega
      case b2A => omega
      case hBA => simp
      intro v5 w5 hown hchg _
      have hg5 : Gr w w5 := gr_step HG4.out (Gr.alloc w4 (.cells #[.string (cat 1 [x, VV])] 9)) hchg (fun g hg => by
        have := (own_new1 w4 (cat 1 [x, VV])).ge hg
        have := HG4.out.size; omega)
      have HO5 : Hid (Own w.heap.size 1 v5 (LL.length + 1) (sC (cat 1 [x, VV] :: LL)) w5) := Lib.hid (by
        have h := hown.mono HG4.out.size
        rw [show LL.length + 1 = 1 + m4 by rw [HLL.out]; omega]
        exact h)
      have HN := Lib.hid (node_any x VV w5 (by omega) (HT.out.gr hg5))
      have HG5 := Lib.hid hg5
      clear hown hchg hg5 hadd1 hadd2
      go_wp2_with fail
      refine HN.out.mono ?_
      rintro e w6 ⟨rfl, hg6⟩
      have HG6 := Lib.hid (HG5.out.trans hg6)
      have HO6 := Lib.hid (HO5.out.gr hg6)
      clear hg6 HN HG5 HO5
      go_wp2_with fail
      go_ret2
      exact ⟨v5, by rw [HW.out]; rfl, by rw [HW.out]; exact HO6.out, HG6.out⟩
end Go.Proofs.YtbkhkpcnclhoiaaDoor
