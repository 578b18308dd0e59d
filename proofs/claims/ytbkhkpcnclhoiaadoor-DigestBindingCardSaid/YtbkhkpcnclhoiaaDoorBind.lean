/- The walk of the statement DigestBinding: it answers true. -/
import Derived.Test.YtbkhkpcnclhoiaaDoorColl
namespace Go.Proofs.YtbkhkpcnclhoiaaDoor
open Go.RowKit Go.Shelf
attribute [local go_sem] gAt gUpon
attribute [local simp] Gr.refl Gr.alloc

theorem cat_size1 (m : UInt8) (a : ByteArray) : (cat m [a]).size = 1 + a.size := by
  rw [cat_size]; simp
theorem cat_size2 (m : UInt8) (a b : ByteArray) : (cat m [a, b]).size = 1 + (a.size + b.size) := by
  rw [cat_size]; simp
theorem wayR_all (s : ByteArray) (hs : s.size ≤ 60) : ∀ (r : List ByteArray) (n i : Nat), (∀ x ∈ r, x.size = 32) → ∀ y ∈ (wayR s r n i).1, y.size ≤ 1000 := by
  intro r
  induction r with
  | nil => intro n i _ y hy; simp [wayR] at hy; subst hy; rw [cat_size1]; omega
  | cons x r ih =>
    intro n i hr y hy
    have hx := hr x (List.mem_cons_self ..)
    have hr' := fun z hz => hr z (List.mem_cons_of_mem x hz)
    rw [wayR] at hy
    split at hy
    · simp at hy; subst hy; rw [cat_size1]; omega
    · split at hy
      · rcases List.mem_cons.1 hy with rfl | hy
        · rw [cat_size2, wayR_size, hx]; omega
        · exact ih _ _ hr' y hy
      · rcases List.mem_cons.1 hy with rfl | hy
        · rw [cat_size2, wayR_size, hx]; omega
        · exact ih _ _ hr' y hy
theorem verD_true {root : ByteArray} {n i : Int} {s : ByteArray} {l : List ByteArray} (h : verD root n i s l = true) : 0 ≤ i ∧ i < n ∧ (∀ x ∈ l, x.size = 32) ∧ valR s l.reverse n.toNat i.toNat = some root := by
  unfold verD at h
  simp only [Bool.and_eq_true, decide_eq_true_eq] at h
  exact ⟨h.1.1.1, h.1.1.2, allD_iff.1 h.1.2, h.2⟩

set_option maxRecDepth 100000 in
set_option maxHeartbeats 4000000 in
theorem bind_any (root : ByteArray) (n i : Int) (s : ByteArray) (v4 : Value) (l4 : List ByteArray) (t : ByteArray) (v6 : Value) (l6 : List ByteArray) (w : World) (_ : root.size ≤ 9223372036854775807)
    (hn : -9223372036854775808 ≤ n ∧ n ≤ 9223372036854775807) (hi : -9223372036854775808 ≤ i ∧ i ≤ 9223372036854775807) (hs : s.size ≤ 9223372036854775807) (h4 : StrsIn v4 l4 w) (ht : t.size ≤ 9223372036854775807) (h6 : StrsIn v6 l6 w) (hT : Tab w) :
    Calls Tryd.prog 6 #[.string root, .int .i64 n, .int .i64 i, .string s, v4, .string t, v6] w fun e w' => e = .returned (.bool true) ∧ Gr w w' := by
  obtain ⟨hn1, hn2⟩ := hn
  obtain ⟨hi1, hi2⟩ := hi
  have H4 := Lib.hid h4
  have H6 := Lib.hid h6
  have HT := Lib.hid hT
  have hm1 : min (s.size : Int) 60 = ((min s.size 60 : Nat) : Int) := by omega
  have hm2 : min (t.size : Int) 60 = ((min t.size 60 : Nat) : Int) := by omega
  have hs1 : (s.extract 0 (min s.size 60)).size ≤ 60 := by rw [show s.extract 0 (min s.size 60) = cutD s 60 from rfl, cutD_size]; omega
  have ht1 : (t.extract 0 (min t.size 60)).size ≤ 60 := by rw [show t.extract 0 (min t.size 60) = cutD t 60 from rfl, cutD_size]; omega
  have HS1 := Lib.hid hs1
  have HT1 := Lib.hid ht1
  clear h4 h6 hT hs1 ht1
  go_enter Tryd.func6, Tryd.ntmps6
  go_wp2_with fail
  refine (sane_any w HT.out).mono ?_
  rintro e w1 ⟨rfl, hg1⟩
  go_wp2_with fail
  refine (few_in v4 l4 70 w1 (H4.out.gr hg1) (by decide)).mono ?_
  rintro e w2 ⟨u4, rfl, ho4, hg2, -⟩
  go_wp2_with fail
  refine (few_in v6 l6 70 w2 (H6.out.gr (hg1.trans hg2)) (by decide)).mono ?_
  rintro e w3 ⟨u6, rfl, ho6, hg3, -⟩
  have hP := fewD_len l4 70
  have hQ := fewD_len l6 70
  have HP := Lib.hid (ho4.strs.2.gr hg3)
  have HQ := Lib.hid ho6.strs.2
  generalize fewD l4 70 = P at hP HP
  generalize fewD l6 70 = Q at hQ HQ
  have hP70 : P.length ≤ 70 := by omega
  have hQ70 : Q.length ≤ 70 := by omega
  have HG3 := Lib.hid (hg1.trans (hg2.trans hg3))
  clear ho4 ho6 hg1 hg2 hg3 hP hQ H4 H6
  go_upto_region 6 with fail
  generalize s.extract 0 (min s.size 60) = s' at HS1 ⊢
  generalize t.extract 0 (min t.size 60) = t' at HT1 ⊢
  clear hm1 hm2
  have HV1 := Lib.hid (verify_any root s' n i u4 P w3 HP.out (by omega) hn2 (by have := HS1.out; omega) (HT.out.gr HG3.out))
  have HV2 : Hid (∀ w', Gr w3 w' → Calls Tryd.prog 21 #[.string root, .int .i64 n, .int .i64 i, .string t', u6] w' fun e w'' => e = .returned (.bool (verD root n i t' Q)) ∧ Gr w' w'') := Lib.hid (fun w' hg => verify_any root t' n i u6 Q w' (HQ.out.gr hg) (by omega) hn2 (by have := HT1.out; omega) (HT.out.gr (HG3.out.trans hg)))
  have HBoth : Hid (verD root n i s' P = true → verD root n i t' Q = true → s' ≠ t' → ∃ N I : Nat, n = (N : Int) ∧ i = (I : Int) ∧ I < N ∧ (∀ x ∈ P, x.size = 32) ∧ (∀ x ∈ Q, x.size = 32) ∧ collD (wayR s' P.reverse N I).1 (wayR t' Q.reverse N I).1 = true) := Lib.hid (fun h1 h2 h3 => by
    obtain ⟨a1, a2, a3, a4⟩ := verD_true h1
    obtain ⟨_, _, b3, b4⟩ := verD_true h2
    exact ⟨n.toNat, i.toNat, by omega, by omega, by omega, a3, b3, binding h3 (by omega) (fun x hx => a3 x (List.mem_reverse.1 hx)) (fun x hx => b3 x (List.mem_reverse.1 hx)) a4 b4⟩)
  generalize verD root n i s' P = a1 at HV1 HBoth
  generalize verD root n i t' Q = a2 at HV2 HBoth
  go_wp2_with fail
  refine HV1.out.mono ?_
  rintro e w4 ⟨rfl, hg4⟩
  have HV2' := Lib.hid (HV2.out w4 hg4)
  have HG4 := Lib.hid hg4
  clear hg4 HV1 HV2
  go_wp2_with fail
  refine HV2'.out.mono ?_
  rintro e w5 ⟨rfl, hg5⟩
  have HG5 := Lib.hid (HG4.out.trans hg5)
  have HGw := Lib.hid (HG3.out.trans (HG4.out.trans hg5))
  clear hg5 HV2' HG4
  cases a1 with
  | false =>
    clear HBoth
    go_wp2_with fail
    go_ret
    exact ⟨rfl, HGw.out⟩
  | true =>
    cases a2 with
    | false =>
      clear HBoth
      go_wp2_with fail
      go_ret
      exact ⟨rfl, HGw.out⟩
    | true =>
      by_cases hst : s' = t'
      · have hb : (s'.toList == t'.toList) = true := by rw [beq_string]; exact decide_eq_true hst
        clear hst HBoth
        go_wp2_with fail
        go_ret
        exact ⟨rfl, HGw.out⟩
      · have hb : (s'.toList == t'.toList) = false := by rw [beq_string]; exact decide_eq_false hst
        obtain ⟨N, I, rfl, rfl, hIN, hPs, hQs, hcoll⟩ := HBoth.out rfl rfl hst
        have HW1 := Lib.hid (way_any s' HS1.out P.length P N I u4 w5 rfl (by omega) (HP.out.gr HG5.out) hPs hIN (by omega) (HT.out.gr HGw.out))
        have HW2 : Hid (∀ w', Gr w5 w' → Calls Tryd.prog 23 #[.int .i64 (N : Int), .int .i64 (I : Int), .string t', u6] w' fun e w'' => ∃ u, e = .returned (.tuple #[u, .string (wayR t' Q.reverse N I).2]) ∧ Own w'.heap.size 1 u (wayR t' Q.reverse N I).1.length (sC (wayR t' Q.reverse N I).1) w'' ∧ Gr w' w'') :=
          Lib.hid (fun w' hg => way_any t' HT1.out Q.length Q N I u6 w' rfl (by omega) (HQ.out.gr (HG5.out.trans hg)) hQs hIN (by omega) (HT.out.gr (HGw.out.trans hg)))
        have hA1 := (wayR_len s' P.reverse N I).2
        have hA2 := (wayR_len t' Q.reverse N I).2
        rw [List.length_reverse] at hA1 hA2
        have HA3 := Lib.hid (wayR_all s' HS1.out P.reverse N I (fun x hx => hPs x (List.mem_reverse.1 hx)))
        have HA4 := Lib.hid (wayR_all t' HT1.out Q.reverse N I (fun x hx => hQs x (List.mem_reverse.1 hx)))
        have HC := Lib.hid hcoll
        clear hst HBoth hPs hQs hcoll
        generalize wayR s' P.reverse N I = R1 at *
        generalize wayR t' Q.reverse N I = R2 at *
        obtain ⟨L1, V1⟩ := R1
        obtain ⟨L2, V2⟩ := R2
        dsimp only at HW1 HW2 hA1 hA2 HA3 HA4 HC
        go_wp2_with fail
        refine HW1.out.mono ?_
        rintro e w6 ⟨x1, rfl, ho1, hg6⟩
        have HW2' := Lib.hid (HW2.out w6 hg6)
        have HO1 := Lib.hid ho1.strs.2
        have HG6 := Lib.hid (HGw.out.trans hg6)
        clear ho1 hg6 HW1 HW2
        go_wp2_with fail
        refine HW2'.out.mono ?_
        rintro e w7 ⟨x2, rfl, ho2, hg7⟩
        have HG7 := Lib.hid (HG6.out.trans hg7)
        have HCo := Lib.hid (coll_any x1 x2 L1 L2 w7 (HO1.out.gr hg7) ho2.strs.2 (by omega) (by omega) HA3.out HA4.out (HT.out.gr HG7.out))
        rw [HC.out] at HCo
        clear ho2 hg7 HO1 HA3 HA4 HW2'
        go_wp2_with fail
        refine HCo.out.mono ?_
        rintro e w8 ⟨rfl, hg8⟩
        have HG8 := Lib.hid (HG7.out.trans hg8)
        clear hg8 HCo
        go_wp2_with fail
        go_ret
        exact ⟨rfl, HG8.out⟩
end Go.Proofs.YtbkhkpcnclhoiaaDoor
