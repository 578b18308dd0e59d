/- The walk of the statement DigestExtensionBinding: it answers true. -/
import Derived.Test.YtbkhkpcnclhoiaaDoorSides
namespace Go.Proofs.YtbkhkpcnclhoiaaDoor
open Go.RowKit Go.Shelf
attribute [local go_sem] gAt gUpon
attribute [local simp] Gr.refl Gr.alloc

theorem catsize2 (m : UInt8) (a b : ByteArray) : (cat m [a, b]).size = 1 + (a.size + b.size) := by
  rw [cat_size]; simp
theorem sidesR_all {old : ByteArray} (ho : old.size = 32) : ∀ (r : List ByteArray) (m n : Nat) (b : Bool), (∀ x ∈ r, x.size = 32) → ∀ y ∈ (sidesR old r m n b).1, y.size ≤ 1000 := by
  intro r
  induction r with
  | nil => intro m n b _ y hy; simp [sidesR] at hy
  | cons x r ih =>
    intro m n b hr y hy
    have hx := hr x (List.mem_cons_self ..)
    have hr' := fun z hz => hr z (List.mem_cons_of_mem x hz)
    rw [sidesR] at hy
    split at hy
    · simp at hy
    · split at hy
      · rcases List.mem_cons.1 hy with rfl | hy
        · rw [catsize2, sidesR_size ho _ _ _ _ hr', hx]; omega
        · exact ih _ _ _ hr' y hy
      · rcases List.mem_cons.1 hy with rfl | hy
        · rw [catsize2, sidesR_size ho _ _ _ _ hr', hx]; omega
        · exact ih _ _ _ hr' y hy
theorem verED_true {old root : ByteArray} {m n : Int} {l : List ByteArray} (h : verED old m root n l = true) : 0 ≤ m ∧ m ≤ n ∧ (∀ x ∈ l, x.size = 32) ∧ old.size = 32 ∧ root.size = 32 ∧
    ((m = 0 ∧ old = emptyD) ∨ (m ≠ 0 ∧ bothR old l.reverse m.toNat n.toNat true = some (old, root))) := by
  unfold verED at h
  simp only [Bool.and_eq_true, decide_eq_true_eq] at h
  obtain ⟨⟨⟨⟨⟨h1, h2⟩, h3⟩, h4⟩, h5⟩, h6⟩ := h
  refine ⟨h1, h2, allD_iff.1 h3, h4, h5, ?_⟩
  by_cases h0 : m = 0
  · rw [if_pos h0] at h6
    simp only [Bool.and_eq_true, decide_eq_true_eq] at h6
    exact .inl ⟨h0, h6.2⟩
  · rw [if_neg h0] at h6
    exact .inr ⟨h0, of_decide_eq_true h6⟩

set_option maxRecDepth 100000 in
set_option maxHeartbeats 4000000 in
theorem xbind_any (a : ByteArray) (v1 : Value) (l1 : List ByteArray) (b : ByteArray) (v3 : Value) (l3 : List ByteArray) (m : Int) (root : ByteArray) (n : Int) (w : World) (_ : a.size ≤ 9223372036854775807) (h1 : StrsIn v1 l1 w) (_ : b.size ≤ 9223372036854775807)
    (h3 : StrsIn v3 l3 w) (hm : -9223372036854775808 ≤ m ∧ m ≤ 9223372036854775807) (_ : root.size ≤ 9223372036854775807) (hn : -9223372036854775808 ≤ n ∧ n ≤ 9223372036854775807) (hT : Tab w) :
    Calls Tryd.prog 7 #[.string a, v1, .string b, v3, .int .i64 m, .string root, .int .i64 n] w fun e w' => e = .returned (.bool true) ∧ Gr w w' := by
  obtain ⟨hn1, hn2⟩ := hn
  obtain ⟨hm1, hm2⟩ := hm
  have H1 := Lib.hid h1
  have H3 := Lib.hid h3
  have HT := Lib.hid hT
  clear h1 h3 hT
  go_enter Tryd.func7, Tryd.ntmps7
  go_wp2_with fail
  refine (sane_any w HT.out).mono ?_
  rintro e w1 ⟨rfl, hg1⟩
  go_wp2_with fail
  refine (few_in v1 l1 70 w1 (H1.out.gr hg1) (by decide)).mono ?_
  rintro e w2 ⟨u1, rfl, ho1, hg2, -⟩
  go_wp2_with fail
  refine (few_in v3 l3 70 w2 (H3.out.gr (hg1.trans hg2)) (by decide)).mono ?_
  rintro e w3 ⟨u3, rfl, ho3, hg3, -⟩
  have hP := fewD_len l1 70
  have hQ := fewD_len l3 70
  have HP := Lib.hid (ho1.strs.2.gr hg3)
  have HQ := Lib.hid ho3.strs.2
  generalize fewD l1 70 = P at hP HP
  generalize fewD l3 70 = Q at hQ HQ
  have hP70 : P.length ≤ 70 := by omega
  have hQ70 : Q.length ≤ 70 := by omega
  have HG3 := Lib.hid (hg1.trans (hg2.trans hg3))
  clear ho1 ho3 hg1 hg2 hg3 hP hQ H1 H3
  have HV1 := Lib.hid (vext_any a root m n u1 P w3 HP.out (by omega) hn2 (HT.out.gr HG3.out))
  have HV2 : Hid (∀ w', Gr w3 w' → Calls Tryd.prog 22 #[.string b, .int .i64 m, .string root, .int .i64 n, u3] w' fun e w'' => e = .returned (.bool (verED b m root n Q)) ∧ Gr w' w'') := Lib.hid (fun w' hg => vext_any b root m n u3 Q w' (HQ.out.gr hg) (by omega) hn2 (HT.out.gr (HG3.out.trans hg)))
  have HBoth : Hid (verED a m root n P = true → verED b m root n Q = true → a ≠ b → ∃ M N : Nat, m = (M : Int) ∧ n = (N : Int) ∧ 0 < M ∧ a.size = 32 ∧ b.size = 32 ∧ (∀ x ∈ P, x.size = 32) ∧ (∀ x ∈ Q, x.size = 32) ∧ collD (sidesR a P.reverse M N true).1 (sidesR b Q.reverse M N true).1 = true) := Lib.hid (fun h1 h2 h3 => by
    obtain ⟨a1, a2, a3, a4, a5, a6⟩ := verED_true h1
    obtain ⟨_, _, b3, b4, _, b6⟩ := verED_true h2
    rcases a6 with ⟨a6, a7⟩ | ⟨a6, a7⟩
    · rcases b6 with ⟨_, b7⟩ | ⟨b6, _⟩
      · exact (h3 (by rw [a7, b7])).elim
      · exact (b6 a6).elim
    · rcases b6 with ⟨b6, _⟩ | ⟨_, b7⟩
      · exact (a6 b6).elim
      · exact ⟨m.toNat, n.toNat, by omega, by omega, by omega, a4, b4, a3, b3, ext_binding a4 b4 (fun x hx => a3 x (List.mem_reverse.1 hx)) (fun x hx => b3 x (List.mem_reverse.1 hx)) a7 b7 h3⟩)
  generalize verED a m root n P = a1 at HV1 HBoth
  generalize verED b m root n Q = a2 at HV2 HBoth
  go_wp2_with fail
  refine HV1.out.mono ?_
  rintro e w4 ⟨rfl, hg4⟩
  have HV2' := Lib.hid (HV2.out w4 hg4)
  have HG4 := Lib.hid hg4
  clear hg4 HV1 HV2
  go_wp2_with fail
  refine HV2'.out.mono ?_
  rintro e w5 ⟨rfl, hg5⟩
  have HG5 := Lib.hid (HG4.out.trans hg5)
  have HGw := Lib.hid (HG3.out.trans (HG4.out.trans hg5))
  clear hg5 HV2' HG4
  cases a1 with
  | false =>
    clear HBoth
    go_wp2_with fail
    go_ret
    exact ⟨rfl, HGw.out⟩
  | true =>
    cases a2 with
    | false =>
      clear HBoth
      go_wp2_with fail
      go_ret
      exact ⟨rfl, HGw.out⟩
    | true =>
      by_cases hab : a = b
      · have hb : (a.toList == b.toList) = true := by rw [beq_string]; exact decide_eq_true hab
        clear hab HBoth
        go_wp2_with fail
        go_ret
        exact ⟨rfl, HGw.out⟩
      · have hb : (a.toList == b.toList) = false := by rw [beq_string]; exact decide_eq_false hab
        obtain ⟨M, N, rfl, rfl, hM, ha32, hb32, hPs, hQs, hcoll⟩ := HBoth.out rfl rfl hab
        have HW1 := Lib.hid (sides_any a ha32 P.length P M N true u1 w5 rfl (by omega) (HP.out.gr HG5.out) hPs hM (by omega) (by omega) (HT.out.gr HGw.out))
        have HW2 : Hid (∀ w', Gr w5 w' → Calls Tryd.prog 25 #[.string b, .int .i64 (M : Int), .int .i64 (N : Int), u3, .bool true] w' fun e w'' => ∃ u, e = .returned (.tuple #[u, .string (sidesR b Q.reverse M N true).2]) ∧ Own w'.heap.size 1 u (sidesR b Q.reverse M N true).1.length (sC (sidesR b Q.reverse M N true).1) w'' ∧ Gr w' w'') :=
          Lib.hid (fun w' hg => (sides_any b hb32 Q.length Q M N true u3 w' rfl (by omega) (HQ.out.gr (HG5.out.trans hg)) hQs hM (by omega) (by omega) (HT.out.gr (HGw.out.trans hg))).mono (fun e w'' ⟨u, h1, h2, h3, _⟩ => ⟨u, h1, h2, h3⟩))
        have hA1 := sidesR_len a P.reverse M N true
        have hA2 := sidesR_len b Q.reverse M N true
        rw [List.length_reverse] at hA1 hA2
        have HA3 := Lib.hid (sidesR_all ha32 P.reverse M N true (fun x hx => hPs x (List.mem_reverse.1 hx)))
        have HA4 := Lib.hid (sidesR_all hb32 Q.reverse M N true (fun x hx => hQs x (List.mem_reverse.1 hx)))
        have HC := Lib.hid hcoll
        clear hab HBoth hPs hQs hcoll ha32 hb32
        generalize sidesR a P.reverse M N true = R1 at *
        generalize sidesR b Q.reverse M N true = R2 at *
        obtain ⟨L1, V1⟩ := R1
        obtain ⟨L2, V2⟩ := R2
        dsimp only at HW1 HW2 hA1 hA2 HA3 HA4 HC
        go_wp2_with fail
        refine HW1.out.mono ?_
        rintro e w6 ⟨x1, rfl, ho1, hg6, -⟩
        have HW2' := Lib.hid (HW2.out w6 hg6)
        have HO1 := Lib.hid ho1.strs.2
        have HG6 := Lib.hid (HGw.out.trans hg6)
        clear ho1 hg6 HW1 HW2
        go_wp2_with fail
        refine HW2'.out.mono ?_
        rintro e w7 ⟨x2, rfl, ho2, hg7⟩
        have HG7 := Lib.hid (HG6.out.trans hg7)
        have HCo := Lib.hid (coll_any x1 x2 L1 L2 w7 (HO1.out.gr hg7) ho2.strs.2 (by omega) (by omega) HA3.out HA4.out (HT.out.gr HG7.out))
        rw [HC.out] at HCo
        clear ho2 hg7 HO1 HA3 HA4 HW2'
        go_wp2_with fail
        refine HCo.out.mono ?_
        rintro e w8 ⟨rfl, hg8⟩
        have HG8 := Lib.hid (HG7.out.trans hg8)
        clear hg8 HCo
        go_wp2_with fail
        go_ret
        exact ⟨rfl, HG8.out⟩
end Go.Proofs.YtbkhkpcnclhoiaaDoor
