/- A region that draws its order: two operations may come up. No program in sight. -/
import Derived.Test.YtjnnhhengpinmaaGreatDoorHeldP
import Derived.Test.YtjnnhhengpinmaaGreatDoorNN
import Derived.Test.YtjnnhhengpinmaaGreatDoorNI
import Derived.Test.YtjnnhhengpinmaaGreatDoorRefR
import Derived.WalkMore
import Derived.Test.YtjnnhhengpinmaaGreatDoorVeA
import Derived.Test.YtjnnhhengpinmaaGreatDoorNO
import Derived.Test.YtjnnhhengpinmaaGreatDoorNS
import Derived.Test.YtjnnhhengpinmaaGreatDoorNT
import Derived.Test.YtjnnhhengpinmaaGreatDoorMB
import Derived.Test.YtjnnhhengpinmaaGreatDoorNL
import Derived.Test.YtjnnhhengpinmaaGreatDoorNE
import Derived.Test.YtjnnhhengpinmaaGreatDoorNM
namespace Go.Proofs.YtjnnhhengpinmaaGreatDoor
section
open Go

section
variable {P : Program} {ops : Array Oper} {Q : Exit → Act → World → Prop} {md : Region.Mode} {S : World → Prop} {X : Nat → Bool} {fuel : Nat} {listed : Array Bool} {a : Act} {w : World}
/-- one of two operations comes up: either is carried out -/
theorem u_two (i j : Nat) {oi oj : Oper} (hr : Region.ready md ops listed = [i, j]) (hi : ops[i]? = some oi) (hj : ops[j]? = some oj) (hwi : Region.wanted oi (yielded ops a.tmps) = true) (hwj : Region.wanted oj (yielded ops a.tmps) = true)
    (h1 : pUpon P Q a (fun v w' => (X i = false → S w') ∧ wpAnyU P md ops Q S X fuel (listed.setIfInBounds i true) (a.put oi.dst v) w') ((execOp a.eval oi).run P w))
    (h2 : pUpon P Q a (fun v w' => (X j = false → S w') ∧ wpAnyU P md ops Q S X fuel (listed.setIfInBounds j true) (a.put oj.dst v) w') ((execOp a.eval oj).run P w)) : wpAnyU P md ops Q S X (fuel + 1) listed a w := by
  refine ⟨fun h0 => (by rw [hr] at h0; cases h0), fun k hk => ?_⟩
  rw [hr] at hk
  rcases List.mem_cons.1 hk with rfl | hk
  · unfold wpOp
    simp only [hi, hwi, if_true]
    refine .inl ?_
    unfold Oper.wp
    generalize (execOp a.eval oi).run P w = r at h1 ⊢
    cases r with
    | halt x w' => simp only [pUpon] at h1
    | ok nx w' =>
      cases nx <;> simp only [pUpon] at h1 <;> simp only [Oper.upon]
      case value u => exact h1
      case skip => exact h1
      case enter f args =>
        refine h1.mono fun e w'' he => ?_
        rcases he with ⟨v, rfl, hc⟩ | ⟨c, rfl, hc⟩
        · exact hc
        · exact hc
  · obtain rfl := List.mem_singleton.1 hk
    unfold wpOp
    simp only [hj, hwj, if_true]
    refine .inl ?_
    unfold Oper.wp
    generalize (execOp a.eval oj).run P w = r at h2 ⊢
    cases r with
    | halt x w' => simp only [pUpon] at h2
    | ok nx w' =>
      cases nx <;> simp only [pUpon] at h2 <;> simp only [Oper.upon]
      case value u => exact h2
      case skip => exact h2
      case enter f args =>
        refine h2.mono fun e w'' he => ?_
        rcases he with ⟨v, rfl, hc⟩ | ⟨c, rfl, hc⟩
        · exact hc
        · exact hc
end
end
section
open Go Go.RowKit Go.Shelf
attribute [local go_sem] gAt gUpon
attribute [local simp] Gr.refl Gr.alloc

theorem wayR_size (s : ByteArray) : ∀ (r : List ByteArray) (n i : Nat), (wayR s r n i).2.size = 32 := by
  intro r
  cases r with
  | nil => intro n i; exact leafD_size _
  | cons x r => intro n i; rw [wayR]; split; · exact leafD_size _
                split <;> exact nodeD_size _ _
theorem wayR_len (s : ByteArray) : ∀ (r : List ByteArray) (n i : Nat), 0 < (wayR s r n i).1.length ∧ (wayR s r n i).1.length ≤ r.length + 1 := by
  intro r
  induction r with
  | nil => intro n i; simp [wayR]
  | cons x r ih =>
    intro n i
    rw [wayR]
    split
    · simp
    · split <;> simp <;> exact (ih _ _).2
set_option maxRecDepth 100000 in
set_option maxHeartbeats 4000000 in
theorem way_one (s : ByteArray) (hs : s.size ≤ 1000) (P : List ByteArray) (N I : Nat) (v : Value) (w : World) (hv : StrsAt v P w) (h : N ≤ 1 ∨ P.length = 0) (hW : wayR s P.reverse N I = ([cat 0 [s]], leafD s)) :
    Calls Tryz.prog 74 #[.int .i64 (N : Int), .int .i64 (I : Int), .string s, v] w fun e w' => ∃ u, e = .returned (.tuple #[u, .string (wayR s P.reverse N I).2]) ∧ OwnL w.heap.size (wayR s P.reverse N I).1.reverse u w' ∧ Gr w w' := by
  obtain ⟨p, c, rfl⟩ := hv.shape
  obtain ⟨X0, hX0⟩ : ∃ z, (⟨#[0]⟩ : ByteArray) ++ s = z := ⟨_, rfl⟩
  by_cases h1 : N ≤ 1
  · have ht1 : decide (N ≤ 1) = true := decide_eq_true h1
    have ht1' : decide ((N : Int) ≤ 1) = true := decide_eq_true (by omega)
    clear h
    have hadd : ∀ w1, (Op.stringOp .add (⟨#[0]⟩ : ByteArray) s).run Tryz.prog w1 = .ok (.string X0) w1 := fun w1 => by
      rw [run_string_add_sum, hX0]; rw [show (⟨#[0]⟩ : ByteArray).size = 1 from rfl]; omega
    have HLe := Lib.hid (fun (y : World) => leafR_any s y (by omega))
    have HW1 : Hid (wayR s P.reverse N I = ([X0], leafD s)) := Lib.hid (by rw [hW, ← hX0, cat_add1r])
    obtain ⟨LD, hLD⟩ : ∃ z, leafD s = z := ⟨_, rfl⟩
    rw [hLD] at HLe HW1
    have HO := Lib.hid (strs_new w [X0] (by rw [List.length_singleton]; unfold maxLen; omega))
    clear hW hX0 hLD
    go_enter Tryz.func74, Tryz.ntmps74
    go_wp2_with fail
    refine (HLe.out _).mono ?_
    rintro e w6 ⟨rfl, hg6⟩
    have HG6 := Lib.hid ((Gr.alloc w _).trans hg6)
    have HO6 := Lib.hid (HO.out.gr hg6)
    clear hg6 HO hadd HLe
    go_wp2_with fail
    go_ret2
    exact ⟨_, by rw [HW1.out]; rfl, by rw [HW1.out]; exact HO6.out, HG6.out⟩
  · have ht1 : decide (N ≤ 1) = false := decide_eq_false h1
    have ht1' : decide ((N : Int) ≤ 1) = false := decide_eq_false (by omega)
    have h0 : P.length = 0 := h.resolve_left h1
    have ht0 : ((P.length : Int) == 0) = true := by rw [h0]; rfl
    clear h h0
    have hadd : ∀ w1, (Op.stringOp .add (⟨#[0]⟩ : ByteArray) s).run Tryz.prog w1 = .ok (.string X0) w1 := fun w1 => by
      rw [run_string_add_sum, hX0]; rw [show (⟨#[0]⟩ : ByteArray).size = 1 from rfl]; omega
    have HLe := Lib.hid (fun (y : World) => leafR_any s y (by omega))
    have HW1 : Hid (wayR s P.reverse N I = ([X0], leafD s)) := Lib.hid (by rw [hW, ← hX0, cat_add1r])
    obtain ⟨LD, hLD⟩ : ∃ z, leafD s = z := ⟨_, rfl⟩
    rw [hLD] at HLe HW1
    have HO := Lib.hid (strs_new w [X0] (by rw [List.length_singleton]; unfold maxLen; omega))
    clear hW hX0 hLD
    go_enter Tryz.func74, Tryz.ntmps74
    go_wp2_with fail
    refine (HLe.out _).mono ?_
    rintro e w6 ⟨rfl, hg6⟩
    have HG6 := Lib.hid ((Gr.alloc w _).trans hg6)
    have HO6 := Lib.hid (HO.out.gr hg6)
    clear hg6 HO hadd HLe
    go_wp2_with fail
    go_ret2
    exact ⟨_, by rw [HW1.out]; rfl, by rw [HW1.out]; exact HO6.out, HG6.out⟩
set_option maxRecDepth 100000 in
set_option maxHeartbeats 4000000 in
theorem way_any (s : ByteArray) (hs : s.size ≤ 1000) : ∀ (n : Nat) (P : List ByteArray) (N I : Nat) (v : Value) (w : World), P.length = n → n ≤ 1000 → StrsAt v P w → (∀ x ∈ P, x.size = 32) → I < N → N ≤ 9223372036854775807 →
    Calls Tryz.prog 74 #[.int .i64 (N : Int), .int .i64 (I : Int), .string s, v] w fun e w' => ∃ u, e = .returned (.tuple #[u, .string (wayR s P.reverse N I).2]) ∧ OwnL w.heap.size (wayR s P.reverse N I).1.reverse u w' ∧ Gr w w' := by
  intro n
  induction n with
  | zero =>
    intro P N I v w hPn hn hv hPs hIN hN
    have hP : P = [] := List.eq_nil_of_length_eq_zero hPn
    exact way_one s hs P N I v w hv (.inr hPn) (by rw [hP]; rfl)
  | succ n ih =>
    intro P N I v w hPn hn hv hPs hIN hN
    by_cases h1 : N ≤ 1
    · refine way_one s hs P N I v w hv (.inl h1) ?_
      cases hr : P.reverse with
      | nil => rfl
      | cons y r => rw [wayR, if_pos h1]
    obtain ⟨Q, x, rfl⟩ : ∃ Q x, P = Q ++ [x] := by
      rcases snoc_cases P with rfl | h
      · simp at hPn
      · exact h
    obtain ⟨g, off, c4, rfl, hcap, hcm, hc⟩ := hv.shape_snoc
    have hQn : Q.length = n := by simpa using hPn
    have hcx : w.cell? ⟨g, off + n, none⟩ = some (.string x) := hc _ _ (by rw [← hQn]; simp)
    have HSQ : Hid (StrsAt (.slice (some ⟨g, off, none⟩) n c4) Q w) := Lib.hid (.inr ⟨g, off, c4, by rw [hQn], by omega, hcm, fun j y hj => hc j y (by rw [List.getElem?_append_left (List.getElem?_eq_some_iff.1 hj).1]; exact hj)⟩)
    have HPQ : Hid (∀ y ∈ Q, y.size = 32) := Lib.hid (fun y hy => hPs y (by simp [hy]))
    have hxs : x.size = 32 := hPs x (by simp)
    have ht1 : decide (N ≤ 1) = false := decide_eq_false h1
    have ht1' : decide ((N : Int) ≤ 1) = false := decide_eq_false (by omega)
    have HLf0 := fun w => refLeft_any N (by omega) hN w
    have hK1 := (lp_spec N (by omega)).1
    have hK0 := lp_pos N
    have hWl : I < lp N → wayR s (Q ++ [x]).reverse N I = (cat 1 [(wayR s Q.reverse (lp N) I).2, x] :: (wayR s Q.reverse (lp N) I).1, nodeD (wayR s Q.reverse (lp N) I).2 x) := fun h => by
      rw [List.reverse_append, List.reverse_singleton, List.singleton_append]; exact wayR_low s x _ (by omega) h
    have hWh : ¬ I < lp N → wayR s (Q ++ [x]).reverse N I = (cat 1 [x, (wayR s Q.reverse (N - lp N) (I - lp N)).2] :: (wayR s Q.reverse (N - lp N) (I - lp N)).1, nodeD x (wayR s Q.reverse (N - lp N) (I - lp N)).2) := fun h => by
      rw [List.reverse_append, List.reverse_singleton, List.singleton_append]; exact wayR_high s x _ (by omega) h
    rw [hQn] at hcap ⊢
    generalize lp N = K at HLf0 hK1 hK0 hWl hWh
    have HLf := Lib.hid HLf0
    have HWl := Lib.hid hWl
    have HWh := Lib.hid hWh
    have HQn := Lib.hid hQn
    have Hih := Lib.hid ih
    have ht0 : ((n : Int) + 1 == 0) = false := by rw [beq_eq_false_iff_ne]; omega
    clear HLf0 hWl hWh hQn ih hc hv hPs hPn
    by_cases hIK : I < K
    · have ht2 : decide (I < K) = true := decide_eq_true hIK
      have ht2' : decide ((I : Int) < (K : Int)) = true := decide_eq_true (by omega)
      have hrec := Hih.out Q K I (.slice (some ⟨g, off, none⟩) n c4) w HQn.out (by omega) HSQ.out HPQ.out hIK (by omega)
      have hWs := wayR_size s Q.reverse K I
      have hWn := wayR_len s Q.reverse K I
      have hW := HWl.out hIK
      rw [List.length_reverse, HQn.out] at hWn
      obtain ⟨R, hR⟩ : ∃ R, wayR s Q.reverse K I = R := ⟨_, rfl⟩
      rw [hR] at hrec hWs hWn hW
      obtain ⟨L0, VV⟩ := R
      dsimp only at hrec hWs hWn hW
      obtain ⟨LL, hLL⟩ : ∃ z, L0.reverse = z := ⟨_, rfl⟩
      have hLn : LL.length ≤ n + 1 := by rw [← hLL, List.length_reverse]; exact hWn.2
      rw [hLL] at hrec
      obtain ⟨X1, hX1⟩ : ∃ z, (⟨#[1]⟩ : ByteArray) ++ VV = z := ⟨_, rfl⟩
      obtain ⟨X2, hX2⟩ : ∃ z, X1 ++ x = z := ⟨_, rfl⟩
      obtain ⟨ND, hND⟩ : ∃ z, nodeD VV x = z := ⟨_, rfl⟩
      have hX1s : X1.size ≤ 1001 := by rw [← hX1, ByteArray.size_append]; have : (⟨#[1]⟩ : ByteArray).size = 1 := rfl; omega
      have hadd1 : ∀ w1, (Op.stringOp .add (⟨#[1]⟩ : ByteArray) VV).run Tryz.prog w1 = .ok (.string X1) w1 := fun w1 => by
        rw [run_string_add_sum, hX1]; rw [show (⟨#[1]⟩ : ByteArray).size = 1 from rfl]; omega
      have hadd2 : ∀ w1, (Op.stringOp .add X1 x).run Tryz.prog w1 = .ok (.string X2) w1 := fun w1 => by
        rw [run_string_add_sum, hX2]; omega
      have HNd := Lib.hid (fun (y : World) => nodeR_any VV x y (by omega))
      rw [hND] at HNd
      have HWr : Hid (wayR s (Q ++ [x]).reverse N I = (X2 :: L0, ND)) := Lib.hid (by rw [hW, hND, ← hX2, ← hX1, cat_add2r])
      have HLL := Lib.hid hLL
      have Hrec := Lib.hid hrec
      clear hrec hR Hih HWl HWh HSQ HPQ hW hWs hWn hLL hX1 hX2 hND
      go_enter Tryz.func74, Tryz.ntmps74
      go_wp2_with fail
      refine (HLf.out _).mono ?_
      rintro e wl ⟨rfl, rfl⟩
      clear hcx
      go_wp2_with fail
      refine Hrec.out.mono ?_
      rintro e w4 ⟨u, rfl, ho4, hg4⟩
      obtain ⟨pu, cu, rfl⟩ := ho4.strs.shape
      have HO4 := Lib.hid ho4
      have HG4 := Lib.hid hg4
      clear ho4 hg4 Hrec
      go_wp2_with ((with_reducible show wpList _ _ _ (⟨some 59, _, _, _, _, _⟩ :: _) _ _); refine append_strs (L := LL) (M := [X2]) rfl (.tmp 53) (.tmp 58) rfl rfl (HO4.out.gr (Gr.alloc _ _)) rfl (strs_new w4 [X2] (by rw [List.length_singleton]; unfold maxLen; omega)).strs ?b1A (HG4.out.trans (Gr.alloc _ _)).size ?_)
      case b1A => rw [List.length_singleton]; omega
      intro v5 w5 hown hchg
      have hg5 : Gr w w5 := gr_step (HG4.out.trans (Gr.alloc _ _)) (Gr.refl _) hchg (fun g hg => Own.ge HO4.out hg)
      obtain ⟨p5, c5, rfl⟩ := hown.strs.shape
      obtain ⟨n5, hn5⟩ : ∃ z, (LL ++ [X2]).length = z := ⟨_, rfl⟩
      rw [hn5] at hown ⊢
      have HO5 := Lib.hid hown
      have HG5 := Lib.hid hg5
      clear hown hchg hg5 hadd1 hadd2 HO4 HG4 hn5
      go_wp2_with fail
      refine (HNd.out w5).mono ?_
      rintro e w6 ⟨rfl, hg6⟩
      have HG6 := Lib.hid (HG5.out.trans hg6)
      have HO6 := Lib.hid (HO5.out.gr hg6)
      clear hg6 HNd HG5 HO5
      go_wp2_with fail
      go_ret2
      exact ⟨_, by rw [HWr.out]; rfl, by rw [HWr.out, List.reverse_cons, HLL.out]; exact HO6.out, HG6.out⟩
    · have ht2 : decide (I < K) = false := decide_eq_false hIK
      have ht2' : decide ((I : Int) < (K : Int)) = false := decide_eq_false (by omega)
      have hrec := Hih.out Q (N - K) (I - K) (.slice (some ⟨g, off, none⟩) n c4) w HQn.out (by omega) HSQ.out HPQ.out (by omega) (by omega)
      rw [show ((N - K : Nat) : Int) = (N : Int) - (K : Int) by omega, show ((I - K : Nat) : Int) = (I : Int) - (K : Int) by omega] at hrec
      have hWs := wayR_size s Q.reverse (N - K) (I - K)
      have hWn := wayR_len s Q.reverse (N - K) (I - K)
      have hW := HWh.out hIK
      rw [List.length_reverse, HQn.out] at hWn
      obtain ⟨R, hR⟩ : ∃ R, wayR s Q.reverse (N - K) (I - K) = R := ⟨_, rfl⟩
      rw [hR] at hrec hWs hWn hW
      obtain ⟨L0, VV⟩ := R
      dsimp only at hrec hWs hWn hW
      obtain ⟨LL, hLL⟩ : ∃ z, L0.reverse = z := ⟨_, rfl⟩
      have hLn : LL.length ≤ n + 1 := by rw [← hLL, List.length_reverse]; exact hWn.2
      rw [hLL] at hrec
      obtain ⟨X1, hX1⟩ : ∃ z, (⟨#[1]⟩ : ByteArray) ++ x = z := ⟨_, rfl⟩
      obtain ⟨X2, hX2⟩ : ∃ z, X1 ++ VV = z := ⟨_, rfl⟩
      obtain ⟨ND, hND⟩ : ∃ z, nodeD x VV = z := ⟨_, rfl⟩
      have hX1s : X1.size ≤ 1001 := by rw [← hX1, ByteArray.size_append]; have : (⟨#[1]⟩ : ByteArray).size = 1 := rfl; omega
      have hadd1 : ∀ w1, (Op.stringOp .add (⟨#[1]⟩ : ByteArray) x).run Tryz.prog w1 = .ok (.string X1) w1 := fun w1 => by
        rw [run_string_add_sum, hX1]; rw [show (⟨#[1]⟩ : ByteArray).size = 1 from rfl]; omega
      have hadd2 : ∀ w1, (Op.stringOp .add X1 VV).run Tryz.prog w1 = .ok (.string X2) w1 := fun w1 => by
        rw [run_string_add_sum, hX2]; omega
      have HNd := Lib.hid (fun (y : World) => nodeR_any x VV y (by omega))
      rw [hND] at HNd
      have HWr : Hid (wayR s (Q ++ [x]).reverse N I = (X2 :: L0, ND)) := Lib.hid (by rw [hW, hND, ← hX2, ← hX1, cat_add2r])
      have HLL := Lib.hid hLL
      have Hrec := Lib.hid hrec
      clear hrec hR Hih HWl HWh HSQ HPQ hW hWs hWn hLL hX1 hX2 hND
      go_enter Tryz.func74, Tryz.ntmps74
      go_wp2_with fail
      refine (HLf.out _).mono ?_
      rintro e wl ⟨rfl, rfl⟩
      clear hcx
      go_wp2_with fail
      refine Hrec.out.mono ?_
      rintro e w4 ⟨u, rfl, ho4, hg4⟩
      obtain ⟨pu, cu, rfl⟩ := ho4.strs.shape
      have HO4 := Lib.hid ho4
      have HG4 := Lib.hid hg4
      clear ho4 hg4 Hrec
      go_wp2_with ((with_reducible show wpList _ _ _ (⟨some 81, _, _, _, _, _⟩ :: _) _ _); refine append_strs (L := LL) (M := [X2]) rfl (.tmp 75) (.tmp 80) rfl rfl (HO4.out.gr (Gr.alloc _ _)) rfl (strs_new w4 [X2] (by rw [List.length_singleton]; unfold maxLen; omega)).strs ?b1A (HG4.out.trans (Gr.alloc _ _)).size ?_)
      case b1A => rw [List.length_singleton]; omega
      intro v5 w5 hown hchg
      have hg5 : Gr w w5 := gr_step (HG4.out.trans (Gr.alloc _ _)) (Gr.refl _) hchg (fun g hg => Own.ge HO4.out hg)
      obtain ⟨p5, c5, rfl⟩ := hown.strs.shape
      obtain ⟨n5, hn5⟩ : ∃ z, (LL ++ [X2]).length = z := ⟨_, rfl⟩
      rw [hn5] at hown ⊢
      have HO5 := Lib.hid hown
      have HG5 := Lib.hid hg5
      clear hown hchg hg5 hadd1 hadd2 HO4 HG4 hn5
      go_wp2_with fail
      refine (HNd.out w5).mono ?_
      rintro e w6 ⟨rfl, hg6⟩
      have HG6 := Lib.hid (HG5.out.trans hg6)
      have HO6 := Lib.hid (HO5.out.gr hg6)
      clear hg6 HNd HG5 HO5
      go_wp2_with fail
      go_ret2
      exact ⟨_, by rw [HWr.out]; rfl, by rw [HWr.out, List.reverse_cons, HLL.out]; exact HO6.out, HG6.out⟩
end
section
open Go Go.RowKit Go.Shelf

theorem coll_no : ∀ (A B : List ByteArray), collD A B = true → NoHit A B → False := by
  intro A
  induction A with
  | nil => intro B h _; rw [collD] at h; cases h; intro a l b m h; cases h
  | cons a A ih =>
    intro B h hn
    cases B with
    | nil => rw [collD] at h; cases h; intro a l b m _ h; cases h
    | cons b B =>
      rw [collD, Bool.or_eq_true] at h
      rcases h with h | h
      · simp only [Bool.and_eq_true, decide_eq_true_eq] at h
        exact h.1 (hn a (List.mem_cons_self ..) b (List.mem_cons_self ..) h.2)
      · exact ih B h (hn.sub (fun x hx => List.mem_cons_of_mem _ hx) (fun x hx => List.mem_cons_of_mem _ hx))
/-- the strings that are hashed for a claim -/
def hashB (id ver n i : Int) (x : En) (q : List ByteArray) : List ByteArray :=
  if q.length = 0 then [] else (wayR (lineD x) (q.drop 1).reverse n.toNat i.toNat).1.reverse ++ [cat 0 [hdB id ver n], cat 1 [leafD (hdB id ver n), q.getD 0 ⟨#[]⟩]]
/-- what an accepted claim says -/
structure VerF (r : ByteArray) (id ver n i : Int) (x : En) (q : List ByteArray) : Prop where
  hd : headB id ver n = true
  en : entB x = true
  ne : q.length ≠ 0
  rt : r = boundD id ver n (q.getD 0 ⟨#[]⟩)
  lo : 0 ≤ i
  hi : i < n
  al : ∀ y ∈ q.drop 1, y.size = 32
  vl : valR (lineD x) (q.drop 1).reverse n.toNat i.toNat = some (q.getD 0 ⟨#[]⟩)
theorem ver_facts {r : ByteArray} {id ver n i : Int} {x : En} {q : List ByteArray} (h : verM r id ver n i x q = true) : VerF r id ver n i x q := by
  unfold verM verD at h
  simp only [Bool.and_eq_true, decide_eq_true_eq] at h
  obtain ⟨h1, h2, h3, h4, ⟨⟨h5, h6⟩, h7⟩, h8⟩ := h
  exact ⟨h1, h2, h3, h4, h5, h6, allD_iff.1 h7, h8⟩
theorem VerF.all {r : ByteArray} {id ver n i : Int} {x : En} {q : List ByteArray} (h : VerF r id ver n i x q) : ∀ y ∈ q, y.size = 32 := by
  intro y hy
  cases q with
  | nil => cases hy
  | cons z q =>
    rcases List.mem_cons.1 hy with rfl | hy
    · exact valR_size h.vl
    · exact h.al y hy
theorem binding_law {r : ByteArray} {ia va ib vb n i : Int} {x y : En} {q s : List ByteArray} (h1 : verM r ia va n i x q = true) (h2 : verM r ib vb n i y s = true) (hn : hitD (hashB ia va n i x q) (hashB ib vb n i y s) = false) : ia = ib ∧ va = vb ∧ x = y := by
  have f1 := ver_facts h1
  have f2 := ver_facts h2
  have hN := noHit_of hn
  unfold hashB at hN
  rw [if_neg f1.ne, if_neg f2.ne] at hN
  have he := f1.rt.symm.trans f2.rt
  have hc := hN (cat 1 [leafD (hdB ia va n), q.getD 0 ⟨#[]⟩]) (List.mem_append_right _ (by simp)) (cat 1 [leafD (hdB ib vb n), s.getD 0 ⟨#[]⟩]) (List.mem_append_right _ (by simp)) he
  obtain ⟨e1, e2⟩ := cat2_inj hc (by rw [leafD_size, leafD_size])
  have hd := hN (cat 0 [hdB ia va n]) (List.mem_append_right _ (by simp)) (cat 0 [hdB ib vb n]) (List.mem_append_right _ (by simp)) e1
  obtain ⟨i1, i2, -⟩ := head_inj (head_ok f1.hd) (head_ok f2.hd) (cat1_inj hd)
  refine ⟨i1, i2, ?_⟩
  apply Classical.byContradiction
  intro hxy
  have hll : lineD x ≠ lineD y := fun e => hxy (line_inj (ent_line f1.en) (ent_line f2.en) e)
  have hv2 := f2.vl
  rw [← e2] at hv2
  have hlo := f1.lo
  have hhi := f1.hi
  have hcd := binding hll (r := (q.drop 1).reverse) (q := (s.drop 1).reverse) (n := n.toNat) (i := i.toNat) (by omega) (fun z hz => f1.al z (List.mem_reverse.1 hz)) (fun z hz => f2.al z (List.mem_reverse.1 hz)) f1.vl hv2
  exact coll_no _ _ hcd (hN.sub (fun z hz => List.mem_append_left _ (List.mem_reverse.2 hz)) (fun z hz => List.mem_append_left _ (List.mem_reverse.2 hz)))
theorem wayR_sizes (s : ByteArray) (hs : s.size ≤ 1000) : ∀ (r : List ByteArray) (n i : Nat), (∀ x ∈ r, x.size = 32) → ∀ y ∈ (wayR s r n i).1, y.size ≤ 1001 := by
  intro r
  induction r with
  | nil =>
    intro n i _ y hy
    rw [wayR] at hy
    obtain rfl := List.mem_singleton.1 hy
    rw [cat_size1]; omega
  | cons x r ih =>
    intro n i hr y hy
    have hx := hr x (List.mem_cons_self ..)
    have hr' := fun z hz => hr z (List.mem_cons_of_mem x hz)
    rw [wayR] at hy
    split at hy
    · obtain rfl := List.mem_singleton.1 hy
      rw [cat_size1]; omega
    · split at hy
      · rcases List.mem_cons.1 hy with rfl | hy
        · rw [cat_size2, wayR_size]; omega
        · exact ih _ _ hr' y hy
      · rcases List.mem_cons.1 hy with rfl | hy
        · rw [cat_size2, wayR_size]; omega
        · exact ih _ _ hr' y hy
theorem hashB_sizes {r : ByteArray} {id ver n i : Int} {x : En} {q : List ByteArray} (h : VerF r id ver n i x q) (hq : q.length ≤ 1000) : (hashB id ver n i x q).length ≤ 100000 ∧ ∀ y ∈ hashB id ver n i x q, y.size ≤ 1000000 := by
  unfold hashB
  rw [if_neg h.ne]
  refine ⟨?_, fun y hy => ?_⟩
  · have := (wayR_len (lineD x) (q.drop 1).reverse n.toNat i.toNat).2
    rw [List.length_reverse, List.length_drop] at this
    rw [List.length_append, List.length_reverse]
    simp only [List.length_cons, List.length_nil]
    omega
  · rcases List.mem_append.1 hy with hy | hy
    · have := wayR_sizes (lineD x) (line_small h.en) _ _ _ (fun z hz => h.al z (List.mem_reverse.1 hz)) y (List.mem_reverse.1 hy)
      omega
    · simp only [List.mem_cons, List.mem_nil_iff, or_false] at hy
      rcases hy with rfl | rfl
      · rw [cat_size1]
        have := hdB_size id ver n
        omega
      · rw [cat_size2, leafD_size, valR_size h.vl]; decide
end
section
open Go Go.RowKit Go.Shelf
attribute [local go_sem] gAt gUpon
attribute [local simp] Gr.refl Gr.alloc

/-- what way gives -/
def WyV (B : Nat) (L : List ByteArray) (z : ByteArray) (v : Value) (w : World) : Prop := ∃ p c, v = .tuple #[.slice p L.length c, .string z] ∧ OwnL B L (.slice p L.length c) w
theorem WyV.stb (B : Nat) (L : List ByteArray) (z : ByteArray) : Stb (WyV B L z) := fun _ _ _ hg ⟨p, c, h1, h2⟩ => ⟨p, c, h1, h2.gr hg⟩
set_option maxRecDepth 100000 in
set_option maxHeartbeats 2000000 in
theorem hashedB_any {r : ByteArray} {id ver n i : Int} {x : En} {q : List ByteArray} (hF : VerF r id ver n i x q) (v : Value) (w : World) (hv : StrsAt v q w) (hq : q.length ≤ 100) :
    Calls Tryz.prog 39 #[.int .i64 id, .int .i64 ver, .int .i64 n, .int .i64 i, .agg #[.string x.path, .int .i64 x.fmt, .int .i64 x.len, .string x.dig], v] w fun e w' => ∃ u, e = .returned u ∧ OwnL w.heap.size (hashB id ver n i x q) u w' ∧ Gr w w' := by
  obtain ⟨p, c, rfl⟩ := hv.shape
  obtain ⟨m, hm⟩ : ∃ m, q.length = m := ⟨_, rfl⟩
  have hm0 : 0 < m := by have := hF.ne; omega
  have hH := head_ok hF.hd
  have hLk := ent_line hF.en
  have hlo := hF.lo
  have hhi := hF.hi
  have h64 : 1 ≤ n ∧ n ≤ 64 := by
    have := hF.hd
    unfold headB at this
    simp only [Bool.and_eq_true, withinB_iff] at this
    omega
  obtain ⟨N, rfl⟩ : ∃ N : Nat, n = (N : Int) := ⟨n.toNat, by omega⟩
  obtain ⟨K, rfl⟩ : ∃ K : Nat, i = (K : Int) := ⟨i.toNat, by omega⟩
  have hKN : K < N := by omega
  have hhs := hdB_size id ver N
  have hss := line_small hF.en
  obtain ⟨g, off, hp, h1, h2, hcell, hcut⟩ : ∃ g off, p = some ⟨g, off, none⟩ ∧ m ≤ c ∧ c ≤ maxLen ∧ (∀ (j : Nat) y, q[j]? = some y → w.cell? ⟨g, off + j, none⟩ = some (.string y)) ∧ ∃ o1, StrsAt (.slice (some ⟨g, o1, none⟩) (m - 1) (c - 1)) (q.drop 1) w ∧ ((c = 1 ∧ o1 = off) ∨ (c ≠ 1 ∧ o1 = off + 1)) := by
    rcases hv with ⟨_, h0⟩ | ⟨g, off, cap, he, a1, a2, hc⟩
    · rw [h0] at hm; simp at hm; omega
    · injection he with e1 e2 e3
      subst e1 e3
      rw [hm] at a1
      refine ⟨g, off, rfl, a1, a2, hc, ?_⟩
      by_cases hck : c = 1
      · refine ⟨off, .inr ⟨g, off, c - 1, by rw [List.length_drop, hm], by rw [List.length_drop]; omega, by omega, fun j x hj => ?_⟩, .inl ⟨hck, rfl⟩⟩
        have := (List.getElem?_eq_some_iff.1 hj).1
        rw [List.length_drop] at this; omega
      · refine ⟨off + 1, .inr ⟨g, off + 1, c - 1, by rw [List.length_drop, hm], by rw [List.length_drop]; omega, by omega, fun j x hj => ?_⟩, .inr ⟨hck, rfl⟩⟩
        rw [List.getElem?_drop] at hj
        rw [Nat.add_assoc]; exact hc _ x hj
  subst hp
  obtain ⟨o1, hD, ho1⟩ := hcut
  obtain ⟨q0, hq0⟩ : ∃ z, q[0]? = some z := ⟨_, List.getElem?_eq_getElem (by omega)⟩
  have hc0 : w.cell? ⟨g, off, none⟩ = some (.string q0) := hcell 0 _ hq0
  have hg0 : q.getD 0 ⟨#[]⟩ = q0 := by rw [List.getD_eq_getElem?_getD, hq0]; rfl
  have hq32 : q0.size = 32 := hF.all q0 (List.mem_of_getElem? hq0)
  have HHd := Lib.hid (fun (y : World) => headR_any id ver (N : Int) hH y)
  have HLn := Lib.hid (fun (y : World) => lineR_any x hLk y)
  have HWy := Lib.hid (fun (y : World) (hg : Gr w y) => way_any (lineD x) hss (m - 1) (q.drop 1) N K _ y (by rw [List.length_drop, hm]) (by omega) (hD.gr hg) hF.al hKN (by omega))
  have hwl := wayR_len (lineD x) (q.drop 1).reverse N K
  have hR : hashB id ver (N : Int) (K : Int) x q = (wayR (lineD x) (q.drop 1).reverse N K).1.reverse ++ [cat 0 [hdB id ver N], cat 1 [leafD (hdB id ver N), q0]] := by
    unfold hashB
    rw [if_neg (by omega), hg0]; rfl
  rw [hR]
  have hdl : (q.drop 1).reverse.length = m - 1 := by rw [List.length_reverse, List.length_drop, hm]
  obtain ⟨WR, hWR⟩ : ∃ z, wayR (lineD x) (q.drop 1).reverse N K = z := ⟨_, rfl⟩
  rw [hWR] at HWy hwl ⊢
  rw [hdl] at hwl
  obtain ⟨WL, hWL⟩ : ∃ z, WR.1.reverse = z := ⟨_, rfl⟩
  obtain ⟨WZ, hWZ⟩ : ∃ z, WR.2 = z := ⟨_, rfl⟩
  have hWLn : WL.length ≤ 200 := by rw [← hWL, List.length_reverse]; omega
  rw [hWL, hWZ] at HWy
  rw [hWL]
  obtain ⟨LN, hLN⟩ : ∃ z, lineD x = z := ⟨_, rfl⟩
  rw [hLN] at HLn HWy
  obtain ⟨HD, hHD⟩ : ∃ z, hdB id ver N = z := ⟨_, rfl⟩
  rw [hHD] at HHd hhs ⊢
  have HLf := Lib.hid (fun (y : World) => leafR_any HD y (by omega))
  obtain ⟨LF, hLF⟩ : ∃ z, leafD HD = z := ⟨_, rfl⟩
  have hFs : LF.size = 32 := by rw [← hLF]; exact leafD_size _
  rw [hLF] at HLf ⊢
  obtain ⟨X0, hX0⟩ : ∃ z, (⟨#[0]⟩ : ByteArray) ++ HD = z := ⟨_, rfl⟩
  obtain ⟨X1, hX1⟩ : ∃ z, (⟨#[1]⟩ : ByteArray) ++ LF = z := ⟨_, rfl⟩
  obtain ⟨X2, hX2⟩ : ∃ z, X1 ++ q0 = z := ⟨_, rfl⟩
  rw [show cat 0 [HD] = X0 by rw [← hX0, cat_add1r], show cat 1 [LF, q0] = X2 by rw [← hX2, ← hX1, cat_add2r]]
  have hX1s : X1.size = 33 := by rw [← hX1, ByteArray.size_append, hFs]; rfl
  have hadd0 : ∀ w1, (Op.stringOp .add (⟨#[0]⟩ : ByteArray) HD).run Tryz.prog w1 = .ok (.string X0) w1 := fun w1 => by
    rw [run_string_add_sum, hX0]; rw [show (⟨#[0]⟩ : ByteArray).size = 1 from rfl]; omega
  have hadd1 : ∀ w1, (Op.stringOp .add (⟨#[1]⟩ : ByteArray) LF).run Tryz.prog w1 = .ok (.string X1) w1 := fun w1 => by
    rw [run_string_add_sum, hX1]; rw [show (⟨#[1]⟩ : ByteArray).size = 1 from rfl]; omega
  have hadd2 : ∀ w1, (Op.stringOp .add X1 q0).run Tryz.prog w1 = .ok (.string X2) w1 := fun w1 => by
    rw [run_string_add_sum, hX2]; omega
  have ht0 : ((m : Int) == 0) = false := by rw [beq_eq_false_iff_ne]; omega
  have HD0 := Lib.hid hc0
  have Ho1 := Lib.hid ho1
  obtain ⟨xp, xf, xl, xd⟩ := x
  simp only at HLn ⊢
  rw [hm]
  clear hX0 hX1 hX2 hLF hHD hLN hWL hWZ hWR hR hwl hdl hg0 hq0 hcell hD ho1 hc0 hF hH hLk hlo hhi hv hss
  obtain ⟨bb, hbb⟩ : ∃ b, w.heap.size = b := ⟨_, rfl⟩
  have hrow := heap_alloc_new w (.cells #[.string xp, .int .i64 xf, .int .i64 xl, .string xd] 28)
  rw [hbb] at hrow
  have HA := Lib.hid hrow
  have HGA := Lib.hid (Gr.alloc w (.cells #[.string xp, .int .i64 xf, .int .i64 xl, .string xd] 28))
  clear hrow
  go_enter Tryz.func39, Tryz.ntmps39
  go_upto_region 1 with fail
  clear hbb
  generalize w.alloc (.cells #[.string xp, .int .i64 xf, .int .i64 xl, .string xd] 28) = wa at HA HGA ⊢
  go_wp2_with fail
  refine (HHd.out _).mono ?_
  rintro e w1 ⟨rfl, hg1⟩
  have HG1 := Lib.hid (HGA.out.trans hg1)
  have HA1 := Lib.hid (hg1.block HA.out)
  clear hg1 HGA HA
  have S0 : ∀ q : GrS w1.drew, q.w.cell? ⟨bb, 0, none⟩ = some (.string xp) := fun q => q.h.cell (w := w1.drew) (row4 HA1.out).1
  have S1 : ∀ q : GrS w1.drew, q.w.cell? ⟨bb, 1, none⟩ = some (.int .i64 xf) := fun q => q.h.cell (w := w1.drew) (row4 HA1.out).2.1
  have S2 : ∀ q : GrS w1.drew, q.w.cell? ⟨bb, 2, none⟩ = some (.int .i64 xl) := fun q => q.h.cell (w := w1.drew) (row4 HA1.out).2.2.1
  have S3 : ∀ q : GrS w1.drew, q.w.cell? ⟨bb, 3, none⟩ = some (.string xd) := fun q => q.h.cell (w := w1.drew) (row4 HA1.out).2.2.2
  have i2 : (1 : Int) ≤ (m : Int) := by omega
  have i3 : (m : Int) ≤ (c : Int) := by omega
  go_upto_region 4 with fail
  refine region_grow 12 45 (by kernel_rfl) rfl (by kernel_rfl) rfl rfl ?_
  simp only [List.take_succ_cons, List.take_zero, List.drop_succ_cons, List.drop_zero]
  refine seg 3 rfl rfl rfl rfl ?_
  simp only [List.take_succ_cons, List.take_zero, List.drop_succ_cons, List.drop_zero]
  repeat (go_big_quiet_step (fail))
  refine wpQuiet_nil ?_
  intro _
  refine grow_det (v := .string LN) rfl rfl rfl rfl rfl ?_ ?_
  · intro w1 hG
    go_simp
    refine (HLn.out w1).mono ?_
    rintro e w' ⟨rfl, hb⟩
    exact ⟨rfl, hb⟩
  simp only [Act.put, List.setIfInBounds_toArray, List.set_cons_zero, List.set_cons_succ]
  refine seg 1 rfl rfl rfl rfl ?_
  simp only [List.take_succ_cons, List.take_zero, List.drop_succ_cons, List.drop_zero]
  repeat (go_big_quiet_step (fail))
  refine wpQuiet_nil ?_
  intro _
  refine grow_det (v := .slice (some ⟨g, o1, none⟩) (m - 1) (c - 1)) rfl rfl rfl rfl rfl ?_ ?_
  · intro w1 hG
    rcases Ho1.out with ⟨h1, h2⟩ | ⟨h1, h2⟩
    · rw [h2]
      go_simp
    · rw [h2]
      go_simp
  simp only [Act.put, List.setIfInBounds_toArray, List.set_cons_zero, List.set_cons_succ]
  refine grow_open (WyV w.heap.size WL WZ) rfl rfl rfl rfl (WyV.stb _ _ _) (fun w2 hG => ?_) ?_
  · go_simp
    refine (HWy.out w2 (HG1.out.trans ((Gr.drew _).trans hG))).mono ?_
    rintro e w' ⟨u, rfl, ho, hb⟩
    have ho := ho.mono (HG1.out.trans ((Gr.drew _).trans hG)).size
    obtain ⟨pu, cu, rfl⟩ := ho.strs.shape
    exact ⟨_, rfl, hb, pu, cu, rfl, ho⟩
  refine grow_open1 30 (WyV w.heap.size WL WZ) rfl rfl (by decide) rfl rfl rfl (by decide) rfl rfl (WyV.stb _ _ _) (fun w2 u hG hu => ?_) ?_
  · obtain ⟨pu, cu, rfl, hu⟩ := hu
    simp only [Act.put, List.setIfInBounds_toArray, List.set_cons_zero, List.set_cons_succ]
    go_simp
    exact ⟨pu, cu, rfl, hu⟩
  refine grow_open1 23 (OwnL w.heap.size WL) rfl rfl (by decide) rfl rfl rfl (by decide) rfl rfl (OwnL.stb _ _) (fun w2 u hG hu => ?_) ?_
  · obtain ⟨pu, cu, rfl, hu⟩ := hu
    simp only [Act.put, List.setIfInBounds_toArray, List.set_cons_zero, List.set_cons_succ]
    go_simp
    try exact hu
  refine grow_det1 23 (v := .string WZ) rfl (by decide) rfl rfl rfl (by decide) rfl rfl rfl (fun w2 u hG hu => ?_) ?_
  · obtain ⟨pu, cu, rfl, hu⟩ := hu
    simp only [Act.put, List.setIfInBounds_toArray, List.set_cons_zero, List.set_cons_succ]
    go_simp
  simp only [Act.put, List.setIfInBounds_toArray, List.set_cons_zero, List.set_cons_succ]
  refine grow_open1 31 (OwnL w.heap.size WL) rfl rfl (by decide) rfl rfl rfl (by decide) rfl rfl (OwnL.stb _ _) (fun w2 u hG hu => ?_) ?_
  · simp only [Act.put, List.setIfInBounds_toArray, List.set_cons_zero, List.set_cons_succ]
    go_simp
    try exact hu
  refine seg 1 rfl rfl rfl rfl ?_
  simp only [List.take_succ_cons, List.take_zero, List.drop_succ_cons, List.drop_zero]
  repeat (go_big_quiet_step (fail))
  refine wpQuiet_nil ?_
  intro _
  refine grow_pop rfl (by decide) rfl (fun u14 => ?_)
  refine grow_pop rfl (by decide) rfl (fun u31 => ?_)
  refine grow_pop rfl (by decide) rfl (fun u23 => ?_)
  refine grow_pop rfl (by decide) rfl (fun u30 => ?_)
  simp only [Act.put, List.setIfInBounds_toArray, List.set_cons_zero, List.set_cons_succ]
  refine grow_end0 rfl rfl (fun w2 hG _ _ _ h31 => ?_)
  obtain ⟨p9, c9, rfl⟩ := h31.strs.shape
  have HO2 := Lib.hid h31
  have HG2 := Lib.hid (HG1.out.trans ((Gr.drew w1).trans hG))
  clear h31 hG S0 S1 S2 S3 HG1 HA1 HWy HLn Ho1
  have C0 : ∀ q : GrS w2.drew, q.w.cell? ⟨g, off, none⟩ = some (.string q0) := fun q => q.h.cell (w := w2.drew) (HG2.out.cell HD0.out)
  go_upto_region 5 with fail
  refine region_grow 11 45 (by kernel_rfl) rfl (by kernel_rfl) rfl rfl ?_
  simp only [List.take_succ_cons, List.take_zero, List.drop_succ_cons, List.drop_zero]
  refine seg 4 rfl rfl rfl rfl ?_
  simp only [List.take_succ_cons, List.take_zero, List.drop_succ_cons, List.drop_zero]
  repeat (go_big_quiet_step (fail))
  refine wpQuiet_nil ?_
  intro _
  refine grow_det (v := .string LF) rfl rfl rfl rfl rfl ?_ ?_
  · intro w1 hG
    go_simp
    refine (HLf.out w1).mono ?_
    rintro e w' ⟨rfl, hb⟩
    exact ⟨rfl, hb⟩
  simp only [Act.put, List.setIfInBounds_toArray, List.set_cons_zero, List.set_cons_succ]
  refine seg 5 rfl rfl rfl rfl ?_
  simp only [List.take_succ_cons, List.take_zero, List.drop_succ_cons, List.drop_zero]
  repeat (go_big_quiet_step (fail))
  refine wpQuiet_nil ?_
  intro _
  refine grow_open (OwnL w2.drew.heap.size [X0, X2]) rfl rfl rfl rfl (OwnL.stb _ _) (fun w3 hG => ?_) ?_
  · go_simp
    exact OwnL.mono (strs_new w3 [X0, X2] (by simp [maxLen])) hG.size
  refine grow_pop rfl (by decide) rfl (fun u43 => ?_)
  simp only [Act.put, List.setIfInBounds_toArray, List.set_cons_zero, List.set_cons_succ]
  refine grow_end0 rfl rfl (fun w3 hG h43 => ?_)
  have hg3 := (Gr.drew w2).trans hG
  refine append_strs (L := WL) (M := [X0, X2]) rfl (.tmp 33) (.tmp 43) rfl rfl (HO2.out.gr hg3) rfl h43.strs (by simp; omega) (HG2.out.trans hg3).size ?_
  intro v9 w9 hown hchg
  have HG9 := Lib.hid (gr_step (HG2.out.trans hg3) (Gr.refl _) hchg (fun g hg => Own.ge HO2.out hg))
  have HO9 := Lib.hid hown
  clear hown hchg hg3 hG h43 C0 HG2 HO2
  go_wp2_with fail
  go_ret
  exact ⟨_, rfl, HO9.out, HG9.out⟩
end
section
open Go Go.RowKit Go.Shelf

/-- a claim that came in -/
structure ClIn (I J : Int) (x : En) (v : Value) (L : List ByteArray) (w : World) : Prop where
  i : I64 I
  j : I64 J
  e : EnIn x
  s : Rws 1 strC v L w
  n : L.length ≤ 9223372036854775807
  z : ∀ y ∈ L, y.size ≤ 9223372036854775807
theorem ClIn.gr {I J : Int} {x : En} {v : Value} {L : List ByteArray} {w y : World} (h : ClIn I J x v L w) (hg : Gr w y) : ClIn I J x v L y := ⟨h.i, h.j, h.e, h.s.gr hg, h.n, h.z⟩
/-- a claim's cells -/
def clV (I J : Int) (x : En) (v : Value) : List Value := [.int .i64 I, .int .i64 J, .string x.path, .int .i64 x.fmt, .int .i64 x.len, .string x.dig, v]
def ClAt (g : Nat) (I J : Int) (x : En) (v : Value) (w : World) : Prop := w.heap[g]? = some (.cells (clV I J x v).toArray 59 (0, 0))
theorem ClAt.gr {g : Nat} {I J : Int} {x : En} {v : Value} {w y : World} (h : ClAt g I J x v w) (hg : Gr w y) : ClAt g I J x v y := hg.block h
theorem ClAt.cells {g : Nat} {I J : Int} {x : En} {v : Value} {w : World} (h : ClAt g I J x v w) : w.cell? ⟨g, 0, none⟩ = some (.int .i64 I) ∧ w.cell? ⟨g, 1, none⟩ = some (.int .i64 J) ∧ w.cell? ⟨g, 2, none⟩ = some (.string x.path) ∧ w.cell? ⟨g, 3, none⟩ = some (.int .i64 x.fmt) ∧
    w.cell? ⟨g, 4, none⟩ = some (.int .i64 x.len) ∧ w.cell? ⟨g, 5, none⟩ = some (.string x.dig) ∧ w.cell? ⟨g, 6, none⟩ = some v := by
  have hc := row_at (cs := clV I J x v) h
  exact ⟨hc 0 _ rfl, hc 1 _ rfl, hc 2 _ rfl, hc 3 _ rfl, hc 4 _ rfl, hc 5 _ rfl, hc 6 _ rfl⟩
theorem ClAt.there {g : Nat} {I J : Int} {x : En} {v : Value} {w : World} (h : ClAt g I J x v w) : w.there g 2 4 := by
  obtain ⟨-, -, c2, c3, c4, c5, -⟩ := h.cells
  intro j hj
  refine ⟨?_, frozen_of_row _ _ _ _ _ h⟩
  match j, hj with
  | 0, _ => rw [c2]; rfl
  | 1, _ => rw [c3]; rfl
  | 2, _ => rw [c4]; rfl
  | 3, _ => rw [c5]; rfl
theorem ClAt.setE {g : Nat} {I J : Int} {x o : En} {v : Value} {w : World} (h : ClAt g I J x v w) : ClAt g I J o v (w.setCells g 2 (enC o)) := by
  have h0 := heap_setCell_same w g 2 _ _ (.string o.path) h
  have h1 := heap_setCell_same _ g 3 _ _ (.int .i64 o.fmt) h0
  have h2 := heap_setCell_same _ g 4 _ _ (.int .i64 o.len) h1
  exact heap_setCell_same _ g 5 _ _ (.string o.dig) h2
theorem ClAt.setP {g : Nat} {I J : Int} {x : En} {v u : Value} {w : World} (h : ClAt g I J x v w) : ClAt g I J x u (w.setCell ⟨g, 6, none⟩ u) := heap_setCell_same w g 6 _ _ u h
theorem ClAt.keep {g b : Nat} {I J : Int} {x : En} {v : Value} {w y : World} (h : ClAt g I J x v w) (hc : Chg (some b) w y) (hb : g ≠ b) : ClAt g I J x v y := hc.block h (by simpa using hb)
theorem ClAt.free {g : Nat} {I J : Int} {x : En} {v : Value} {w : World} (h : ClAt g I J x v w) (k : Nat) : w.frozen? ⟨g, k, none⟩ = false := frozen_of_row _ _ _ _ _ h
theorem row_cellP {w : World} {b k : Nat} {cs : Array Value} {t : TypeId} {fr : Nat × Nat} {v : Value} (h : w.heap[b]? = some (.cells cs t fr)) (hc : w.cell? ⟨b, k, none⟩ = some v) : cs[k]? = some v := by
  simp [World.cell?, h] at hc
  exact hc
/-- a block that holds an empty entry is not the one of a list of digests -/
theorem ent_apart {B m bn c : Nat} {L : List ByteArray} {p : Option Addr} {w : World} {t : TypeId} (hO : OwnL B L (.slice p m c) w) (hm : m = L.length) (h0 : 0 < m) (hL : ∀ y ∈ L, y.size = 32)
    (hb : w.heap[bn]? = some (.cells #[.string ⟨#[]⟩, .int .i64 0, .int .i64 0, .string ⟨#[]⟩] t (0, 0))) : (Value.slice p m c).ownBlock = none ∨ (Value.slice p m c).ownBlock ≠ some bn := by
  refine .inr (fun e => ?_)
  obtain ⟨y, hy⟩ : ∃ y, L[0]? = some y := ⟨_, List.getElem?_eq_getElem (by omega)⟩
  have hys := hL y (List.mem_of_getElem? hy)
  rcases hO.strs with ⟨he, h1⟩ | ⟨g, off, cap, he, -, -, hc⟩
  · rw [h1] at hy; cases hy
  · injection he with e1 e2 e3
    subst e1
    simp [Value.ownBlock] at e
    subst e
    have h2 := row_cellP hb (hc 0 y hy)
    have h3 : y = ⟨#[]⟩ := by
      match off, h2 with
      | 0, h2 => simpa using h2.symm
      | 1, h2 => simp at h2
      | 2, h2 => simp at h2
      | 3, h2 => simpa using h2.symm
      | k + 4, h2 => simp at h2
    rw [h3] at hys
    cases hys
theorem ClAt.lt {g : Nat} {I J : Int} {x : En} {v : Value} {w : World} (h : ClAt g I J x v w) : g < w.heap.size := (Array.getElem?_eq_some_iff.1 h).1
theorem own_far {B : Nat} {L : List ByteArray} {v : Value} {w y : World} {g : Nat} (h : OwnL B L v w) (hg : g < B) (hc : Chg (some g) w y) : OwnL B L v y :=
  Own.keep h hc (.inr (fun e => by have := Own.ge h e; omega))
/-- behind Prove's call -/
def BdCut (w0 : World) (x : En) (k m : Nat) (L : List ByteArray) (v19 v20 v21 v22 : Value) (w : World) : Prop :=
  ∃ bn p c, v19 = .pointer (some ⟨bn, 0, none⟩) ∧ v20 = .int .i64 (k : Int) ∧ v21 = .slice p m c ∧ v22 = .int .i64 0 ∧ Gr w0 w ∧ w.heap[bn]? = some (.cells #[.string x.path, .int .i64 x.fmt, .int .i64 x.len, .string x.dig] 28 (0, 0)) ∧ OwnL 0 L (.slice p m c) w
/-- the cells of one of the three pairs -/
def rV (rt : ByteArray) (ct ix : Int) (c1 c2 : List Value) : List Value := [.string rt, .int .i64 ct, .int .i64 ix] ++ (c1 ++ c2)
/-- what is known of one claim that is asked -/
structure ClOk (v : Value) (L : List ByteArray) (x : En) (m : Nat) (w : World) : Prop where
  s : StrsAt v L w
  l : L.length = m
  n : m ≤ 100
  z : ∀ y ∈ L, y.size ≤ 1000
  p : x.path.size ≤ 1000
theorem ClOk.gr {v : Value} {L : List ByteArray} {x : En} {m : Nat} {w y : World} (h : ClOk v L x m w) (hg : Gr w y) : ClOk v L x m y := ⟨h.s.gr hg, h.l, h.n, h.z, h.p⟩
theorem three17 {b : Nat} {r0 r1 r2 : List Value} {t : TypeId} {w : World} (h0 : r0.length = 17) (h1 : r1.length = 17) (h : w.heap[b]? = some (.cells (r0 ++ (r1 ++ r2)).toArray t (0, 0))) :
    ∀ (k : Nat) (r : List Value), [r0, r1, r2][k]? = some r → ∀ (j : Nat) u, r[j]? = some u → j < 17 → w.cell? ⟨b, k * 17 + j, none⟩ = some u := by
  have hc : ∀ (j : Nat) u, (r0 ++ (r1 ++ r2))[j]? = some u → w.cell? ⟨b, j, none⟩ = some u := fun j u hu => by
    have := row_at (cs := r0 ++ (r1 ++ r2)) h j u hu
    rw [Addr.add_mid, Nat.zero_add] at this; exact this
  intro k r hr j u hu hj
  refine hc _ _ ?_
  match k, hr with
  | 0, hr =>
    obtain rfl := Option.some.inj hr
    rw [Nat.zero_mul, Nat.zero_add, List.getElem?_append_left (by omega)]; exact hu
  | 1, hr =>
    obtain rfl := Option.some.inj hr
    rw [Nat.one_mul, List.getElem?_append_right (by omega), List.getElem?_append_left (by omega), show 17 + j - r0.length = j by omega]; exact hu
  | 2, hr =>
    obtain rfl := Option.some.inj hr
    rw [List.getElem?_append_right (by omega), List.getElem?_append_right (by omega), show 2 * 17 + j - r0.length - r1.length = j by omega]; exact hu
theorem row17 {b : Nat} {cs : List Value} {t : TypeId} {w : World} (h : w.heap[b]? = some (.cells cs.toArray t (0, 0))) : ∀ (j : Nat) u, cs[j]? = some u → w.cell? ⟨b, j, none⟩ = some u := fun j u hu => by
  have := row_at (cs := cs) h j u hu
  rw [Addr.add_mid, Nat.zero_add] at this; exact this
theorem there_new (w : World) (cs : Array Value) (t : TypeId) (n : Nat) (h : n ≤ cs.size) : (w.alloc (.cells cs t)).there w.heap.size 0 n := by
  intro j hj
  have hr := heap_alloc_new w (.cells cs t)
  refine ⟨?_, frozen_of_row _ _ _ _ _ hr⟩
  rw [cell_of_row _ _ _ _ _ _ hr]
  simp; omega
theorem info17 (P : Program) (h : P = Tryz.prog) : (P.info? 60).map (·.size) = some 17 := by subst h; kernel_rfl
/-- cells that lie in a block -/
def CsAt (b : Nat) (cs : List Value) (w : World) : Prop := ∀ (j : Nat) u, cs[j]? = some u → w.cell? ⟨b, j, none⟩ = some u
theorem CsAt.gr {b : Nat} {cs : List Value} {w y : World} (h : CsAt b cs w) (hg : Gr w y) : CsAt b cs y := fun j u hu => hg.cell (h j u hu)
theorem csAt_set (w : World) (b : Nat) (cs : List Value) (ht : w.there b 0 cs.length) : CsAt b cs (w.setCells b 0 cs) := fun j u hu => by
  have := World.rangeAt_setCells_same w b 0 cs ht j u hu
  simpa using this
/-- three pairs of claims in a new slice -/
def TrB (cs : List Value) (v : Value) (w : World) : Prop := ∃ b t, v = .slice (some ⟨b, 0, none⟩) 3 3 ∧ w.heap[b]? = some (.cells cs.toArray t (0, 0))
theorem TrB.stb (cs : List Value) : Stb (TrB cs) := fun _ _ _ hg ⟨b, t, h1, h2⟩ => ⟨b, t, h1, hg.block h2⟩
/-- one of the three rounds -/
structure RndB (b k : Nat) (rt : ByteArray) (ct ix oI oJ : Int) (oE : En) (pO : Option Addr) (mO cO : Nat) (oL : List ByteArray) (tI tJ : Int) (tE : En) (pT : Option Addr) (mT cT : Nat) (tL : List ByteArray) (w : World) : Prop where
  c : ∀ (j : Nat) u, (rV rt ct ix (clV oI oJ oE (.slice pO mO cO)) (clV tI tJ tE (.slice pT mT cT)))[j]? = some u → j < 17 → w.cell? ⟨b, k * 17 + j, none⟩ = some u
  o : ClOk (.slice pO mO cO) oL oE mO w
  t : ClOk (.slice pT mT cT) tL tE mT w
  h : ct ≤ 9223372036854775807
theorem bind_hit {r : ByteArray} {ia va ib vb n i : Int} {x y : En} {q s : List ByteArray} (h1 : verM r ia va n i x q = true) (h2 : verM r ib vb n i y s = true) (hn : decide (ia = ib ∧ va = vb ∧ x = y) = false) : hitD (hashB ia va n i x q) (hashB ib vb n i y s) = true := by
  cases hh : hitD (hashB ia va n i x q) (hashB ib vb n i y s) with
  | true => rfl
  | false => exact absurd (binding_law h1 h2 hh) (of_decide_eq_false hn)
theorem cutsD_small {l : List ByteArray} {n m : Nat} : ∀ y ∈ cutsD l n m, y.size ≤ m := by
  intro y hy
  unfold cutsD at hy
  obtain ⟨z, -, rfl⟩ := List.mem_map.1 hy
  rw [cutD_size]; omega
theorem cutEn_path (x : En) : (cutEn x).path.size ≤ 70 := by show (cutD x.path 70).size ≤ 70; rw [cutD_size]; omega
end
section
open Go Go.RowKit Go.Shelf
attribute [local go_sem] gAt gUpon
attribute [local simp] Gr.refl Gr.alloc

set_option maxRecDepth 100000 in
set_option maxHeartbeats 1000000 in
theorem cut9_any (v : Value) (l : List ByteArray) (n m : Nat) (w : World) (hv : Rws 1 strC v l w) (hl : l.length ≤ 9223372036854775807) (hn : n ≤ 1000) (hm : m ≤ 1000) (hs : ∀ x ∈ l, x.size ≤ 9223372036854775807) :
    Calls Tryz.prog 14 #[v, .int .i64 (n : Int), .int .i64 (m : Int)] w fun e w' => ∃ u, e = .returned u ∧ OwnL w.heap.size (cutsD l n m) u w' ∧ Gr w w' := by
  obtain ⟨i0, hi, hz0, hz1, hz2⟩ := info_parts infoStr
  have HI := Lib.hid hi
  have HI0 := Lib.hid hz0
  have HI1 := Lib.hid hz1
  have HI2 := Lib.hid hz2
  obtain ⟨p, c, rfl⟩ := hv.shape
  have HV := Lib.hid hv
  have HS := Lib.hid hs
  have HEnd : Hid (∀ B u k y, (k = n ∨ (l.length ≤ k ∧ k ≤ n)) → k ≤ l.length → Own B 1 u k (sC (cutsD l k m)) y → OwnL B (cutsD l n m) u y) := Lib.hid (fun B u k y h1 h3 h2 => by
    have e : cutsD l n m = cutsD l k m := by
      rcases h1 with rfl | ⟨h1, h4⟩
      · rfl
      · unfold cutsD; rw [List.take_of_length_le (by omega), List.take_of_length_le (by omega)]
    unfold OwnL
    rw [e, cutsD_len, Nat.min_eq_left h3]; exact h2)
  clear hi hz0 hz1 hz2 hv hs
  go_enter Tryz.func14, Tryz.ntmps14
  go_wp2_with fail
  go_loopw [7, 8] (fun v7 v8 W => ∃ (k : Nat) (V : Value), k ≤ n ∧ k ≤ l.length ∧ v8 = .int .i64 (k : Int) ∧ V = v7 ∧ Hid (Own w.heap.size 1 V k (sC (cutsD l k m)) W) ∧ Hid (Gr w W)) (fun _ v8 _ => l.length - (intOf v8).toNat)
  case atStart => exact ⟨0, _, Nat.zero_le _, Nat.zero_le _, rfl, rfl, Lib.hid (Own.nil _ _ _), Lib.hid (Gr.refl _)⟩
  case round =>
    obtain ⟨k, v7, hkn, hkl, rfl, rfl, HO, HG⟩ := hrel
    by_cases hlt : k < l.length
    · have ht : decide (k < l.length) = true := decide_eq_true hlt
      have ht' : decide ((k : Int) < (l.length : Int)) = true := decide_eq_true (by omega)
      by_cases hln : k < n
      · have ht2 : decide (k < n) = true := decide_eq_true hln
        have ht2' : decide ((k : Int) < (n : Int)) = true := decide_eq_true (by omega)
        obtain ⟨x, hx⟩ : ∃ x, l[k]? = some x := ⟨_, List.getElem?_eq_getElem hlt⟩
        obtain ⟨g, off, rfl, hlc, hc⟩ := (HV.out.gr HG.out).at_ hx
        have hc0 := hc 0 _ rfl
        rw [Nat.mul_one, Nat.add_zero] at hc0
        have hsx := HS.out x (List.mem_of_getElem? hx)
        have HX := Lib.hid (cutsD_step hx m)
        have hS1 : ∀ q : GrS wr.drew, q.w.cell? ⟨g, off + k, none⟩ = some (.string x) := fun q => q.h.cell (w := wr.drew) hc0
        have hmn : min (x.size : Int) (m : Int) = ((min x.size m : Nat) : Int) := by omega
        have i0' : (0 : Int) ≤ (k : Int) := by omega
        have i1' : (k : Int) < (l.length : Int) := by omega
        clear hc hx hc0
        go_upto_region 5 with fail
        refine region_grow 14 36 (by kernel_rfl) rfl (by kernel_rfl) rfl rfl ?_
        simp only [List.take_succ_cons, List.take_zero, List.drop_succ_cons, List.drop_zero]
        refine seg 11 rfl rfl rfl rfl ?_
        simp only [List.take_succ_cons, List.take_zero, List.drop_succ_cons, List.drop_zero]
        repeat (go_big_quiet_step (fail))
        refine wpQuiet_nil ?_
        intro _
        refine grow_det (v := .int .i64 ((min x.size m : Nat) : Int)) rfl rfl rfl rfl rfl ?_ ?_
        · intro w1 hG
          go_simp
        simp only [Act.put, List.setIfInBounds_toArray, List.set_cons_zero, List.set_cons_succ]
        refine seg 1 rfl rfl rfl rfl ?_
        simp only [List.take_succ_cons, List.take_zero, List.drop_succ_cons, List.drop_zero]
        repeat (go_big_quiet_step (fail))
        refine wpQuiet_nil ?_
        intro _
        refine grow_open (NewEl [.string (cutD x m)] 9) rfl rfl rfl rfl (stb_el _ _) (fun w1 hG => ?_) ?_
        · go_simp
          exact newEl_alloc _ [.string (cutD x m)] _
        refine grow_end1 rfl rfl (by decide) (fun w8 u hG hu => ?_)
        obtain ⟨b2, rfl, hb2⟩ := hu
        simp only [Act.put, List.setIfInBounds_toArray, List.set_cons_zero, List.set_cons_succ]
        have HG8 := Lib.hid (HG.out.trans (Gr.trans (Gr.drew wr) hG))
        have HO8 := Lib.hid (HO.out.gr (Gr.trans (Gr.drew wr) hG))
        have HB2 := Lib.hid hb2
        have hsz8 : w.heap.size ≤ w8.heap.size := HG8.out.size
        clear hG hb2 hS1 HO HG
        go_wp2_with ((with_reducible show wpList _ _ _ (⟨some 34, _, _, _, _, _⟩ :: _) _ _); refine wpList_append_Own rfl (.tmp 20) (.tmp 33) 25 rfl 9 i0 (.string ⟨#[]⟩) 1 16 Tryz.underlying25 HI.out HI0.out HI1.out HI2.out rfl (by decide) rfl HO8.out ⟨b2, 0, none⟩ 1 1 [.string (cutD x m)] rfl rfl (row_at HB2.out) ?h1 (by decide) ?b1 ?b2 hsz8 ?_)
        case h1 => rfl
        case b1 => unfold maxLen; omega
        case b2 => omega
        intro v9 w9 hown hchg _
        have HG9 : Hid (Gr w w9) := Lib.hid (gr_step HG8.out (Gr.refl _) hchg (fun g hg => HO8.out.ge hg))
        have HO9 : Hid (Own w.heap.size 1 v9 (k + 1) (sC (cutsD l (k + 1) m)) w9) := Lib.hid (by rw [HX.out]; exact hown)
        clear hown hchg HO8 HG8 HX HB2 hsz8
        go_wp2_with fail
        go_roundw
        case rel => exact ⟨k + 1, _, by omega, by omega, by go_num, rfl, HO9, HG9⟩
        case measure => simp [intOf]; omega
      · have ht2 : decide (k < n) = false := decide_eq_false hln
        have ht2' : decide ((k : Int) < (n : Int)) = false := decide_eq_false (by omega)
        have HE := Lib.hid (HEnd.out _ _ k _ (.inl (by omega)) hkl HO.out)
        clear HO
        go_wp2_with fail
        go_ret
        exact ⟨_, rfl, HE.out, HG.out⟩
    · have ht : decide (k < l.length) = false := decide_eq_false hlt
      have ht' : decide ((k : Int) < (l.length : Int)) = false := decide_eq_false (by omega)
      have HE := Lib.hid (HEnd.out _ _ k _ (.inr ⟨by omega, hkn⟩) hkl HO.out)
      clear HO
      go_wp2_with fail
      go_ret
      exact ⟨_, rfl, HE.out, HG.out⟩
end
section
open Go Go.RowKit Go.Shelf
attribute [local go_sem] gAt gUpon pUpon
attribute [local simp] Gr.refl Gr.alloc

/-- what the loads ahead of Prove's call read -/
def BdS (b : Nat) (I J : Int) (n : Nat) (p : Option Addr) (c gq o : Nat) (xp : ByteArray) (y : World) : Prop :=
  y.cell? ⟨b, 0, none⟩ = some (.int .i64 I) ∧ y.cell? ⟨b, 1, none⟩ = some (.int .i64 J) ∧ y.cell? ⟨b, 2, none⟩ = some (.slice p n c) ∧ y.cell? ⟨gq, o, none⟩ = some (.string xp)
set_option maxRecDepth 100000 in
set_option maxHeartbeats 4000000 in
theorem bnd_any (root : ByteArray) (count index : Int) (aI aJ : Int) (aE : En) (va : Value) (aP : List ByteArray) (bI bJ : Int) (bE : En) (vb : Value) (bP : List ByteArray) (v : Value) (l : List ByteArray) (which : Int) (w : World)
    (_hrs : root.size ≤ 140737488355000) (hct : I64 count) (_hix : I64 index) (ha : ClIn aI aJ aE va aP w) (hb : ClIn bI bJ bE vb bP w) (hv : StrsIn v l w) (hl : l.length ≤ 9223372036854775806) (hs : ∀ x ∈ l, x.size ≤ 140737488355000) (hwh : I64 which) (hT : Tab w) :
    Calls Tryz.prog 8 #[.string root, .int .i64 count, .int .i64 index, .agg (clV aI aJ aE va).toArray, .agg (clV bI bJ bE vb).toArray, v, .int .i64 which] w fun e w' => e = .returned (.bool true) ∧ Gr w w' := by
  have HT := Lib.hid hT
  have HMd := Lib.hid (fun (y : World) (hg : Gr w y) => made2_any v l aI aJ y (hv.gr hg) hl hs ha.i ha.j (hT.gr hg))
  have HEa := Lib.hid (fun (y : World) => entry_any aE y ha.e.1 ha.e.2.2.2)
  have HEb := Lib.hid (fun (y : World) => entry_any bE y hb.e.1 hb.e.2.2.2)
  have HCa := Lib.hid (fun (y : World) (hg : Gr w y) => cut9_any va aP 12 40 y (ha.s.gr hg) ha.n (by decide) (by decide) ha.z)
  have HCb := Lib.hid (fun (y : World) (hg : Gr w y) => cut9_any vb bP 12 40 y (hb.s.gr hg) hb.n (by decide) (by decide) hb.z)
  have hap := cutEn_path aE
  have hbp := cutEn_path bE
  obtain ⟨xa, hxa⟩ : ∃ z, cutEn aE = z := ⟨_, rfl⟩
  obtain ⟨xb, hxb⟩ : ∃ z, cutEn bE = z := ⟨_, rfl⟩
  rw [hxa] at HEa hap
  rw [hxb] at HEb hbp
  obtain ⟨qa, da, rfl⟩ := ha.s.shape
  obtain ⟨qb, db, rfl⟩ := hb.s.shape
  clear hv hs hT ha hb hxa hxb
  obtain ⟨aEp, aEf, aEl, aEd⟩ := aE
  obtain ⟨bEp, bEf, bEl, bEd⟩ := bE
  simp only at HEa HEb
  show Calls Tryz.prog 8 #[.string root, .int .i64 count, .int .i64 index, .agg #[.int .i64 aI, .int .i64 aJ, .string aEp, .int .i64 aEf, .int .i64 aEl, .string aEd, .slice qa aP.length da], .agg #[.int .i64 bI, .int .i64 bJ, .string bEp, .int .i64 bEf, .int .i64 bEl, .string bEd, .slice qb bP.length db], v, .int .i64 which] w fun e w' => e = .returned (.bool true) ∧ Gr w w'
  go_enter Tryz.func8, Tryz.ntmps8
  go_upto_region 1 with fail
  obtain ⟨x1, hx1⟩ : ∃ z, w.heap.size = z := ⟨_, rfl⟩
  have hr1 := heap_alloc_new w (.cells #[.int .i64 aI, .int .i64 aJ, .string aEp, .int .i64 aEf, .int .i64 aEl, .string aEd, .slice qa aP.length da] 59)
  have hr2 := heap_alloc_new (w.alloc (.cells #[.int .i64 aI, .int .i64 aJ, .string aEp, .int .i64 aEf, .int .i64 aEl, .string aEd, .slice qa aP.length da] 59)) (.cells #[.int .i64 bI, .int .i64 bJ, .string bEp, .int .i64 bEf, .int .i64 bEl, .string bEd, .slice qb bP.length db] 59)
  rw [World.size_alloc] at hr2
  rw [hx1] at hr1 hr2
  simp only [hx1]
  obtain ⟨x2, hx2⟩ : ∃ z, x1 + 1 = z := ⟨_, rfl⟩
  rw [hx2] at hr2
  simp only [hx2]
  have hra := (Gr.alloc (w.alloc (.cells #[.int .i64 aI, .int .i64 aJ, .string aEp, .int .i64 aEf, .int .i64 aEl, .string aEd, .slice qa aP.length da] 59)) (.cells #[.int .i64 bI, .int .i64 bJ, .string bEp, .int .i64 bEf, .int .i64 bEl, .string bEd, .slice qb bP.length db] 59)).block hr1
  have hg0 := (Gr.alloc w (.cells #[.int .i64 aI, .int .i64 aJ, .string aEp, .int .i64 aEf, .int .i64 aEl, .string aEd, .slice qa aP.length da] 59)).trans (Gr.alloc (w.alloc (.cells #[.int .i64 aI, .int .i64 aJ, .string aEp, .int .i64 aEf, .int .i64 aEl, .string aEd, .slice qa aP.length da] 59)) (.cells #[.int .i64 bI, .int .i64 bJ, .string bEp, .int .i64 bEf, .int .i64 bEl, .string bEd, .slice qb bP.length db] 59))
  have HA : Hid (ClAt x1 aI aJ ⟨aEp, aEf, aEl, aEd⟩ (.slice qa aP.length da) _) := Lib.hid hra
  have HB : Hid (ClAt x2 bI bJ ⟨bEp, bEf, bEl, bEd⟩ (.slice qb bP.length db) _) := Lib.hid hr2
  have HG0 := Lib.hid hg0
  have Hx : Hid (w.heap.size ≤ x1 ∧ x1 ≠ x2 ∧ w.heap.size ≤ x2) := Lib.hid ⟨by omega, by omega, by omega⟩
  clear hr1 hr2 hra hg0 hx1 hx2
  generalize (w.alloc (.cells #[.int .i64 aI, .int .i64 aJ, .string aEp, .int .i64 aEf, .int .i64 aEl, .string aEd, .slice qa aP.length da] 59)).alloc (.cells #[.int .i64 bI, .int .i64 bJ, .string bEp, .int .i64 bEf, .int .i64 bEl, .string bEd, .slice qb bP.length db] 59) = w0 at HA HB HG0 ⊢
  go_wp2_with fail
  refine (sane_any w0 (HT.out.gr HG0.out)).mono ?_
  rintro e w1 ⟨rfl, hg1⟩
  replace HA := Lib.hid (HA.out.gr hg1)
  replace HB := Lib.hid (HB.out.gr hg1)
  have HG1 := Lib.hid (HG0.out.trans hg1)
  clear hg1 HG0
  obtain ⟨c0, c1, c2, c3, c4, c5, c6⟩ := HA.out.cells
  go_wp2_with fail
  clear c0 c1 c2 c3 c4 c5 c6
  refine (HEa.out _).mono ?_
  rintro e w2 ⟨rfl, hg2⟩
  replace HA := Lib.hid (HA.out.gr hg2)
  replace HB := Lib.hid (HB.out.gr hg2)
  have HG2 := Lib.hid (HG1.out.trans hg2)
  clear hg2 HG1 HEa
  go_upto_region 3 with ((with_reducible show wpList _ _ _ (⟨none, .store 28 _ _, _, _, _, _⟩ :: _) _ _); refine wpList_store_mid rfl 28 (.tmp 33) (.tmp 32) rfl x1 2 (enC xa).toArray rfl rfl HA.out.there (infoEn_size Tryz.prog rfl) (all_oneCell_toArray (enC_one xa)) ?_)
  simp only [Act.put]
  have hch := setCells_chg x1 (enC xa) 2 w2
  replace HB := Lib.hid (HB.out.keep hch Hx.out.2.1.symm)
  replace HA := Lib.hid (ClAt.setE (o := xa) HA.out)
  have HG3 := Lib.hid (gr_step HG2.out (Gr.refl _) hch (fun g e => by cases e; exact Hx.out.1))
  clear hch HG2
  generalize w2.setCells x1 2 (enC xa) = w3 at HA HB HG3 ⊢
  obtain ⟨c0, c1, c2, c3, c4, c5, c6⟩ := HB.out.cells
  go_wp2_with fail
  clear c0 c1 c2 c3 c4 c5 c6
  refine (HEb.out _).mono ?_
  rintro e w4 ⟨rfl, hg4⟩
  replace HA := Lib.hid (HA.out.gr hg4)
  replace HB := Lib.hid (HB.out.gr hg4)
  have HG4 := Lib.hid (HG3.out.trans hg4)
  clear hg4 HG3 HEb
  go_upto_region 4 with ((with_reducible show wpList _ _ _ (⟨none, .store 28 _ _, _, _, _, _⟩ :: _) _ _); refine wpList_store_mid rfl 28 (.tmp 37) (.tmp 36) rfl x2 2 (enC xb).toArray rfl rfl HB.out.there (infoEn_size Tryz.prog rfl) (all_oneCell_toArray (enC_one xb)) ?_)
  simp only [Act.put]
  have hch := setCells_chg x2 (enC xb) 2 w4
  replace HA := Lib.hid (HA.out.keep hch Hx.out.2.1)
  replace HB := Lib.hid (ClAt.setE (o := xb) HB.out)
  have HG5 := Lib.hid (gr_step HG4.out (Gr.refl _) hch (fun g e => by cases e; exact Hx.out.2.2))
  clear hch HG4
  generalize w4.setCells x2 2 (enC xb) = w5 at HA HB HG5 ⊢
  obtain ⟨c0, c1, c2, c3, c4, c5, c6⟩ := HA.out.cells
  go_wp2_with fail
  clear c0 c1 c2 c3 c4 c5 c6
  refine (HCa.out _ HG5.out).mono ?_
  rintro e w6 ⟨u6, rfl, ho6, hg6⟩
  have hx1 := HA.out.lt
  have hx2 := HB.out.lt
  obtain ⟨qA, dA, rfl⟩ := ho6.strs.shape
  have hAn : (cutsD aP 12 40).length ≤ 12 := by rw [cutsD_len]; omega
  have hAz := cutsD_small (l := aP) (n := 12) (m := 40)
  obtain ⟨PA, hPA⟩ : ∃ z, cutsD aP 12 40 = z := ⟨_, rfl⟩
  rw [hPA] at ho6 hAn hAz ⊢
  obtain ⟨mA, hmA⟩ : ∃ z, PA.length = z := ⟨_, rfl⟩
  rw [hmA] at hAn
  have ho6' : OwnL w5.heap.size PA (.slice qA mA dA) w6 := by rw [← hmA]; exact ho6
  rw [hmA]
  replace HA := Lib.hid (HA.out.gr hg6)
  replace HB := Lib.hid (HB.out.gr hg6)
  have HG6 := Lib.hid (HG5.out.trans hg6)
  obtain ⟨c0, c1, c2, c3, c4, c5, c6⟩ := HA.out.cells
  have f6 := HA.out.free 6
  go_upto_region 5 with fail
  clear c0 c1 c2 c3 c4 c5 c6 f6
  have hch := setCells_chg x1 [.slice qA mA dA] 6 w6
  have HPA := Lib.hid (own_far ho6' hx1 hch)
  replace HB := Lib.hid (HB.out.keep hch Hx.out.2.1.symm)
  replace HA := Lib.hid (ClAt.setP (u := .slice qA mA dA) HA.out)
  have HG7 := Lib.hid (gr_step HG6.out (Gr.refl _) hch (fun g e => by cases e; exact Hx.out.1))
  have HAz := Lib.hid (And.intro hmA (And.intro hAn hAz))
  have hset : w6.setCells x1 6 [.slice qA mA dA] = w6.setCell ⟨x1, 6, none⟩ (.slice qA mA dA) := rfl
  rw [hset] at HPA HB HG7
  obtain ⟨B5, hB5⟩ : ∃ z, w5.heap.size = z := ⟨_, rfl⟩
  rw [hB5] at HPA hx2
  have Hx2 := Lib.hid hx2
  clear hch ho6 ho6' hg6 HG5 HG6 HCa hPA hmA hAn hAz hx1 hx2 hset hB5
  generalize w6.setCell ⟨x1, 6, none⟩ (.slice qA mA dA) = w7 at HA HB HG7 HPA ⊢
  obtain ⟨c0, c1, c2, c3, c4, c5, c6⟩ := HB.out.cells
  go_wp2_with fail
  clear c0 c1 c2 c3 c4 c5 c6
  refine (HCb.out _ HG7.out).mono ?_
  rintro e w8 ⟨u8, rfl, ho8, hg8⟩
  have hx2 := HB.out.lt
  obtain ⟨qB, dB, rfl⟩ := ho8.strs.shape
  have hBn : (cutsD bP 12 40).length ≤ 12 := by rw [cutsD_len]; omega
  have hBz := cutsD_small (l := bP) (n := 12) (m := 40)
  obtain ⟨PB, hPB⟩ : ∃ z, cutsD bP 12 40 = z := ⟨_, rfl⟩
  rw [hPB] at ho8 hBn hBz ⊢
  obtain ⟨mB, hmB⟩ : ∃ z, PB.length = z := ⟨_, rfl⟩
  rw [hmB] at hBn
  have ho8' : OwnL w7.heap.size PB (.slice qB mB dB) w8 := by rw [← hmB]; exact ho8
  rw [hmB]
  replace HA := Lib.hid (HA.out.gr hg8)
  replace HB := Lib.hid (HB.out.gr hg8)
  replace HPA := Lib.hid (HPA.out.gr hg8)
  have HG8 := Lib.hid (HG7.out.trans hg8)
  obtain ⟨c0, c1, c2, c3, c4, c5, c6⟩ := HB.out.cells
  have f6 := HB.out.free 6
  go_upto_region 6 with fail
  clear c0 c1 c2 c3 c4 c5 c6 f6
  have hch := setCells_chg x2 [.slice qB mB dB] 6 w8
  have HPB := Lib.hid (own_far ho8' hx2 hch).strs
  replace HPA := Lib.hid (own_far HPA.out Hx2.out hch).strs
  replace HA := Lib.hid (HA.out.keep hch Hx.out.2.1)
  replace HB := Lib.hid (ClAt.setP (u := .slice qB mB dB) HB.out)
  have HG9 := Lib.hid (gr_step HG8.out (Gr.refl _) hch (fun g e => by cases e; exact Hx.out.2.2))
  have HBz := Lib.hid (And.intro hmB (And.intro hBn hBz))
  have hset : w8.setCells x2 6 [.slice qB mB dB] = w8.setCell ⟨x2, 6, none⟩ (.slice qB mB dB) := rfl
  rw [hset] at HPA HPB HA HG9
  clear hch ho8 ho8' hg8 HG7 HG8 HCb hPB hmB hBn hBz hx2 Hx2 hset
  generalize w8.setCell ⟨x2, 6, none⟩ (.slice qB mB dB) = w9 at HA HB HG9 HPA HPB ⊢
  obtain ⟨c0, c1, c2, c3, c4, c5, c6⟩ := HA.out.cells
  go_wp2_with fail
  clear c0 c1 c2 c3 c4 c5 c6
  refine (HMd.out w9 HG9.out).mono ?_
  rintro e wm ⟨I, J, n, E, P, S, p, pp, ps, c, cp, cs, rfl, hF, hR, hP, hS, -, hgm⟩
  have HF := Lib.hid hF
  have HM0 := Lib.hid (MadAt.start (I := I) (J := J) (n := n) (E := E) (p := p) (c := c) (HG9.out.trans hgm) hR hP.strs hS.strs)
  have hgz := hgm.trans (Gr.alloc wm (.cells #[.int .i64 I, .int .i64 J, .slice p n c] 24))
  replace HA := Lib.hid (HA.out.gr hgz)
  replace HB := Lib.hid (HB.out.gr hgz)
  replace HPA := Lib.hid (HPA.out.gr hgz)
  replace HPB := Lib.hid (HPB.out.gr hgz)
  clear hF hR hP hS hgm hgz HG9 HMd
  go_upto_region 7 with fail
  obtain ⟨b, hb⟩ : ∃ b, wm.heap.size = b := ⟨_, rfl⟩
  simp only [hb] at HM0 ⊢
  have HM := HM0
  clear HM0 hb
  generalize wm.alloc (.cells #[.int .i64 I, .int .i64 J, .slice p n c] 24) = wr at HM HA HB HPA HPB ⊢
  have hn := HF.out.bounds
  obtain ⟨k, hk⟩ : ∃ k, pickD which n = k := ⟨_, rfl⟩
  have hlt : k < n := by rw [← hk]; exact pickD_lt which n (by omega)
  have HPk := Lib.hid (fun (y : World) => pick_any which n y hwh (by omega) (by omega))
  rw [hk] at HPk
  clear hk hwh
  obtain ⟨f, t, he, -, -, hts, hst, hpk⟩ := HF.out.at_ hlt
  obtain ⟨x, hx⟩ : ∃ x, mkEn (pathOf k) f t = x := ⟨_, rfl⟩
  have hxp : x.path = pathOf k := by rw [← hx]; rfl
  rw [hx] at he
  have hidx : prI I J E (pathOf k) = some k := by
    unfold prI; rw [if_pos HF.out.valid]
    obtain ⟨-, -, hn', rfl, -, -⟩ := HF.out
    exact mad_idx (by rw [← hn']; exact hlt)
  obtain ⟨L, hL⟩ : ∃ L, prP E (some k) = L := ⟨_, rfl⟩
  obtain ⟨m, hm⟩ : ∃ m, L.length = m := ⟨_, rfl⟩
  have hm0 : 0 < m := by rw [← hm, ← hL, prP_len]; omega
  have hmL : m ≤ 100 := by
    rw [← hm, ← hL, prP_len]
    have := proof_short 4 (E.map lineD) k (by rw [List.length_map, HF.out.eLen]; omega)
    omega
  have hL32 : ∀ y ∈ L, y.size = 32 := by rw [← hL]; exact prP_sizes E (some k)
  obtain ⟨xp, hxpp⟩ : ∃ z, pathOf k = z := ⟨_, rfl⟩
  rw [hxpp] at hidx hpk hxp
  have HPv := Lib.hid (fun (y : World) (hg : Gr wr y) => prove_any I J _ E xp y (HM.out.gr hg).e (by rw [HF.out.eLen]; omega) HF.out.ePath (HT.out.gr (HM.out.gr hg).g))
  rw [hidx] at HPv
  have hpe : prE E (some k) = x := by show E.getD k en0 = x; rw [List.getD_eq_getElem?_getD, he]; rfl
  have HPc := Lib.hid (fun (y : World) (hg : Gr wr y) => (HPv.out y hg).mono (R' := fun e w' => ∃ p c, e = .returned (.tuple #[.agg #[.string x.path, .int .i64 x.fmt, .int .i64 x.len, .string x.dig], .int .i64 (k : Int), .slice p m c, .int .i64 0]) ∧ OwnL 0 L (.slice p m c) w' ∧ Gr y w') (fun e w' ⟨u, h1, h2, h3⟩ => by
    rw [hL] at h2
    obtain ⟨q, d, rfl⟩ := h2.strs.shape
    rw [hm] at h1 h2
    rw [hpe] at h1
    exact ⟨q, d, h1, h2.mono (Nat.zero_le _), h3⟩))
  obtain ⟨gq, oq, rfl, hcq⟩ : ∃ g off, pp = some ⟨g, off, none⟩ ∧ wr.cell? ⟨g, off + k, none⟩ = some (.string xp) := HM.out.p.at2 hpk
  have HL32 := Lib.hid hL32
  have Hm := Lib.hid hm
  have hxps : x.path.size ≤ 1000 := by rw [hxp, ← hxpp, pathOf_size]; decide
  have Hxps := Lib.hid hxps
  clear hxp he hst hpk hidx hL hm hL32 hxpp HPv hpe hts hx hxps
  have i0 : (0 : Int) ≤ (k : Int) := by omega
  have i1 : (k : Int) < (n : Int) := by omega
  have HSg : Hid (∀ y, Gr wr y → BdS b I J n p c gq (oq + k) xp y) :=
    Lib.hid (fun y hg => ⟨hg.cell (row3 HM.out.r).1, hg.cell (row3 HM.out.r).2.1, hg.cell (row3 HM.out.r).2.2, hg.cell hcq⟩)
  clear hcq
  go_cut [19, 20, 21, 22] from 56 to 69 (fun v19 v20 v21 v22 wx => Hid (BdCut wr x k m L v19 v20 v21 v22 wx))
  case first =>
    rename_i JJ KK hJ hK
    have hS0 := HSg.out wr.drew (Gr.drew wr)
    refine u_begin (BdS b I J n p c gq (oq + k) xp) (fun _ => false) (by kernel_rfl) (by assumption) (fun hHeld => ?_)
    have HGz := Gr.drew wr
    generalize wr.drew = wz at HGz hHeld hS0 ⊢
    refine u_take 0 (v := ?_) rfl rfl (by kernel_rfl) (by kernel_rfl) (by kernel_rfl) (by kernel_rfl) (fun _ _ _ h => h) (by rfl) (by assumption) ?_ ?_
    rotate_left
    · (intro w hSw; obtain ⟨z0, z1, z2, z3⟩ := hSw; go_simp; try with_reducible rfl)
    try simp only [Act.put, List.setIfInBounds_toArray, List.set_cons_zero, List.set_cons_succ]
    refine u_take 1 (v := ?_) rfl rfl (by kernel_rfl) (by kernel_rfl) (by kernel_rfl) (by kernel_rfl) (fun _ _ _ h => h) (by rfl) (by assumption) ?_ ?_
    rotate_left
    · (intro w hSw; obtain ⟨z0, z1, z2, z3⟩ := hSw; go_simp; try with_reducible rfl)
    try simp only [Act.put, List.setIfInBounds_toArray, List.set_cons_zero, List.set_cons_succ]
    refine u_take 2 (v := ?_) rfl rfl (by kernel_rfl) (by kernel_rfl) (by kernel_rfl) (by kernel_rfl) (fun _ _ _ h => h) (by rfl) (by assumption) ?_ ?_
    rotate_left
    · (intro w hSw; obtain ⟨z0, z1, z2, z3⟩ := hSw; go_simp; try with_reducible rfl)
    try simp only [Act.put, List.setIfInBounds_toArray, List.set_cons_zero, List.set_cons_succ]
    refine u_take 3 (v := ?_) rfl rfl (by kernel_rfl) (by kernel_rfl) (by kernel_rfl) (by kernel_rfl) (fun _ _ _ h => h) (by rfl) (by assumption) ?_ ?_
    rotate_left
    · (intro w hSw; obtain ⟨z0, z1, z2, z3⟩ := hSw; go_simp; try with_reducible rfl)
    try simp only [Act.put, List.setIfInBounds_toArray, List.set_cons_zero, List.set_cons_succ]
    refine u_take 4 (v := ?_) rfl rfl (by kernel_rfl) (by kernel_rfl) (by kernel_rfl) (by kernel_rfl) (fun _ _ _ h => h) (by rfl) (by assumption) ?_ ?_
    rotate_left
    · (intro w hSw; obtain ⟨z0, z1, z2, z3⟩ := hSw; go_simp; try with_reducible rfl)
    try simp only [Act.put, List.setIfInBounds_toArray, List.set_cons_zero, List.set_cons_succ]
    refine u_two 5 14 (by kernel_rfl) rfl rfl (by rfl) (by rfl) ?_ ?_
    · go_simp
      refine (HPk.out wz).mono ?_
      rintro e w1 ⟨rfl, rfl⟩
      refine .inl ⟨_, rfl, hS0, ?_⟩
      try simp only [Act.put, List.setIfInBounds_toArray, List.set_cons_zero, List.set_cons_succ]
      refine u_take 6 (v := ?_) rfl rfl (by kernel_rfl) (by kernel_rfl) (by kernel_rfl) (by kernel_rfl) (fun _ _ _ h => h) (by rfl) (by assumption) ?_ ?_
      rotate_left
      · (intro w hSw; obtain ⟨z0, z1, z2, z3⟩ := hSw; go_simp; try with_reducible rfl)
      try simp only [Act.put, List.setIfInBounds_toArray, List.set_cons_zero, List.set_cons_succ]
      refine u_take 7 (v := ?_) rfl rfl (by kernel_rfl) (by kernel_rfl) (by kernel_rfl) (by kernel_rfl) (fun _ _ _ h => h) (by rfl) (by assumption) ?_ ?_
      rotate_left
      · (intro w hSw; obtain ⟨z0, z1, z2, z3⟩ := hSw; go_simp; try with_reducible rfl)
      try simp only [Act.put, List.setIfInBounds_toArray, List.set_cons_zero, List.set_cons_succ]
      refine u_two 8 14 (by kernel_rfl) rfl rfl (by rfl) (by rfl) ?_ ?_
      · go_simp
        refine (HPc.out _ HGz).mono ?_
        rintro e w1 ⟨p9, c9, rfl, ho, hg⟩
        have hg1 := HGz.trans hg
        refine .inl ⟨_, rfl, HSg.out _ hg1, ?_⟩
        try simp only [Act.put, List.setIfInBounds_toArray, List.set_cons_zero, List.set_cons_succ]
        replace hHeld := HSg.out _ hg1
        clear hS0
        refine u_take 9 (v := ?_) rfl rfl (by kernel_rfl) (by kernel_rfl) (by kernel_rfl) (by kernel_rfl) (fun _ _ _ h => h) (by rfl) (by assumption) ?_ ?_
        rotate_left
        · (intro w hSw; (try dsimp only at hSw); go_simp; try with_reducible rfl)
        try simp only [Act.put, List.setIfInBounds_toArray, List.set_cons_zero, List.set_cons_succ]
        refine u_take 10 (v := ?_) rfl rfl (by kernel_rfl) (by kernel_rfl) (by kernel_rfl) (by kernel_rfl) (fun _ _ _ h => h) (by rfl) (by assumption) ?_ ?_
        rotate_left
        · (intro w hSw; (try dsimp only at hSw); go_simp; try with_reducible rfl)
        try simp only [Act.put, List.setIfInBounds_toArray, List.set_cons_zero, List.set_cons_succ]
        refine u_take 11 (v := ?_) rfl rfl (by kernel_rfl) (by kernel_rfl) (by kernel_rfl) (by kernel_rfl) (fun _ _ _ h => h) (by rfl) (by assumption) ?_ ?_
        rotate_left
        · (intro w hSw; (try dsimp only at hSw); go_simp; try with_reducible rfl)
        try simp only [Act.put, List.setIfInBounds_toArray, List.set_cons_zero, List.set_cons_succ]
        refine u_take 12 (v := ?_) rfl rfl (by kernel_rfl) (by kernel_rfl) (by kernel_rfl) (by kernel_rfl) (fun _ _ _ h => h) (by rfl) (by assumption) ?_ ?_
        rotate_left
        · (intro w hSw; (try dsimp only at hSw); go_simp; try with_reducible rfl)
        try simp only [Act.put, List.setIfInBounds_toArray, List.set_cons_zero, List.set_cons_succ]
        refine u_take 13 (v := ?_) rfl rfl (by kernel_rfl) (by kernel_rfl) (by kernel_rfl) (by kernel_rfl) (fun _ _ _ h => h) (by rfl) (by assumption) ?_ ?_
        rotate_left
        · (intro w hSw; (try dsimp only at hSw); go_simp; try with_reducible rfl)
        try simp only [Act.put, List.setIfInBounds_toArray, List.set_cons_zero, List.set_cons_succ]
        refine u_step 14 (by kernel_rfl) rfl (by rfl) ?_
        go_simp
        obtain ⟨bn, hbn⟩ : ∃ z, w1.heap.size = z := ⟨_, rfl⟩
        have hrow := heap_alloc_new w1 (.cells #[.string ⟨#[]⟩, .int .i64 0, .int .i64 0, .string ⟨#[]⟩] 28)
        have hge : wr.heap.size ≤ bn := by rw [← hbn]; exact hg1.size
        rw [hbn] at hrow
        simp only [hbn]
        have hg2 := hg1.trans (Gr.alloc w1 (.cells #[.string ⟨#[]⟩, .int .i64 0, .int .i64 0, .string ⟨#[]⟩] 28))
        have ho2 := ho.gr (Gr.alloc w1 (.cells #[.string ⟨#[]⟩, .int .i64 0, .int .i64 0, .string ⟨#[]⟩] 28))
        clear ho hg hg1 hbn
        generalize w1.alloc (.cells #[.string ⟨#[]⟩, .int .i64 0, .int .i64 0, .string ⟨#[]⟩] 28) = w2 at hrow hg2 ho2 ⊢
        refine ⟨HSg.out _ hg2, ?_⟩
        try simp only [Act.put, List.setIfInBounds_toArray, List.set_cons_zero, List.set_cons_succ]
        have HOa := Lib.hid (ent_apart ho2 Hm.out.symm hm0 HL32.out hrow)
        obtain ⟨m0, m1, m2, m3⟩ := row4 hrow
        obtain ⟨f0, f1, f2, f3⟩ := frozen4 hrow
        refine u_step 15 (by kernel_rfl) rfl (by rfl) ?_
        go_simp
        clear m0 m1 m2 m3 f0 f1 f2 f3
        have hch : Chg (some bn) w2 ((((w2.setCell ⟨bn, 0, none⟩ (.string x.path)).setCell ⟨bn, 1, none⟩ (.int .i64 x.fmt)).setCell ⟨bn, 2, none⟩ (.int .i64 x.len)).setCell ⟨bn, 3, none⟩ (.string x.dig)) := setCells_chg bn [.string x.path, .int .i64 x.fmt, .int .i64 x.len, .string x.dig] 0 w2
        have hrow2 := row_set4 (a' := .string x.path) (b' := .int .i64 x.fmt) (c' := .int .i64 x.len) (d' := .string x.dig) hrow
        have hgx : Gr wr ((((w2.setCell ⟨bn, 0, none⟩ (.string x.path)).setCell ⟨bn, 1, none⟩ (.int .i64 x.fmt)).setCell ⟨bn, 2, none⟩ (.int .i64 x.len)).setCell ⟨bn, 3, none⟩ (.string x.dig)) := gr_step hg2 (Gr.refl _) hch (fun g e => by cases e; exact hge)
        have hO3 : OwnL 0 L (.slice p9 m c9) _ := Own.keep ho2 hch HOa.out
        clear hch hrow ho2 HOa hg2
        generalize ((((w2.setCell ⟨bn, 0, none⟩ (.string x.path)).setCell ⟨bn, 1, none⟩ (.int .i64 x.fmt)).setCell ⟨bn, 2, none⟩ (.int .i64 x.len)).setCell ⟨bn, 3, none⟩ (.string x.dig)) = w3 at hrow2 hgx hO3 ⊢
        refine ⟨HSg.out _ hgx, ?_⟩
        try simp only [Act.put, List.setIfInBounds_toArray, List.set_cons_zero, List.set_cons_succ]
        replace hHeld := HSg.out _ hgx
        refine u_take 16 (v := ?_) rfl rfl (by kernel_rfl) (by kernel_rfl) (by kernel_rfl) (by kernel_rfl) (fun _ _ _ h => h) (by rfl) (by assumption) ?_ ?_
        rotate_left
        · (intro w hSw; (try dsimp only at hSw); go_simp; try with_reducible rfl)
        try simp only [Act.put, List.setIfInBounds_toArray, List.set_cons_zero, List.set_cons_succ]
        refine u_take 17 (v := ?_) rfl rfl (by kernel_rfl) (by kernel_rfl) (by kernel_rfl) (by kernel_rfl) (fun _ _ _ h => h) (by rfl) (by assumption) ?_ ?_
        rotate_left
        · (intro w hSw; (try dsimp only at hSw); go_simp; try with_reducible rfl)
        try simp only [Act.put, List.setIfInBounds_toArray, List.set_cons_zero, List.set_cons_succ]
        refine u_take 18 (v := ?_) rfl rfl (by kernel_rfl) (by kernel_rfl) (by kernel_rfl) (by kernel_rfl) (fun _ _ _ h => h) (by rfl) (by assumption) ?_ ?_
        rotate_left
        · (intro w hSw; (try dsimp only at hSw); go_simp; try with_reducible rfl)
        try simp only [Act.put, List.setIfInBounds_toArray, List.set_cons_zero, List.set_cons_succ]
        refine u_done (by kernel_rfl) ?_ _
        have HC : Hid (BdCut wr x k m L (.pointer (some ⟨bn, 0, none⟩)) (.int .i64 (k : Int)) (.slice p9 m c9) (.int .i64 0) w3) := Lib.hid ⟨bn, p9, c9, rfl, rfl, rfl, rfl, hgx, hrow2, hO3⟩
        refine hK _ _ (Met.intro (hJ _ _ ?_))
        repeat apply Exists.intro
        exact ⟨HC, rfl⟩
      · go_simp
        obtain ⟨bn, hbn⟩ : ∃ z, wz.heap.size = z := ⟨_, rfl⟩
        have hg1 := HGz.trans (Gr.alloc wz (.cells #[.string ⟨#[]⟩, .int .i64 0, .int .i64 0, .string ⟨#[]⟩] 28))
        have hrow := heap_alloc_new wz (.cells #[.string ⟨#[]⟩, .int .i64 0, .int .i64 0, .string ⟨#[]⟩] 28)
        rw [hbn] at hrow
        simp only [hbn]
        have hge : wr.heap.size ≤ bn := by rw [← hbn]; exact HGz.size
        clear hbn
        generalize wz.alloc (.cells #[.string ⟨#[]⟩, .int .i64 0, .int .i64 0, .string ⟨#[]⟩] 28) = w1 at hrow hg1 ⊢
        refine ⟨HSg.out _ hg1, ?_⟩
        try simp only [Act.put, List.setIfInBounds_toArray, List.set_cons_zero, List.set_cons_succ]
        replace hHeld := HSg.out _ hg1
        clear hS0
        refine u_step 8 (by kernel_rfl) rfl (by rfl) ?_
        go_simp
        refine (HPc.out _ hg1).mono ?_
        rintro e w2 ⟨p9, c9, rfl, ho2, hg⟩
        have hg2 := hg1.trans hg
        replace hrow := hg.block hrow
        clear hg hg1
        refine .inl ⟨_, rfl, HSg.out _ hg2, ?_⟩
        try simp only [Act.put, List.setIfInBounds_toArray, List.set_cons_zero, List.set_cons_succ]
        replace hHeld := HSg.out _ hg2
        refine u_take 9 (v := ?_) rfl rfl (by kernel_rfl) (by kernel_rfl) (by kernel_rfl) (by kernel_rfl) (fun _ _ _ h => h) (by rfl) (by assumption) ?_ ?_
        rotate_left
        · (intro w hSw; (try dsimp only at hSw); go_simp; try with_reducible rfl)
        try simp only [Act.put, List.setIfInBounds_toArray, List.set_cons_zero, List.set_cons_succ]
        refine u_take 10 (v := ?_) rfl rfl (by kernel_rfl) (by kernel_rfl) (by kernel_rfl) (by kernel_rfl) (fun _ _ _ h => h) (by rfl) (by assumption) ?_ ?_
        rotate_left
        · (intro w hSw; (try dsimp only at hSw); go_simp; try with_reducible rfl)
        try simp only [Act.put, List.setIfInBounds_toArray, List.set_cons_zero, List.set_cons_succ]
        refine u_take 11 (v := ?_) rfl rfl (by kernel_rfl) (by kernel_rfl) (by kernel_rfl) (by kernel_rfl) (fun _ _ _ h => h) (by rfl) (by assumption) ?_ ?_
        rotate_left
        · (intro w hSw; (try dsimp only at hSw); go_simp; try with_reducible rfl)
        try simp only [Act.put, List.setIfInBounds_toArray, List.set_cons_zero, List.set_cons_succ]
        refine u_take 12 (v := ?_) rfl rfl (by kernel_rfl) (by kernel_rfl) (by kernel_rfl) (by kernel_rfl) (fun _ _ _ h => h) (by rfl) (by assumption) ?_ ?_
        rotate_left
        · (intro w hSw; (try dsimp only at hSw); go_simp; try with_reducible rfl)
        try simp only [Act.put, List.setIfInBounds_toArray, List.set_cons_zero, List.set_cons_succ]
        refine u_take 13 (v := ?_) rfl rfl (by kernel_rfl) (by kernel_rfl) (by kernel_rfl) (by kernel_rfl) (fun _ _ _ h => h) (by rfl) (by assumption) ?_ ?_
        rotate_left
        · (intro w hSw; (try dsimp only at hSw); go_simp; try with_reducible rfl)
        try simp only [Act.put, List.setIfInBounds_toArray, List.set_cons_zero, List.set_cons_succ]
        have HOa := Lib.hid (ent_apart ho2 Hm.out.symm hm0 HL32.out hrow)
        obtain ⟨m0, m1, m2, m3⟩ := row4 hrow
        obtain ⟨f0, f1, f2, f3⟩ := frozen4 hrow
        refine u_step 15 (by kernel_rfl) rfl (by rfl) ?_
        go_simp
        clear m0 m1 m2 m3 f0 f1 f2 f3
        have hch : Chg (some bn) w2 ((((w2.setCell ⟨bn, 0, none⟩ (.string x.path)).setCell ⟨bn, 1, none⟩ (.int .i64 x.fmt)).setCell ⟨bn, 2, none⟩ (.int .i64 x.len)).setCell ⟨bn, 3, none⟩ (.string x.dig)) := setCells_chg bn [.string x.path, .int .i64 x.fmt, .int .i64 x.len, .string x.dig] 0 w2
        have hrow2 := row_set4 (a' := .string x.path) (b' := .int .i64 x.fmt) (c' := .int .i64 x.len) (d' := .string x.dig) hrow
        have hgx : Gr wr ((((w2.setCell ⟨bn, 0, none⟩ (.string x.path)).setCell ⟨bn, 1, none⟩ (.int .i64 x.fmt)).setCell ⟨bn, 2, none⟩ (.int .i64 x.len)).setCell ⟨bn, 3, none⟩ (.string x.dig)) := gr_step hg2 (Gr.refl _) hch (fun g e => by cases e; exact hge)
        have hO3 : OwnL 0 L (.slice p9 m c9) _ := Own.keep ho2 hch HOa.out
        clear hch hrow ho2 HOa hg2
        generalize ((((w2.setCell ⟨bn, 0, none⟩ (.string x.path)).setCell ⟨bn, 1, none⟩ (.int .i64 x.fmt)).setCell ⟨bn, 2, none⟩ (.int .i64 x.len)).setCell ⟨bn, 3, none⟩ (.string x.dig)) = w3 at hrow2 hgx hO3 ⊢
        refine ⟨HSg.out _ hgx, ?_⟩
        try simp only [Act.put, List.setIfInBounds_toArray, List.set_cons_zero, List.set_cons_succ]
        replace hHeld := HSg.out _ hgx
        refine u_take 16 (v := ?_) rfl rfl (by kernel_rfl) (by kernel_rfl) (by kernel_rfl) (by kernel_rfl) (fun _ _ _ h => h) (by rfl) (by assumption) ?_ ?_
        rotate_left
        · (intro w hSw; (try dsimp only at hSw); go_simp; try with_reducible rfl)
        try simp only [Act.put, List.setIfInBounds_toArray, List.set_cons_zero, List.set_cons_succ]
        refine u_take 17 (v := ?_) rfl rfl (by kernel_rfl) (by kernel_rfl) (by kernel_rfl) (by kernel_rfl) (fun _ _ _ h => h) (by rfl) (by assumption) ?_ ?_
        rotate_left
        · (intro w hSw; (try dsimp only at hSw); go_simp; try with_reducible rfl)
        try simp only [Act.put, List.setIfInBounds_toArray, List.set_cons_zero, List.set_cons_succ]
        refine u_take 18 (v := ?_) rfl rfl (by kernel_rfl) (by kernel_rfl) (by kernel_rfl) (by kernel_rfl) (fun _ _ _ h => h) (by rfl) (by assumption) ?_ ?_
        rotate_left
        · (intro w hSw; (try dsimp only at hSw); go_simp; try with_reducible rfl)
        try simp only [Act.put, List.setIfInBounds_toArray, List.set_cons_zero, List.set_cons_succ]
        refine u_done (by kernel_rfl) ?_ _
        have HC : Hid (BdCut wr x k m L (.pointer (some ⟨bn, 0, none⟩)) (.int .i64 (k : Int)) (.slice p9 m c9) (.int .i64 0) w3) := Lib.hid ⟨bn, p9, c9, rfl, rfl, rfl, rfl, hgx, hrow2, hO3⟩
        refine hK _ _ (Met.intro (hJ _ _ ?_))
        repeat apply Exists.intro
        exact ⟨HC, rfl⟩
    · go_simp
      obtain ⟨bn, hbn⟩ : ∃ z, wz.heap.size = z := ⟨_, rfl⟩
      have hg1 := HGz.trans (Gr.alloc wz (.cells #[.string ⟨#[]⟩, .int .i64 0, .int .i64 0, .string ⟨#[]⟩] 28))
      have hrow := heap_alloc_new wz (.cells #[.string ⟨#[]⟩, .int .i64 0, .int .i64 0, .string ⟨#[]⟩] 28)
      rw [hbn] at hrow
      simp only [hbn]
      have hge : wr.heap.size ≤ bn := by rw [← hbn]; exact HGz.size
      clear hbn
      generalize wz.alloc (.cells #[.string ⟨#[]⟩, .int .i64 0, .int .i64 0, .string ⟨#[]⟩] 28) = w1 at hrow hg1 ⊢
      refine ⟨HSg.out _ hg1, ?_⟩
      try simp only [Act.put, List.setIfInBounds_toArray, List.set_cons_zero, List.set_cons_succ]
      replace hHeld := HSg.out _ hg1
      clear hS0
      refine u_step 5 (by kernel_rfl) rfl (by rfl) ?_
      go_simp
      refine (HPk.out w1).mono ?_
      rintro e w9 ⟨rfl, rfl⟩
      refine .inl ⟨_, rfl, HSg.out _ hg1, ?_⟩
      try simp only [Act.put, List.setIfInBounds_toArray, List.set_cons_zero, List.set_cons_succ]
      refine u_take 6 (v := ?_) rfl rfl (by kernel_rfl) (by kernel_rfl) (by kernel_rfl) (by kernel_rfl) (fun _ _ _ h => h) (by rfl) (by assumption) ?_ ?_
      rotate_left
      · (intro w hSw; obtain ⟨z0, z1, z2, z3⟩ := hSw; go_simp; try with_reducible rfl)
      try simp only [Act.put, List.setIfInBounds_toArray, List.set_cons_zero, List.set_cons_succ]
      refine u_take 7 (v := ?_) rfl rfl (by kernel_rfl) (by kernel_rfl) (by kernel_rfl) (by kernel_rfl) (fun _ _ _ h => h) (by rfl) (by assumption) ?_ ?_
      rotate_left
      · (intro w hSw; obtain ⟨z0, z1, z2, z3⟩ := hSw; go_simp; try with_reducible rfl)
      try simp only [Act.put, List.setIfInBounds_toArray, List.set_cons_zero, List.set_cons_succ]
      refine u_step 8 (by kernel_rfl) rfl (by rfl) ?_
      go_simp
      refine (HPc.out _ hg1).mono ?_
      rintro e w2 ⟨p9, c9, rfl, ho2, hg⟩
      have hg2 := hg1.trans hg
      replace hrow := hg.block hrow
      clear hg hg1
      refine .inl ⟨_, rfl, HSg.out _ hg2, ?_⟩
      try simp only [Act.put, List.setIfInBounds_toArray, List.set_cons_zero, List.set_cons_succ]
      replace hHeld := HSg.out _ hg2
      refine u_take 9 (v := ?_) rfl rfl (by kernel_rfl) (by kernel_rfl) (by kernel_rfl) (by kernel_rfl) (fun _ _ _ h => h) (by rfl) (by assumption) ?_ ?_
      rotate_left
      · (intro w hSw; (try dsimp only at hSw); go_simp; try with_reducible rfl)
      try simp only [Act.put, List.setIfInBounds_toArray, List.set_cons_zero, List.set_cons_succ]
      refine u_take 10 (v := ?_) rfl rfl (by kernel_rfl) (by kernel_rfl) (by kernel_rfl) (by kernel_rfl) (fun _ _ _ h => h) (by rfl) (by assumption) ?_ ?_
      rotate_left
      · (intro w hSw; (try dsimp only at hSw); go_simp; try with_reducible rfl)
      try simp only [Act.put, List.setIfInBounds_toArray, List.set_cons_zero, List.set_cons_succ]
      refine u_take 11 (v := ?_) rfl rfl (by kernel_rfl) (by kernel_rfl) (by kernel_rfl) (by kernel_rfl) (fun _ _ _ h => h) (by rfl) (by assumption) ?_ ?_
      rotate_left
      · (intro w hSw; (try dsimp only at hSw); go_simp; try with_reducible rfl)
      try simp only [Act.put, List.setIfInBounds_toArray, List.set_cons_zero, List.set_cons_succ]
      refine u_take 12 (v := ?_) rfl rfl (by kernel_rfl) (by kernel_rfl) (by kernel_rfl) (by kernel_rfl) (fun _ _ _ h => h) (by rfl) (by assumption) ?_ ?_
      rotate_left
      · (intro w hSw; (try dsimp only at hSw); go_simp; try with_reducible rfl)
      try simp only [Act.put, List.setIfInBounds_toArray, List.set_cons_zero, List.set_cons_succ]
      refine u_take 13 (v := ?_) rfl rfl (by kernel_rfl) (by kernel_rfl) (by kernel_rfl) (by kernel_rfl) (fun _ _ _ h => h) (by rfl) (by assumption) ?_ ?_
      rotate_left
      · (intro w hSw; (try dsimp only at hSw); go_simp; try with_reducible rfl)
      try simp only [Act.put, List.setIfInBounds_toArray, List.set_cons_zero, List.set_cons_succ]
      have HOa := Lib.hid (ent_apart ho2 Hm.out.symm hm0 HL32.out hrow)
      obtain ⟨m0, m1, m2, m3⟩ := row4 hrow
      obtain ⟨f0, f1, f2, f3⟩ := frozen4 hrow
      refine u_step 15 (by kernel_rfl) rfl (by rfl) ?_
      go_simp
      clear m0 m1 m2 m3 f0 f1 f2 f3
      have hch : Chg (some bn) w2 ((((w2.setCell ⟨bn, 0, none⟩ (.string x.path)).setCell ⟨bn, 1, none⟩ (.int .i64 x.fmt)).setCell ⟨bn, 2, none⟩ (.int .i64 x.len)).setCell ⟨bn, 3, none⟩ (.string x.dig)) := setCells_chg bn [.string x.path, .int .i64 x.fmt, .int .i64 x.len, .string x.dig] 0 w2
      have hrow2 := row_set4 (a' := .string x.path) (b' := .int .i64 x.fmt) (c' := .int .i64 x.len) (d' := .string x.dig) hrow
      have hgx : Gr wr ((((w2.setCell ⟨bn, 0, none⟩ (.string x.path)).setCell ⟨bn, 1, none⟩ (.int .i64 x.fmt)).setCell ⟨bn, 2, none⟩ (.int .i64 x.len)).setCell ⟨bn, 3, none⟩ (.string x.dig)) := gr_step hg2 (Gr.refl _) hch (fun g e => by cases e; exact hge)
      have hO3 : OwnL 0 L (.slice p9 m c9) _ := Own.keep ho2 hch HOa.out
      clear hch hrow ho2 HOa hg2
      generalize ((((w2.setCell ⟨bn, 0, none⟩ (.string x.path)).setCell ⟨bn, 1, none⟩ (.int .i64 x.fmt)).setCell ⟨bn, 2, none⟩ (.int .i64 x.len)).setCell ⟨bn, 3, none⟩ (.string x.dig)) = w3 at hrow2 hgx hO3 ⊢
      refine ⟨HSg.out _ hgx, ?_⟩
      try simp only [Act.put, List.setIfInBounds_toArray, List.set_cons_zero, List.set_cons_succ]
      replace hHeld := HSg.out _ hgx
      refine u_take 16 (v := ?_) rfl rfl (by kernel_rfl) (by kernel_rfl) (by kernel_rfl) (by kernel_rfl) (fun _ _ _ h => h) (by rfl) (by assumption) ?_ ?_
      rotate_left
      · (intro w hSw; (try dsimp only at hSw); go_simp; try with_reducible rfl)
      try simp only [Act.put, List.setIfInBounds_toArray, List.set_cons_zero, List.set_cons_succ]
      refine u_take 17 (v := ?_) rfl rfl (by kernel_rfl) (by kernel_rfl) (by kernel_rfl) (by kernel_rfl) (fun _ _ _ h => h) (by rfl) (by assumption) ?_ ?_
      rotate_left
      · (intro w hSw; (try dsimp only at hSw); go_simp; try with_reducible rfl)
      try simp only [Act.put, List.setIfInBounds_toArray, List.set_cons_zero, List.set_cons_succ]
      refine u_take 18 (v := ?_) rfl rfl (by kernel_rfl) (by kernel_rfl) (by kernel_rfl) (by kernel_rfl) (fun _ _ _ h => h) (by rfl) (by assumption) ?_ ?_
      rotate_left
      · (intro w hSw; (try dsimp only at hSw); go_simp; try with_reducible rfl)
      try simp only [Act.put, List.setIfInBounds_toArray, List.set_cons_zero, List.set_cons_succ]
      refine u_done (by kernel_rfl) ?_ _
      have HC : Hid (BdCut wr x k m L (.pointer (some ⟨bn, 0, none⟩)) (.int .i64 (k : Int)) (.slice p9 m c9) (.int .i64 0) w3) := Lib.hid ⟨bn, p9, c9, rfl, rfl, rfl, rfl, hgx, hrow2, hO3⟩
      refine hK _ _ (Met.intro (hJ _ _ ?_))
      repeat apply Exists.intro
      exact ⟨HC, rfl⟩
  clear HSg HPc HPk
  obtain ⟨bn, p3, c3, rfl, rfl, rfl, rfl, hgc, hrow, hO⟩ := hcut.out
  replace HM := Lib.hid (HM.out.gr hgc)
  replace HA := Lib.hid (HA.out.gr hgc)
  replace HB := Lib.hid (HB.out.gr hgc)
  replace HPA := Lib.hid (HPA.out.gr hgc)
  replace HPB := Lib.hid (HPB.out.gr hgc)
  have HX := Lib.hid hrow
  have HO := Lib.hid hO.strs
  clear hcut hgc hrow hO
  obtain ⟨k0, k1, k2⟩ := row3 HM.out.r
  obtain ⟨y0, y1, y2, y3⟩ := row4 HX.out
  go_upto_region 9 with fail
  clear k0 k1 k2 y0 y1 y2 y3
  obtain ⟨bo, hbo⟩ : ∃ z, wc.heap.size = z := ⟨_, rfl⟩
  have hrow := heap_alloc_new wc (.cells (clV I J x (.slice p3 m c3)).toArray 59)
  rw [hbo] at hrow
  simp only [hbo]
  have hgz := Gr.alloc wc (.cells (clV I J x (.slice p3 m c3)).toArray 59)
  have HOw : Hid (ClAt bo I J x (.slice p3 m c3) _) := Lib.hid hrow
  replace HM := Lib.hid (HM.out.gr hgz)
  replace HA := Lib.hid (HA.out.gr hgz)
  replace HB := Lib.hid (HB.out.gr hgz)
  replace HPA := Lib.hid (HPA.out.gr hgz)
  replace HPB := Lib.hid (HPB.out.gr hgz)
  replace HO := Lib.hid (HO.out.gr hgz)
  clear hrow hgz hbo HX
  obtain ⟨w8, hw8⟩ : ∃ z, wc.alloc (.cells (clV I J x (.slice p3 m c3)).toArray 59) = z := ⟨_, rfl⟩
  rw [hw8] at HOw HM HA HB HPA HPB HO
  rw [show wc.alloc (.cells #[.int .i64 I, .int .i64 J, .string x.path, .int .i64 x.fmt, .int .i64 x.len, .string x.dig, .slice p3 m c3] 59) = w8 from hw8]
  clear hw8
  have HOka : Hid (ClOk (.slice qA mA dA) PA xa mA w8) := Lib.hid ⟨HPA.out, HAz.out.1, by have := HAz.out.2.1; omega, fun y hy => Nat.le_trans (HAz.out.2.2 y hy) (by decide), Nat.le_trans hap (by decide)⟩
  have HOkb : Hid (ClOk (.slice qB mB dB) PB xb mB w8) := Lib.hid ⟨HPB.out, HBz.out.1, by have := HBz.out.2.1; omega, fun y hy => Nat.le_trans (HBz.out.2.2 y hy) (by decide), Nat.le_trans hbp (by decide)⟩
  have HOko : Hid (ClOk (.slice p3 m c3) L x m w8) := Lib.hid ⟨HO.out, Hm.out, hmL, fun y hy => by rw [HL32.out y hy]; decide, Hxps.out⟩
  have HOkm : Hid (ClOk (.slice p3 m c3) L xb m w8) := Lib.hid ⟨HO.out, Hm.out, hmL, fun y hy => by rw [HL32.out y hy]; decide, Nat.le_trans hbp (by decide)⟩
  clear HPA HPB HO HAz HBz Hm hmL HL32 Hxps hap hbp i0 i1
  have HRt := Lib.hid (fun (y : World) (hg : Gr w8 y) => rootM_any I J _ E y (HM.out.gr hg).e (by rw [HF.out.eLen]; omega) HF.out.ePath (HT.out.gr (HM.out.gr hg).g))
  obtain ⟨R, hR⟩ : ∃ R, rootP I J E = R := ⟨_, rfl⟩
  rw [hR] at HRt
  clear hR
  obtain ⟨xaP, xaF, xaL, xaD⟩ := xa
  obtain ⟨xbP, xbF, xbL, xbD⟩ := xb
  obtain ⟨xP, xF, xL, xD⟩ := x
  have S0 : ∀ q : GrS w8.drew, q.w.cell? ⟨b, 0, none⟩ = some (.int .i64 I) := fun q => q.h.cell (w := w8.drew) (row3 HM.out.r).1
  have S1 : ∀ q : GrS w8.drew, q.w.cell? ⟨b, 1, none⟩ = some (.int .i64 J) := fun q => q.h.cell (w := w8.drew) (row3 HM.out.r).2.1
  have S2 : ∀ q : GrS w8.drew, q.w.cell? ⟨b, 2, none⟩ = some (.slice p n c) := fun q => q.h.cell (w := w8.drew) (row3 HM.out.r).2.2
  have A0 : ∀ q : GrS w8.drew, q.w.cell? ⟨x1, 0, none⟩ = some (.int .i64 aI) := fun q => q.h.cell (w := w8.drew) (HA.out.cells).1
  have A1 : ∀ q : GrS w8.drew, q.w.cell? ⟨x1, 1, none⟩ = some (.int .i64 aJ) := fun q => q.h.cell (w := w8.drew) (HA.out.cells).2.1
  have A2 : ∀ q : GrS w8.drew, q.w.cell? ⟨x1, 2, none⟩ = some (.string xaP) := fun q => q.h.cell (w := w8.drew) (HA.out.cells).2.2.1
  have A3 : ∀ q : GrS w8.drew, q.w.cell? ⟨x1, 3, none⟩ = some (.int .i64 xaF) := fun q => q.h.cell (w := w8.drew) (HA.out.cells).2.2.2.1
  have A4 : ∀ q : GrS w8.drew, q.w.cell? ⟨x1, 4, none⟩ = some (.int .i64 xaL) := fun q => q.h.cell (w := w8.drew) (HA.out.cells).2.2.2.2.1
  have A5 : ∀ q : GrS w8.drew, q.w.cell? ⟨x1, 5, none⟩ = some (.string xaD) := fun q => q.h.cell (w := w8.drew) (HA.out.cells).2.2.2.2.2.1
  have A6 : ∀ q : GrS w8.drew, q.w.cell? ⟨x1, 6, none⟩ = some (.slice qA mA dA) := fun q => q.h.cell (w := w8.drew) (HA.out.cells).2.2.2.2.2.2
  have B0 : ∀ q : GrS w8.drew, q.w.cell? ⟨x2, 0, none⟩ = some (.int .i64 bI) := fun q => q.h.cell (w := w8.drew) (HB.out.cells).1
  have B1 : ∀ q : GrS w8.drew, q.w.cell? ⟨x2, 1, none⟩ = some (.int .i64 bJ) := fun q => q.h.cell (w := w8.drew) (HB.out.cells).2.1
  have B2 : ∀ q : GrS w8.drew, q.w.cell? ⟨x2, 2, none⟩ = some (.string xbP) := fun q => q.h.cell (w := w8.drew) (HB.out.cells).2.2.1
  have B3 : ∀ q : GrS w8.drew, q.w.cell? ⟨x2, 3, none⟩ = some (.int .i64 xbF) := fun q => q.h.cell (w := w8.drew) (HB.out.cells).2.2.2.1
  have B4 : ∀ q : GrS w8.drew, q.w.cell? ⟨x2, 4, none⟩ = some (.int .i64 xbL) := fun q => q.h.cell (w := w8.drew) (HB.out.cells).2.2.2.2.1
  have B5 : ∀ q : GrS w8.drew, q.w.cell? ⟨x2, 5, none⟩ = some (.string xbD) := fun q => q.h.cell (w := w8.drew) (HB.out.cells).2.2.2.2.2.1
  have B6 : ∀ q : GrS w8.drew, q.w.cell? ⟨x2, 6, none⟩ = some (.slice qB mB dB) := fun q => q.h.cell (w := w8.drew) (HB.out.cells).2.2.2.2.2.2
  have O0 : ∀ q : GrS w8.drew, q.w.cell? ⟨bo, 0, none⟩ = some (.int .i64 I) := fun q => q.h.cell (w := w8.drew) (HOw.out.cells).1
  have O1 : ∀ q : GrS w8.drew, q.w.cell? ⟨bo, 1, none⟩ = some (.int .i64 J) := fun q => q.h.cell (w := w8.drew) (HOw.out.cells).2.1
  have O2 : ∀ q : GrS w8.drew, q.w.cell? ⟨bo, 2, none⟩ = some (.string xP) := fun q => q.h.cell (w := w8.drew) (HOw.out.cells).2.2.1
  have O3 : ∀ q : GrS w8.drew, q.w.cell? ⟨bo, 3, none⟩ = some (.int .i64 xF) := fun q => q.h.cell (w := w8.drew) (HOw.out.cells).2.2.2.1
  have O4 : ∀ q : GrS w8.drew, q.w.cell? ⟨bo, 4, none⟩ = some (.int .i64 xL) := fun q => q.h.cell (w := w8.drew) (HOw.out.cells).2.2.2.2.1
  have O5 : ∀ q : GrS w8.drew, q.w.cell? ⟨bo, 5, none⟩ = some (.string xD) := fun q => q.h.cell (w := w8.drew) (HOw.out.cells).2.2.2.2.2.1
  have O6 : ∀ q : GrS w8.drew, q.w.cell? ⟨bo, 6, none⟩ = some (.slice p3 m c3) := fun q => q.h.cell (w := w8.drew) (HOw.out.cells).2.2.2.2.2.2
  refine region_grow 34 224 (by kernel_rfl) rfl (by kernel_rfl) rfl rfl ?_
  simp only [List.take_succ_cons, List.take_zero, List.drop_succ_cons, List.drop_zero]
  refine seg 5 rfl rfl rfl rfl ?_
  simp only [List.take_succ_cons, List.take_zero, List.drop_succ_cons, List.drop_zero]
  repeat (go_big_quiet_step (fail))
  refine wpQuiet_nil ?_
  intro _
  refine grow_det (v := .agg #[.string root, .int .i64 count, .int .i64 index, .int .i64 aI, .int .i64 aJ, .string xaP, .int .i64 xaF, .int .i64 xaL, .string xaD, .slice qA mA dA, .int .i64 bI, .int .i64 bJ, .string xbP, .int .i64 xbF, .int .i64 xbL, .string xbD, .slice qB mB dB]) rfl rfl rfl rfl rfl ?_ ?_
  · intro w1 hG
    go_simp
  simp only [Act.put, List.setIfInBounds_toArray, List.set_cons_zero, List.set_cons_succ]
  refine seg 1 rfl rfl rfl rfl ?_
  simp only [List.take_succ_cons, List.take_zero, List.drop_succ_cons, List.drop_zero]
  repeat (go_big_quiet_step (fail))
  refine wpQuiet_nil ?_
  intro _
  refine grow_det (v := .string R) rfl rfl rfl rfl rfl ?_ ?_
  · intro w1 hG
    go_simp
    refine (HRt.out w1 ((Gr.drew w8).trans hG)).mono ?_
    rintro e w' ⟨rfl, hb⟩
    exact ⟨rfl, hb⟩
  simp only [Act.put, List.setIfInBounds_toArray, List.set_cons_zero, List.set_cons_succ]
  refine seg 6 rfl rfl rfl rfl ?_
  simp only [List.take_succ_cons, List.take_zero, List.drop_succ_cons, List.drop_zero]
  repeat (go_big_quiet_step (fail))
  refine wpQuiet_nil ?_
  intro _
  refine grow_det (v := .agg #[.string R, .int .i64 (n : Int), .int .i64 (k : Int), .int .i64 I, .int .i64 J, .string xP, .int .i64 xF, .int .i64 xL, .string xD, .slice p3 m c3, .int .i64 aI, .int .i64 aJ, .string xaP, .int .i64 xaF, .int .i64 xaL, .string xaD, .slice qA mA dA]) rfl rfl rfl rfl rfl ?_ ?_
  · intro w1 hG
    go_simp
  simp only [Act.put, List.setIfInBounds_toArray, List.set_cons_zero, List.set_cons_succ]
  refine seg 1 rfl rfl rfl rfl ?_
  simp only [List.take_succ_cons, List.take_zero, List.drop_succ_cons, List.drop_zero]
  repeat (go_big_quiet_step (fail))
  refine wpQuiet_nil ?_
  intro _
  refine grow_det (v := .string R) rfl rfl rfl rfl rfl ?_ ?_
  · intro w1 hG
    go_simp
    refine (HRt.out w1 ((Gr.drew w8).trans hG)).mono ?_
    rintro e w' ⟨rfl, hb⟩
    exact ⟨rfl, hb⟩
  simp only [Act.put, List.setIfInBounds_toArray, List.set_cons_zero, List.set_cons_succ]
  refine seg 12 rfl rfl rfl rfl ?_
  simp only [List.take_succ_cons, List.take_zero, List.drop_succ_cons, List.drop_zero]
  repeat (go_big_quiet_step (fail))
  refine wpQuiet_nil ?_
  intro _
  refine grow_det (v := .agg #[.int .i64 bI, .int .i64 J, .string xbP, .int .i64 xbF, .int .i64 xbL, .string xbD, .slice p3 m c3]) rfl rfl rfl rfl rfl ?_ ?_
  · intro w1 hG
    go_simp
  simp only [Act.put, List.setIfInBounds_toArray, List.set_cons_zero, List.set_cons_succ]
  refine grow_det (v := .agg #[.string R, .int .i64 (n : Int), .int .i64 (k : Int), .int .i64 I, .int .i64 J, .string xP, .int .i64 xF, .int .i64 xL, .string xD, .slice p3 m c3, .int .i64 bI, .int .i64 J, .string xbP, .int .i64 xbF, .int .i64 xbL, .string xbD, .slice p3 m c3]) rfl rfl rfl rfl rfl ?_ ?_
  · intro w1 hG
    go_simp
  simp only [Act.put, List.setIfInBounds_toArray, List.set_cons_zero, List.set_cons_succ]
  refine grow_open (TrB (rV root count index (clV aI aJ ⟨xaP, xaF, xaL, xaD⟩ (.slice qA mA dA)) (clV bI bJ ⟨xbP, xbF, xbL, xbD⟩ (.slice qB mB dB)) ++ (rV R n k (clV I J ⟨xP, xF, xL, xD⟩ (.slice p3 m c3)) (clV aI aJ ⟨xaP, xaF, xaL, xaD⟩ (.slice qA mA dA)) ++ rV R n k (clV I J ⟨xP, xF, xL, xD⟩ (.slice p3 m c3)) (clV bI J ⟨xbP, xbF, xbL, xbD⟩ (.slice p3 m c3))))) rfl rfl rfl rfl (TrB.stb _) (fun w1 hG => ?_) ?_
  · go_simp
    exact ⟨_, _, rfl, heap_alloc_new _ _⟩
  refine grow_det1 108 (v := .int .i64 3) rfl (by decide) rfl rfl rfl (by decide) rfl rfl rfl (fun w1 u hG hu => ?_) ?_
  · obtain ⟨b', t', rfl, -⟩ := hu
    simp only [Act.put, List.setIfInBounds_toArray, List.set_cons_zero, List.set_cons_succ]
    go_simp
  simp only [Act.put, List.setIfInBounds_toArray, List.set_cons_zero, List.set_cons_succ]
  refine seg 1 rfl rfl rfl rfl ?_
  simp only [List.take_succ_cons, List.take_zero, List.drop_succ_cons, List.drop_zero]
  repeat (go_big_quiet_step (fail))
  refine wpQuiet_nil ?_
  intro _
  refine grow_pop rfl (by decide) rfl (fun u108 => ?_)
  simp only [Act.put, List.setIfInBounds_toArray, List.set_cons_zero, List.set_cons_succ]
  refine grow_end0 rfl rfl (fun w9 hG h108 => ?_)
  obtain ⟨b9, t9, rfl, hb9⟩ := h108
  have hg9 := (Gr.drew w8).trans hG
  have HR9 := Lib.hid (three17 rfl rfl hb9)
  replace HOka := Lib.hid (HOka.out.gr hg9)
  replace HOkb := Lib.hid (HOkb.out.gr hg9)
  replace HOko := Lib.hid (HOko.out.gr hg9)
  replace HOkm := Lib.hid (HOkm.out.gr hg9)
  have HG9 := Lib.hid (HM.out.g.trans hg9)
  clear hG hg9 hb9 S0 S1 S2 A0 A1 A2 A3 A4 A5 A6 B0 B1 B2 B3 B4 B5 B6 O0 O1 O2 O3 O4 O5 O6 HRt HM HA HB HOw
  go_wp2_with fail
  go_loopw [25, 26, 27, 28, 110] (fun _ _ _ _ v110 W => ∃ (k : Nat), k ≤ 3 ∧ v110 = .int .i64 (k : Int) ∧ Hid (Gr w9 W)) (fun _ _ _ _ v110 _ => 3 - (intOf v110).toNat)
  case atStart => exact ⟨0, by omega, rfl, Lib.hid (Gr.refl _)⟩
  case round =>
    obtain ⟨k9, hk9, rfl, HG⟩ := hrel
    by_cases hlt9 : k9 < 3
    · have ht : decide (k9 < 3) = true := decide_eq_true hlt9
      have ht' : decide ((k9 : Int) < 3) = true := decide_eq_true (by omega)
      obtain ⟨rt, ct, ix, oI, oJ, oE, pO, mO, cO, oL, tI, tJ, tE, pT, mT, cT, tL, hR9⟩ : ∃ rt ct ix oI oJ oE pO mO cO oL tI tJ tE pT mT cT tL, RndB b9 k9 rt ct ix oI oJ oE pO mO cO oL tI tJ tE pT mT cT tL wr := by
        match k9, hlt9 with
        | 0, _ => exact ⟨root, count, index, aI, aJ, _, qA, mA, dA, PA, bI, bJ, _, qB, mB, dB, PB, fun j u hj hl => HG.out.cell (HR9.out 0 _ rfl j u hj hl), HOka.out.gr HG.out, HOkb.out.gr HG.out, hct.2⟩
        | 1, _ => exact ⟨R, n, k, I, J, _, p3, m, c3, L, aI, aJ, _, qA, mA, dA, PA, fun j u hj hl => HG.out.cell (HR9.out 1 _ rfl j u hj hl), HOko.out.gr HG.out, HOka.out.gr HG.out, by omega⟩
        | 2, _ => exact ⟨R, n, k, I, J, _, p3, m, c3, L, bI, J, _, p3, m, c3, L, fun j u hj hl => HG.out.cell (HR9.out 2 _ rfl j u hj hl), HOko.out.gr HG.out, HOkm.out.gr HG.out, by omega⟩
      obtain ⟨oP, oF, oN, oD⟩ := oE
      obtain ⟨tP, tF, tN, tD⟩ := tE
      have hc17 := hR9.c
      have Ho := Lib.hid hR9.o
      have Ht := Lib.hid hR9.t
      have hct9 := hR9.h
      have c0 : wr.cell? ⟨b9, k9 * 17, none⟩ = some (.string rt) := hc17 0 _ rfl (by decide)
      have c1 : wr.cell? ⟨b9, k9 * 17 + 1, none⟩ = some (.int .i64 ct) := hc17 1 _ rfl (by decide)
      have c2 : wr.cell? ⟨b9, k9 * 17 + 2, none⟩ = some (.int .i64 ix) := hc17 2 _ rfl (by decide)
      have c3 : wr.cell? ⟨b9, k9 * 17 + 3, none⟩ = some (.int .i64 oI) := hc17 3 _ rfl (by decide)
      have c4 : wr.cell? ⟨b9, k9 * 17 + 4, none⟩ = some (.int .i64 oJ) := hc17 4 _ rfl (by decide)
      have c5 : wr.cell? ⟨b9, k9 * 17 + 5, none⟩ = some (.string oP) := hc17 5 _ rfl (by decide)
      have c6 : wr.cell? ⟨b9, k9 * 17 + 6, none⟩ = some (.int .i64 oF) := hc17 6 _ rfl (by decide)
      have c7 : wr.cell? ⟨b9, k9 * 17 + 7, none⟩ = some (.int .i64 oN) := hc17 7 _ rfl (by decide)
      have c8 : wr.cell? ⟨b9, k9 * 17 + 8, none⟩ = some (.string oD) := hc17 8 _ rfl (by decide)
      have c9 : wr.cell? ⟨b9, k9 * 17 + 9, none⟩ = some (.slice pO mO cO) := hc17 9 _ rfl (by decide)
      have c10 : wr.cell? ⟨b9, k9 * 17 + 10, none⟩ = some (.int .i64 tI) := hc17 10 _ rfl (by decide)
      have c11 : wr.cell? ⟨b9, k9 * 17 + 11, none⟩ = some (.int .i64 tJ) := hc17 11 _ rfl (by decide)
      have c12 : wr.cell? ⟨b9, k9 * 17 + 12, none⟩ = some (.string tP) := hc17 12 _ rfl (by decide)
      have c13 : wr.cell? ⟨b9, k9 * 17 + 13, none⟩ = some (.int .i64 tF) := hc17 13 _ rfl (by decide)
      have c14 : wr.cell? ⟨b9, k9 * 17 + 14, none⟩ = some (.int .i64 tN) := hc17 14 _ rfl (by decide)
      have c15 : wr.cell? ⟨b9, k9 * 17 + 15, none⟩ = some (.string tD) := hc17 15 _ rfl (by decide)
      have c16 : wr.cell? ⟨b9, k9 * 17 + 16, none⟩ = some (.slice pT mT cT) := hc17 16 _ rfl (by decide)
      clear hc17 hR9
      have i0 : (0 : Int) ≤ (k9 : Int) := by omega
      have i1 : (k9 : Int) < 3 := by omega
      obtain ⟨C17, hC17⟩ : ∃ z : List Value, z = [.string rt, .int .i64 ct, .int .i64 ix, .int .i64 oI, .int .i64 oJ, .string oP, .int .i64 oF, .int .i64 oN, .string oD, .slice pO mO cO, .int .i64 tI, .int .i64 tJ, .string tP, .int .i64 tF, .int .i64 tN, .string tD, .slice pT mT cT] := ⟨_, rfl⟩
      have hone : C17.toArray.all (·.oneCell') = true := by
        rw [hC17]
        refine all_oneCell_toArray ?_
        repeat (refine List.forall_mem_cons.2 ⟨rfl, ?_⟩)
        exact fun u hu => by cases hu
      have hlen : C17.toArray.size = 17 := by rw [hC17]; rfl
      go_upto_region 12 with ((with_reducible show wpList _ _ _ (⟨none, .store 60 _ _, _, _, _, _⟩ :: _) _ _); refine wpList_store_mid rfl 60 (.tmp 25) (.tmp 113) rfl wr.heap.size 0 C17.toArray rfl ?hyC ?htC ?hiC hone ?_)
      case hyC => rw [hC17]; rfl
      case htC => rw [hlen]; exact there_new wr _ _ 17 (by decide)
      case hiC => rw [hlen]; exact info17 Tryz.prog rfl
      simp only [Act.put]
      clear c0 c1 c2 c3 c4 c5 c6 c7 c8 c9 c10 c11 c12 c13 c14 c15 c16
      obtain ⟨bp, hbp⟩ : ∃ z, wr.heap.size = z := ⟨_, rfl⟩
      simp only [hbp]
      refine wp_gen (F := fun y => Gr wr y ∧ CsAt bp C17 y) ⟨?hgC, ?hcC⟩ ?_
      case hgC => exact gr_step (Gr.alloc wr _) (Gr.refl _) (setCells_chg bp _ 0 _) (fun g e => by cases e; omega)
      case hcC => exact csAt_set _ bp C17 (by have h1 : C17.length = 17 := hlen; rw [h1, ← hbp]; exact there_new wr _ _ 17 (by decide))
      rintro wa ⟨hga, hrow⟩
      clear hbp hone hlen
      subst hC17
      have HBp := Lib.hid hrow
      have HGa := Lib.hid (HG.out.trans hga)
      replace Ho := Lib.hid (Ho.out.gr hga)
      replace Ht := Lib.hid (Ht.out.gr hga)
      clear hrow hga HG
      have HV1 := Lib.hid (fun (y : World) (hg : Gr wa y) => verifyM_any rt oI oJ ct ix ⟨oP, oF, oN, oD⟩ _ oL y (Ho.out.s.gr hg) (by rw [Ho.out.l]; have := Ho.out.n; omega) hct9 (Nat.le_trans Ho.out.p (by decide)) Ho.out.z (HT.out.gr ((HG9.out.trans HGa.out).trans hg)))
      have HV2 := Lib.hid (fun (y : World) (hg : Gr wa y) => verifyM_any rt tI tJ ct ix ⟨tP, tF, tN, tD⟩ _ tL y (Ht.out.s.gr hg) (by rw [Ht.out.l]; have := Ht.out.n; omega) hct9 (Nat.le_trans Ht.out.p (by decide)) Ht.out.z (HT.out.gr ((HG9.out.trans HGa.out).trans hg)))
      obtain ⟨B1, hB1⟩ : ∃ z, verM rt oI oJ ct ix ⟨oP, oF, oN, oD⟩ oL = z := ⟨_, rfl⟩
      obtain ⟨B2, hB2⟩ : ∃ z, verM rt tI tJ ct ix ⟨tP, tF, tN, tD⟩ tL = z := ⟨_, rfl⟩
      rw [hB1] at HV1
      rw [hB2] at HV2
      have HB1 := Lib.hid hB1
      have HB2 := Lib.hid hB2
      clear hB1 hB2
      have r0 : wa.cell? ⟨bp, 0, none⟩ = some (.string rt) := HBp.out 0 _ rfl
      have r1 : wa.cell? ⟨bp, 1, none⟩ = some (.int .i64 ct) := HBp.out 1 _ rfl
      have r2 : wa.cell? ⟨bp, 2, none⟩ = some (.int .i64 ix) := HBp.out 2 _ rfl
      have r3 : wa.cell? ⟨bp, 3, none⟩ = some (.int .i64 oI) := HBp.out 3 _ rfl
      have r4 : wa.cell? ⟨bp, 4, none⟩ = some (.int .i64 oJ) := HBp.out 4 _ rfl
      have r5 : wa.cell? ⟨bp, 5, none⟩ = some (.string oP) := HBp.out 5 _ rfl
      have r6 : wa.cell? ⟨bp, 6, none⟩ = some (.int .i64 oF) := HBp.out 6 _ rfl
      have r7 : wa.cell? ⟨bp, 7, none⟩ = some (.int .i64 oN) := HBp.out 7 _ rfl
      have r8 : wa.cell? ⟨bp, 8, none⟩ = some (.string oD) := HBp.out 8 _ rfl
      have r9 : wa.cell? ⟨bp, 9, none⟩ = some (.slice pO mO cO) := HBp.out 9 _ rfl
      have r10 : wa.cell? ⟨bp, 10, none⟩ = some (.int .i64 tI) := HBp.out 10 _ rfl
      have r11 : wa.cell? ⟨bp, 11, none⟩ = some (.int .i64 tJ) := HBp.out 11 _ rfl
      have r12 : wa.cell? ⟨bp, 12, none⟩ = some (.string tP) := HBp.out 12 _ rfl
      have r13 : wa.cell? ⟨bp, 13, none⟩ = some (.int .i64 tF) := HBp.out 13 _ rfl
      have r14 : wa.cell? ⟨bp, 14, none⟩ = some (.int .i64 tN) := HBp.out 14 _ rfl
      have r15 : wa.cell? ⟨bp, 15, none⟩ = some (.string tD) := HBp.out 15 _ rfl
      have r16 : wa.cell? ⟨bp, 16, none⟩ = some (.slice pT mT cT) := HBp.out 16 _ rfl
      go_wp2_with fail
      clear r0 r1 r2 r3 r4 r5 r6 r7 r8 r9 r10 r11 r12 r13 r14 r15 r16
      refine (HV1.out wa (Gr.refl _)).mono ?_
      rintro e wb ⟨rfl, hgb⟩
      replace HBp := Lib.hid (HBp.out.gr hgb)
      have HGb := Lib.hid hgb
      clear hgb HV1
      have r0 : wb.cell? ⟨bp, 0, none⟩ = some (.string rt) := HBp.out 0 _ rfl
      have r1 : wb.cell? ⟨bp, 1, none⟩ = some (.int .i64 ct) := HBp.out 1 _ rfl
      have r2 : wb.cell? ⟨bp, 2, none⟩ = some (.int .i64 ix) := HBp.out 2 _ rfl
      have r3 : wb.cell? ⟨bp, 3, none⟩ = some (.int .i64 oI) := HBp.out 3 _ rfl
      have r4 : wb.cell? ⟨bp, 4, none⟩ = some (.int .i64 oJ) := HBp.out 4 _ rfl
      have r5 : wb.cell? ⟨bp, 5, none⟩ = some (.string oP) := HBp.out 5 _ rfl
      have r6 : wb.cell? ⟨bp, 6, none⟩ = some (.int .i64 oF) := HBp.out 6 _ rfl
      have r7 : wb.cell? ⟨bp, 7, none⟩ = some (.int .i64 oN) := HBp.out 7 _ rfl
      have r8 : wb.cell? ⟨bp, 8, none⟩ = some (.string oD) := HBp.out 8 _ rfl
      have r9 : wb.cell? ⟨bp, 9, none⟩ = some (.slice pO mO cO) := HBp.out 9 _ rfl
      have r10 : wb.cell? ⟨bp, 10, none⟩ = some (.int .i64 tI) := HBp.out 10 _ rfl
      have r11 : wb.cell? ⟨bp, 11, none⟩ = some (.int .i64 tJ) := HBp.out 11 _ rfl
      have r12 : wb.cell? ⟨bp, 12, none⟩ = some (.string tP) := HBp.out 12 _ rfl
      have r13 : wb.cell? ⟨bp, 13, none⟩ = some (.int .i64 tF) := HBp.out 13 _ rfl
      have r14 : wb.cell? ⟨bp, 14, none⟩ = some (.int .i64 tN) := HBp.out 14 _ rfl
      have r15 : wb.cell? ⟨bp, 15, none⟩ = some (.string tD) := HBp.out 15 _ rfl
      have r16 : wb.cell? ⟨bp, 16, none⟩ = some (.slice pT mT cT) := HBp.out 16 _ rfl
      go_wp2_with fail
      clear r0 r1 r2 r3 r4 r5 r6 r7 r8 r9 r10 r11 r12 r13 r14 r15 r16
      refine (HV2.out wb HGb.out).mono ?_
      rintro e wd ⟨rfl, hgd⟩
      replace HBp := Lib.hid (HBp.out.gr hgd)
      have HGd := Lib.hid (HGb.out.trans hgd)
      clear hgd HV2 HGb
      obtain ⟨SB, hSB⟩ : ∃ z, decide (oI = tI ∧ oJ = tJ ∧ (⟨oP, oF, oN, oD⟩ : En) = ⟨tP, tF, tN, tD⟩) = z := ⟨_, rfl⟩
      have HSB := Lib.hid hSB
      have HF : Hid (¬(oI = tI ∧ oJ = tJ ∧ (⟨oP, oF, oN, oD⟩ : En) = ⟨tP, tF, tN, tD⟩) → SB = false) := Lib.hid (fun h => by rw [← hSB]; exact decide_eq_false h)
      clear hSB
      go_upto_region 14 with fail
      go_cut [28] from 152 to 176 (fun v28 wx => Hid (v28 = .bool SB ∧ wx = wd))
      case first =>
        rename_i JJ KK hJ hK
        have r0 : wd.cell? ⟨bp, 0, none⟩ = some (.string rt) := HBp.out 0 _ rfl
        have r1 : wd.cell? ⟨bp, 1, none⟩ = some (.int .i64 ct) := HBp.out 1 _ rfl
        have r2 : wd.cell? ⟨bp, 2, none⟩ = some (.int .i64 ix) := HBp.out 2 _ rfl
        have r3 : wd.cell? ⟨bp, 3, none⟩ = some (.int .i64 oI) := HBp.out 3 _ rfl
        have r4 : wd.cell? ⟨bp, 4, none⟩ = some (.int .i64 oJ) := HBp.out 4 _ rfl
        have r5 : wd.cell? ⟨bp, 5, none⟩ = some (.string oP) := HBp.out 5 _ rfl
        have r6 : wd.cell? ⟨bp, 6, none⟩ = some (.int .i64 oF) := HBp.out 6 _ rfl
        have r7 : wd.cell? ⟨bp, 7, none⟩ = some (.int .i64 oN) := HBp.out 7 _ rfl
        have r8 : wd.cell? ⟨bp, 8, none⟩ = some (.string oD) := HBp.out 8 _ rfl
        have r9 : wd.cell? ⟨bp, 9, none⟩ = some (.slice pO mO cO) := HBp.out 9 _ rfl
        have r10 : wd.cell? ⟨bp, 10, none⟩ = some (.int .i64 tI) := HBp.out 10 _ rfl
        have r11 : wd.cell? ⟨bp, 11, none⟩ = some (.int .i64 tJ) := HBp.out 11 _ rfl
        have r12 : wd.cell? ⟨bp, 12, none⟩ = some (.string tP) := HBp.out 12 _ rfl
        have r13 : wd.cell? ⟨bp, 13, none⟩ = some (.int .i64 tF) := HBp.out 13 _ rfl
        have r14 : wd.cell? ⟨bp, 14, none⟩ = some (.int .i64 tN) := HBp.out 14 _ rfl
        have r15 : wd.cell? ⟨bp, 15, none⟩ = some (.string tD) := HBp.out 15 _ rfl
        have r16 : wd.cell? ⟨bp, 16, none⟩ = some (.slice pT mT cT) := HBp.out 16 _ rfl
        by_cases e1 : oI = tI
        · have t1 : (oI == tI) = true := by rw [beq_iff_eq]; exact e1
          by_cases e2 : oJ = tJ
          · have t2 : (oJ == tJ) = true := by rw [beq_iff_eq]; exact e2
            by_cases z1 : oP.toList = tP.toList
            · by_cases z2 : oF = tF
              · by_cases z3 : oN = tN
                · by_cases z4 : oD.toList = tD.toList
                  · obtain rfl : SB = true := by
                      rw [← HSB.out]; exact decide_eq_true ⟨e1, e2, by rw [str_inj z1, z2, z3, str_inj z4]⟩
                    clear HF HSB
                    go_wp2_with fail
                    refine Met.intro (hJ _ _ ?_)
                    repeat apply Exists.intro
                    refine ⟨?_, rfl⟩
                    exact Lib.hid ⟨rfl, rfl⟩
                  · obtain rfl : SB = false := HF.out (fun h => z4 (by have := h.2.2; injection this with _ _ _ h4; rw [h4]))
                    clear HF HSB
                    go_wp2_with fail
                    refine Met.intro (hJ _ _ ?_)
                    repeat apply Exists.intro
                    refine ⟨?_, rfl⟩
                    exact Lib.hid ⟨rfl, rfl⟩
                · obtain rfl : SB = false := HF.out (fun h => z3 (by have := h.2.2; injection this))
                  clear HF HSB
                  go_wp2_with fail
                  refine Met.intro (hJ _ _ ?_)
                  repeat apply Exists.intro
                  refine ⟨?_, rfl⟩
                  exact Lib.hid ⟨rfl, rfl⟩
              · obtain rfl : SB = false := HF.out (fun h => z2 (by have := h.2.2; injection this))
                clear HF HSB
                go_wp2_with fail
                refine Met.intro (hJ _ _ ?_)
                repeat apply Exists.intro
                refine ⟨?_, rfl⟩
                exact Lib.hid ⟨rfl, rfl⟩
            · obtain rfl : SB = false := HF.out (fun h => z1 (by have := h.2.2; injection this with h1; rw [h1]))
              clear HF HSB
              go_wp2_with fail
              refine Met.intro (hJ _ _ ?_)
              repeat apply Exists.intro
              refine ⟨?_, rfl⟩
              exact Lib.hid ⟨rfl, rfl⟩
          · have t2 : (oJ == tJ) = false := by rw [beq_eq_false_iff_ne]; exact e2
            obtain rfl : SB = false := HF.out (fun h => e2 h.2.1)
            clear HF HSB
            go_wp2_with fail
            refine Met.intro (hJ _ _ ?_)
            repeat apply Exists.intro
            refine ⟨?_, rfl⟩
            exact Lib.hid ⟨rfl, rfl⟩
        · have t1 : (oI == tI) = false := by rw [beq_eq_false_iff_ne]; exact e1
          obtain rfl : SB = false := HF.out (fun h => e1 h.1)
          clear HF HSB
          go_wp2_with fail
          refine Met.intro (hJ _ _ ?_)
          repeat apply Exists.intro
          refine ⟨?_, rfl⟩
          exact Lib.hid ⟨rfl, rfl⟩
      obtain ⟨rfl, rfl⟩ := hcut.out
      clear hcut HF
      cases B1 with
      | false =>
        have HGe := Lib.hid (HGa.out.trans HGd.out)
        clear HBp Ho Ht HGd HGa HB1 HB2 HSB
        go_wp2_with fail
        go_roundw
        case rel => exact ⟨k9 + 1, by omega, by go_num, HGe⟩
        case measure => simp [intOf]; omega
      | true =>
      cases B2 with
      | false =>
        have HGe := Lib.hid (HGa.out.trans HGd.out)
        clear HBp Ho Ht HGd HGa HB1 HB2 HSB
        go_wp2_with fail
        go_roundw
        case rel => exact ⟨k9 + 1, by omega, by go_num, HGe⟩
        case measure => simp [intOf]; omega
      | true =>
      cases SB with
      | true =>
        have HGe := Lib.hid (HGa.out.trans HGd.out)
        clear HBp Ho Ht HGd HGa HB1 HB2 HSB
        go_wp2_with fail
        go_roundw
        case rel => exact ⟨k9 + 1, by omega, by go_num, HGe⟩
        case measure => simp [intOf]; omega
      | false =>
        have hF1 := ver_facts HB1.out
        have hF2 := ver_facts HB2.out
        have hHit := bind_hit HB1.out HB2.out HSB.out
        have hsz1 := hashB_sizes hF1 (by rw [Ho.out.l]; have := Ho.out.n; omega)
        have hsz2 := hashB_sizes hF2 (by rw [Ht.out.l]; have := Ht.out.n; omega)
        obtain ⟨wd, hwd⟩ : ∃ z, z = wc := ⟨_, rfl⟩
        subst hwd
        have HH1 := Lib.hid (fun (y : World) (hg : Gr wa y) => hashedB_any hF1 _ y (Ho.out.s.gr hg) (by rw [Ho.out.l]; exact Ho.out.n))
        have HH2 := Lib.hid (fun (y : World) (hg : Gr wa y) => hashedB_any hF2 _ y (Ht.out.s.gr hg) (by rw [Ht.out.l]; exact Ht.out.n))
        obtain ⟨L1, hL1⟩ : ∃ z, hashB oI oJ ct ix ⟨oP, oF, oN, oD⟩ oL = z := ⟨_, rfl⟩
        obtain ⟨L2, hL2⟩ : ∃ z, hashB tI tJ ct ix ⟨tP, tF, tN, tD⟩ tL = z := ⟨_, rfl⟩
        rw [hL1] at HH1 hHit hsz1
        rw [hL2] at HH2 hHit hsz2
        have HCo := Lib.hid (fun (u u2 : Value) (y : World) (h1 : StrsAt u L1 y) (h2 : StrsAt u2 L2 y) => collided_any u u2 L1 L2 y h1 h2 hsz1.1 hsz2.1 hsz1.2 hsz2.2)
        rw [hHit] at HCo
        clear hL1 hL2 hHit hsz1 hsz2 hF1 hF2
        have R0 : ∀ q : GrS wd.drew, q.w.cell? ⟨bp, 0, none⟩ = some (.string rt) := fun q => q.h.cell (w := wd.drew) (HBp.out 0 _ rfl)
        have R1 : ∀ q : GrS wd.drew, q.w.cell? ⟨bp, 1, none⟩ = some (.int .i64 ct) := fun q => q.h.cell (w := wd.drew) (HBp.out 1 _ rfl)
        have R2 : ∀ q : GrS wd.drew, q.w.cell? ⟨bp, 2, none⟩ = some (.int .i64 ix) := fun q => q.h.cell (w := wd.drew) (HBp.out 2 _ rfl)
        have R3 : ∀ q : GrS wd.drew, q.w.cell? ⟨bp, 3, none⟩ = some (.int .i64 oI) := fun q => q.h.cell (w := wd.drew) (HBp.out 3 _ rfl)
        have R4 : ∀ q : GrS wd.drew, q.w.cell? ⟨bp, 4, none⟩ = some (.int .i64 oJ) := fun q => q.h.cell (w := wd.drew) (HBp.out 4 _ rfl)
        have R5 : ∀ q : GrS wd.drew, q.w.cell? ⟨bp, 5, none⟩ = some (.string oP) := fun q => q.h.cell (w := wd.drew) (HBp.out 5 _ rfl)
        have R6 : ∀ q : GrS wd.drew, q.w.cell? ⟨bp, 6, none⟩ = some (.int .i64 oF) := fun q => q.h.cell (w := wd.drew) (HBp.out 6 _ rfl)
        have R7 : ∀ q : GrS wd.drew, q.w.cell? ⟨bp, 7, none⟩ = some (.int .i64 oN) := fun q => q.h.cell (w := wd.drew) (HBp.out 7 _ rfl)
        have R8 : ∀ q : GrS wd.drew, q.w.cell? ⟨bp, 8, none⟩ = some (.string oD) := fun q => q.h.cell (w := wd.drew) (HBp.out 8 _ rfl)
        have R9 : ∀ q : GrS wd.drew, q.w.cell? ⟨bp, 9, none⟩ = some (.slice pO mO cO) := fun q => q.h.cell (w := wd.drew) (HBp.out 9 _ rfl)
        have R10 : ∀ q : GrS wd.drew, q.w.cell? ⟨bp, 10, none⟩ = some (.int .i64 tI) := fun q => q.h.cell (w := wd.drew) (HBp.out 10 _ rfl)
        have R11 : ∀ q : GrS wd.drew, q.w.cell? ⟨bp, 11, none⟩ = some (.int .i64 tJ) := fun q => q.h.cell (w := wd.drew) (HBp.out 11 _ rfl)
        have R12 : ∀ q : GrS wd.drew, q.w.cell? ⟨bp, 12, none⟩ = some (.string tP) := fun q => q.h.cell (w := wd.drew) (HBp.out 12 _ rfl)
        have R13 : ∀ q : GrS wd.drew, q.w.cell? ⟨bp, 13, none⟩ = some (.int .i64 tF) := fun q => q.h.cell (w := wd.drew) (HBp.out 13 _ rfl)
        have R14 : ∀ q : GrS wd.drew, q.w.cell? ⟨bp, 14, none⟩ = some (.int .i64 tN) := fun q => q.h.cell (w := wd.drew) (HBp.out 14 _ rfl)
        have R15 : ∀ q : GrS wd.drew, q.w.cell? ⟨bp, 15, none⟩ = some (.string tD) := fun q => q.h.cell (w := wd.drew) (HBp.out 15 _ rfl)
        have R16 : ∀ q : GrS wd.drew, q.w.cell? ⟨bp, 16, none⟩ = some (.slice pT mT cT) := fun q => q.h.cell (w := wd.drew) (HBp.out 16 _ rfl)
        go_upto_region 16 with fail
        refine region_grow 36 224 (by kernel_rfl) rfl (by kernel_rfl) rfl rfl ?_
        simp only [List.take_succ_cons, List.take_zero, List.drop_succ_cons, List.drop_zero]
        refine seg 16 rfl rfl rfl rfl ?_
        simp only [List.take_succ_cons, List.take_zero, List.drop_succ_cons, List.drop_zero]
        repeat (go_big_quiet_step (fail))
        refine wpQuiet_nil ?_
        intro _
        refine grow_open (OwnL 0 L1) rfl rfl rfl rfl (OwnL.stb _ _) (fun w1 hG => ?_) ?_
        · go_simp
          refine (HH1.out w1 (HGd.out.trans ((Gr.drew _).trans hG))).mono ?_
          rintro e w' ⟨u, rfl, ho, hb⟩
          exact ⟨u, rfl, hb, ho.mono (Nat.zero_le _)⟩
        refine seg 16 rfl rfl rfl rfl ?_
        simp only [List.take_succ_cons, List.take_zero, List.drop_succ_cons, List.drop_zero]
        repeat (go_big_quiet_step (fail))
        refine wpQuiet_nil ?_
        intro _
        refine grow_open (OwnL 0 L2) rfl rfl rfl rfl (OwnL.stb _ _) (fun w1 hG => ?_) ?_
        · go_simp
          refine (HH2.out w1 (HGd.out.trans ((Gr.drew _).trans hG))).mono ?_
          rintro e w' ⟨u, rfl, ho, hb⟩
          exact ⟨u, rfl, hb, ho.mono (Nat.zero_le _)⟩
        refine grow_det2 202 219 (v := .bool true) rfl (by decide) (by decide) rfl rfl rfl rfl (by decide) (by decide) rfl rfl rfl rfl (fun w1 u u2 hG hu hu2 => ?_) ?_
        · simp only [Act.put, List.setIfInBounds_toArray, List.set_cons_zero, List.set_cons_succ]
          go_simp
          refine (HCo.out u u2 w1 hu.strs hu2.strs).mono ?_
          rintro e w' ⟨rfl, hb⟩
          exact ⟨rfl, hb⟩
        simp only [Act.put, List.setIfInBounds_toArray, List.set_cons_zero, List.set_cons_succ]
        refine seg 1 rfl rfl rfl rfl ?_
        simp only [List.take_succ_cons, List.take_zero, List.drop_succ_cons, List.drop_zero]
        repeat (go_big_quiet_step (fail))
        refine wpQuiet_nil ?_
        intro _
        refine grow_pop rfl (by decide) rfl (fun u219 => ?_)
        simp only [Act.put, List.setIfInBounds_toArray, List.set_cons_zero, List.set_cons_succ]
        refine grow_pop rfl (by decide) rfl (fun u202 => ?_)
        simp only [Act.put, List.setIfInBounds_toArray, List.set_cons_zero, List.set_cons_succ]
        refine grow_end0 rfl rfl (fun we hG _ _ => ?_)
        have HGe := Lib.hid ((HGa.out.trans HGd.out).trans ((Gr.drew wd).trans hG))
        clear hG HH1 HH2 HCo HBp Ho Ht HGd HGa HB1 HB2 HSB R0 R1 R2 R3 R4 R5 R6 R7 R8 R9 R10 R11 R12 R13 R14 R15 R16
        go_wp2_with fail
        go_roundw
        case rel => exact ⟨k9 + 1, by omega, by go_num, HGe⟩
        case measure => simp [intOf]; omega
    · have ht : decide (k9 < 3) = false := decide_eq_false hlt9
      have ht' : decide ((k9 : Int) < 3) = false := decide_eq_false (by omega)
      have HGz := Lib.hid (HG9.out.trans HG.out)
      clear HG HG9
      go_wp2_with fail
      go_ret
      exact ⟨rfl, HGz.out⟩
end
end Go.Proofs.YtjnnhhengpinmaaGreatDoor
