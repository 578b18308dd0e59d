/- The contracts of redact.number, Salt, and a leaf's own methods. -/
import Derived.Test.YtakhomofckcckaaGreatDoorMI
import Derived.Test.YtakhomofckcckaaGreatDoorMQ
import Derived.Test.YtakhomofckcckaaGreatDoorRoot
namespace Go.Proofs.YtakhomofckcckaaGreatDoor
section
open Go Go.RowKit Go.Shelf
attribute [local go_sem] gAt gUpon
attribute [local simp] Gr.refl Gr.alloc

theorem grpL_len : ∀ f z, (grpL f z).length ≤ f := by
  intro f
  induction f with
  | zero => intro z; exact Nat.le_refl _
  | succ f ih => intro z; unfold grpL; split <;> simp; exact ih _
theorem numB_size (n : Nat) : (numB n).size ≤ 10 := by
  show (List.toArray _).size ≤ 10
  simp only [List.size_toArray, List.length_map]
  exact grpL_len 10 _
theorem number_any (n : Nat) (hn : n ≤ 4611686018427387903) (w : World) :
    Calls Tryz.prog 46 #[.int .i64 (n : Int)] w fun e w' => e = .returned (.string (numB n)) ∧ Gr w w' := by
  have HP := Lib.hid (putInt_any n hn)
  go_enter Tryz.func46, Tryz.ntmps46
  go_wp2_with fail
  refine (HP.out _).mono ?_
  rintro e w' ⟨rfl, hg⟩
  go_wp2_with fail
  go_ret
  exact ⟨rfl, hg⟩
def saltD (secret : ByteArray) (line : Int) : ByteArray := if line < 0 ∨ 64 ≤ line then ⟨#[]⟩ else (sha (numB line.toNat ++ secret)).extract 0 16
theorem salt_any (secret : ByteArray) (line : Int) (w : World) (hs : secret.size ≤ 140737488354000) (hT : Tab w) :
    Calls Tryz.prog 23 #[.string secret, .int .i64 line] w fun e w' => e = .returned (.string (saltD secret line)) ∧ Gr w w' := by
  by_cases h0 : line < 0
  · have t0 : decide (line < 0) = true := decide_eq_true h0
    rw [show saltD secret line = ⟨#[]⟩ from if_pos (.inl h0)]
    clear h0
    go_enter Tryz.func23, Tryz.ntmps23
    go_wp2_with fail
    go_ret
    exact ⟨rfl, Gr.refl _⟩
  · have t0 : decide (line < 0) = false := decide_eq_false h0
    by_cases h1 : 64 ≤ line
    · have t1 : decide (64 ≤ line) = true := decide_eq_true h1
      have t1' : decide (line < 64) = false := decide_eq_false (by omega)
      rw [show saltD secret line = ⟨#[]⟩ from if_pos (.inr h1)]
      clear h0 h1
      go_enter Tryz.func23, Tryz.ntmps23
      go_wp2_with fail
      go_ret
      exact ⟨rfl, Gr.refl _⟩
    · obtain ⟨k, rfl⟩ : ∃ k : Nat, line = (k : Int) := ⟨line.toNat, by omega⟩
      have hk : k < 64 := by omega
      rw [show saltD secret (k : Int) = (sha (numB k ++ secret)).extract 0 16 from if_neg (by omega)]
      have t1 : decide (64 ≤ (k : Int)) = false := decide_eq_false h1
      have t1' : decide ((k : Int) < 64) = true := decide_eq_true (by omega)
      have t1n : decide (64 ≤ k) = false := decide_eq_false (by omega)
      have HN := Lib.hid (number_any k (by omega))
      have hsz : (numB k).size + secret.size ≤ 140737488355000 := by have := numB_size k; omega
      have HS := Lib.hid (fun y (hT : Tab y) => sum_any (numB k ++ secret) y (by rw [ByteArray.size_append]; exact hsz) hT)
      have hadd : ∀ w1, (Op.stringOp .add (numB k) secret).run Tryz.prog w1 = .ok (.string (numB k ++ secret)) w1 := by
        intro w1
        rw [run_string_add_sum]
        omega
      have hs32 : (sha (numB k ++ secret)).size = 32 := sha_size _
      have HT := Lib.hid hT
      clear h0 h1 hT hs
      generalize sha (numB k ++ secret) = SH at HS hs32 ⊢
      generalize numB k ++ secret = X at HS hadd
      generalize numB k = NB at HN hadd hsz
      have hs16 : 16 ≤ SH.size := by omega
      go_enter Tryz.func23, Tryz.ntmps23
      go_wp2_with fail
      refine (HN.out _).mono ?_
      rintro e w1 ⟨rfl, hg⟩
      have HT1 := Lib.hid (HT.out.gr hg)
      go_wp2_with fail
      refine (HS.out _ HT1.out).mono ?_
      rintro e w2 ⟨rfl, hg2⟩
      go_wp2_with fail
      go_ret
      exact ⟨rfl, hg.trans hg2⟩
end
section
open Go Go.RowKit Go.Shelf
attribute [local go_sem] gAt gUpon
attribute [local simp] Gr.refl Gr.alloc

structure Lf where
  shown : Bool
  text : ByteArray
  mark : Int
  salt : ByteArray
  digest : ByteArray
def lfC (x : Lf) : List Value := [.bool x.shown, .string x.text, .int .i64 x.mark, .string x.salt, .string x.digest]
/-- the string that is hashed for a shown leaf -/
def textD (x : Lf) : ByteArray := (⟨#[3]⟩ : ByteArray) ++ x.salt ++ numB x.mark.toNat ++ x.text
def valueD (x : Lf) : ByteArray := if x.shown then sha (textD x) else x.digest
theorem row5 {W : World} {g : Nat} {a b c d e : Value} {t : TypeId} (h : W.heap[g]? = some (.cells #[a, b, c, d, e] t (0, 0))) :
    W.cell? ⟨g, 0, none⟩ = some a ∧ W.cell? ⟨g, 1, none⟩ = some b ∧ W.cell? ⟨g, 2, none⟩ = some c ∧ W.cell? ⟨g, 3, none⟩ = some d ∧ W.cell? ⟨g, 4, none⟩ = some e :=
  ⟨by rw [cell_of_row _ _ _ _ _ _ h]; rfl, by rw [cell_of_row _ _ _ _ _ _ h]; rfl, by rw [cell_of_row _ _ _ _ _ _ h]; rfl, by rw [cell_of_row _ _ _ _ _ _ h]; rfl, by rw [cell_of_row _ _ _ _ _ _ h]; rfl⟩
theorem add_run (a b c : ByteArray) (h : a ++ b = c) (hs : a.size + b.size ≤ 140737488355000) : ∀ w1, (Op.stringOp .add a b).run Tryz.prog w1 = .ok (.string c) w1 := by
  intro w1
  rw [run_string_add_sum, h]
  omega
set_option maxRecDepth 100000 in
theorem value_any (x : Lf) (w : World) (hT : Tab w) (hm : x.shown = true → 0 ≤ x.mark ∧ x.mark ≤ 4611686018427387903) (hs : x.salt.size + x.text.size ≤ 140737488354000) :
    Calls Tryz.prog 43 #[.agg #[.bool x.shown, .string x.text, .int .i64 x.mark, .string x.salt, .string x.digest]] w fun e w' => e = .returned (.string (valueD x)) ∧ Gr w w' := by
  obtain ⟨sh, t, m, sl, dg⟩ := x
  simp only at hm hs ⊢
  cases sh with
  | false =>
    rw [show valueD ⟨false, t, m, sl, dg⟩ = dg from rfl]
    clear hm hs
    go_enter Tryz.func43, Tryz.ntmps43
    go_upto_region 1 with fail
    refine wp_gen (F := fun y => Gr w y ∧ y.heap[w.heap.size]? = some (.cells #[.bool false, .string t, .int .i64 m, .string sl, .string dg] 81 (0, 0))) ⟨Gr.alloc _ _, heap_alloc_new _ _⟩ ?_
    rintro wA ⟨hgA, hrA⟩
    obtain ⟨c0, c1, c2, c3, c4⟩ := row5 hrA
    clear hrA
    go_wp2_with fail
    go_ret
    exact ⟨rfl, hgA⟩
  | true =>
    obtain ⟨h0, h1⟩ := hm rfl
    obtain ⟨k, rfl⟩ : ∃ k : Nat, m = (k : Int) := ⟨m.toNat, by omega⟩
    have hk : k ≤ 4611686018427387903 := by omega
    rw [show valueD ⟨true, t, (k : Int), sl, dg⟩ = sha ((⟨#[3]⟩ : ByteArray) ++ sl ++ numB k ++ t) from rfl]
    have hnb := numB_size k
    have h3 : (⟨#[3]⟩ : ByteArray).size = 1 := rfl
    have a1 := add_run (⟨#[3]⟩ : ByteArray) sl _ rfl (by omega)
    have a2 := add_run ((⟨#[3]⟩ : ByteArray) ++ sl) (numB k) _ rfl (by rw [ByteArray.size_append]; omega)
    have a3 := add_run ((⟨#[3]⟩ : ByteArray) ++ sl ++ numB k) t _ rfl (by rw [ByteArray.size_append, ByteArray.size_append]; omega)
    have HN := Lib.hid (number_any k hk)
    have HS := Lib.hid (fun y (hT : Tab y) => sum_any ((⟨#[3]⟩ : ByteArray) ++ sl ++ numB k ++ t) y (by rw [ByteArray.size_append, ByteArray.size_append, ByteArray.size_append]; omega) hT)
    clear hm h0 h1 hnb h3 hs hk
    generalize (⟨#[3]⟩ : ByteArray) ++ sl ++ numB k ++ t = S3 at a3 HS ⊢
    generalize (⟨#[3]⟩ : ByteArray) ++ sl ++ numB k = S2 at a2 a3
    generalize (⟨#[3]⟩ : ByteArray) ++ sl = S1 at a1 a2
    generalize numB k = NB at HN a2
    go_enter Tryz.func43, Tryz.ntmps43
    go_upto_region 1 with fail
    refine wp_gen (F := fun y => Gr w y ∧ y.heap[w.heap.size]? = some (.cells #[.bool true, .string t, .int .i64 (k : Int), .string sl, .string dg] 81 (0, 0))) ⟨Gr.alloc _ _, heap_alloc_new _ _⟩ ?_
    rintro wA ⟨hgA, hrA⟩
    obtain ⟨c0, c1, c2, c3, c4⟩ := row5 hrA
    have HT := Lib.hid (hT.gr hgA)
    have s1 : ∀ n : GrS wA.drew, n.w.cell? ⟨w.heap.size, 1, none⟩ = some (.string t) := fun n => n.h.cell (w := wA.drew) c1
    have s2 : ∀ n : GrS wA.drew, n.w.cell? ⟨w.heap.size, 2, none⟩ = some (.int .i64 (k : Int)) := fun n => n.h.cell (w := wA.drew) c2
    have s3 : ∀ n : GrS wA.drew, n.w.cell? ⟨w.heap.size, 3, none⟩ = some (.string sl) := fun n => n.h.cell (w := wA.drew) c3
    have HGA := Lib.hid hgA
    clear hrA hT hgA
    go_upto_region 2 with fail
    refine region_grow 14 20 (by kernel_rfl) rfl (by kernel_rfl) rfl rfl ?_
    simp only [List.take_succ_cons, List.take_zero, List.drop_succ_cons, List.drop_zero]
    refine seg 6 rfl rfl rfl rfl ?_
    simp only [List.take_succ_cons, List.take_zero, List.drop_succ_cons, List.drop_zero]
    repeat (go_big_quiet_step (fail))
    refine wpQuiet_nil ?_
    intro _
    refine grow_det (v := .string NB) rfl rfl rfl rfl rfl ?_ ?_
    · intro w1 hG
      go_simp
      refine (HN.out w1).mono ?_
      rintro e w' ⟨rfl, hb⟩
      exact ⟨rfl, hb⟩
    simp only [Act.put, List.setIfInBounds_toArray, List.set_cons_zero, List.set_cons_succ]
    refine seg 5 rfl rfl rfl rfl ?_
    simp only [List.take_succ_cons, List.take_zero, List.drop_succ_cons, List.drop_zero]
    repeat (go_big_quiet_step (fail))
    refine wpQuiet_nil ?_
    intro _
    refine grow_det (v := .string (sha S3)) rfl rfl rfl rfl rfl ?_ ?_
    · intro w1 hG
      go_simp
      refine (HS.out w1 ((show Tab wA.drew from HT.out).gr hG)).mono ?_
      rintro e w' ⟨rfl, hb⟩
      exact ⟨rfl, hb⟩
    simp only [Act.put, List.setIfInBounds_toArray, List.set_cons_zero, List.set_cons_succ]
    refine seg 1 rfl rfl rfl rfl ?_
    simp only [List.take_succ_cons, List.take_zero, List.drop_succ_cons, List.drop_zero]
    repeat (go_big_quiet_step (fail))
    refine wpQuiet_nil ?_
    intro _
    refine grow_end0 rfl rfl ?_
    intro w2 hG
    have HG : Hid (Gr w w2) := Lib.hid (HGA.out.trans (Gr.trans (Gr.drew wA) hG))
    clear s1 s2 s3 hG
    go_wp2_with fail
    go_ret
    exact ⟨rfl, HG.out⟩
end
end Go.Proofs.YtakhomofckcckaaGreatDoor
