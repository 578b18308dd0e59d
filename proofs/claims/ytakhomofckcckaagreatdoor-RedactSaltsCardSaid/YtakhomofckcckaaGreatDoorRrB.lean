/- The reference's texts and values of leaves. -/
import Derived.Test.YtakhomofckcckaaGreatDoorHdA
import Derived.Test.YtakhomofckcckaaGreatDoorRefC
import Derived.Test.YtakhomofckcckaaGreatDoorRrA
namespace Go.Proofs.YtakhomofckcckaaGreatDoor
open Go Go.RowKit Go.Shelf
attribute [local go_sem] gAt gUpon
attribute [local simp] Gr.refl Gr.alloc

theorem textD_size {x : Lf} : (textD x).size ≤ 11 + (x.salt.size + x.text.size) := by
  unfold textD
  have := numB_size x.mark.toNat
  have h3 : (⟨#[3]⟩ : ByteArray).size = 1 := rfl
  rw [ByteArray.size_append, ByteArray.size_append, ByteArray.size_append]
  omega
theorem textR_any (x : Lf) (w : World) (hm : 0 ≤ x.mark ∧ x.mark ≤ 127) (hs : x.salt.size + x.text.size ≤ 140737488353000) :
    Calls Tryz.prog 56 #[.agg #[.bool x.shown, .string x.text, .int .i64 x.mark, .string x.salt, .string x.digest]] w fun e w' => e = .returned (.string (textD x)) ∧ Gr w w' := by
  obtain ⟨sh, t, m, sl, dg⟩ := x
  simp only at hm hs ⊢
  obtain ⟨h0, h1⟩ := hm
  obtain ⟨k, rfl⟩ : ∃ k : Nat, m = (k : Int) := ⟨m.toNat, by omega⟩
  have hk : k ≤ 127 := by omega
  rw [show textD ⟨sh, t, (k : Int), sl, dg⟩ = (⟨#[3]⟩ : ByteArray) ++ sl ++ numB k ++ t from rfl]
  have hnb := numB_size k
  have h3 : (⟨#[3]⟩ : ByteArray).size = 1 := rfl
  have a1 := add_run (⟨#[3]⟩ : ByteArray) sl _ rfl (by omega)
  have a2 := add_run ((⟨#[3]⟩ : ByteArray) ++ sl) (numB k) _ rfl (by rw [ByteArray.size_append]; omega)
  have a3 := add_run ((⟨#[3]⟩ : ByteArray) ++ sl ++ numB k) t _ rfl (by rw [ByteArray.size_append, ByteArray.size_append]; omega)
  have HN := Lib.hid (putIntR_any k hk)
  clear h0 h1 hnb h3 hs hk
  generalize (⟨#[3]⟩ : ByteArray) ++ sl ++ numB k ++ t = S3 at a3 ⊢
  generalize (⟨#[3]⟩ : ByteArray) ++ sl ++ numB k = S2 at a2 a3
  generalize (⟨#[3]⟩ : ByteArray) ++ sl = S1 at a1 a2
  generalize numB k = NB at HN a2
  go_enter Tryz.func56, Tryz.ntmps56
  go_upto_region 1 with fail
  refine wp_gen (F := fun y => Gr w y ∧ y.heap[w.heap.size]? = some (.cells #[.bool sh, .string t, .int .i64 (k : Int), .string sl, .string dg] 35 (0, 0))) ⟨Gr.alloc _ _, heap_alloc_new _ _⟩ ?_
  rintro wA ⟨hgA, hrA⟩
  obtain ⟨c0, c1, c2, c3, c4⟩ := row5 hrA
  have HGA := Lib.hid hgA
  have HRA := Lib.hid hrA
  clear hgA hrA c0 c1 c3 c4
  go_wp2_with fail
  refine (HN.out wA).mono ?_
  rintro e w1 ⟨rfl, hg⟩
  obtain ⟨d0, d1, d2, d3, d4⟩ := row5 (hg.block HRA.out)
  have HG := Lib.hid (HGA.out.trans hg)
  clear hg c2 HN HRA d0 d2 d4
  go_wp2_with fail
  go_ret
  exact ⟨rfl, HG.out⟩
theorem valueR_any (x : Lf) (w : World) (hm : x.shown = true → 0 ≤ x.mark ∧ x.mark ≤ 127) (hs : x.salt.size + x.text.size ≤ 140737488352000) :
    Calls Tryz.prog 33 #[.agg #[.bool x.shown, .string x.text, .int .i64 x.mark, .string x.salt, .string x.digest]] w fun e w' => e = .returned (.string (valueD x)) ∧ Gr w w' := by
  obtain ⟨sh, t, m, sl, dg⟩ := x
  simp only at hm hs ⊢
  cases sh with
  | false =>
    rw [show valueD ⟨false, t, m, sl, dg⟩ = dg from rfl]
    clear hm hs
    go_enter Tryz.func33, Tryz.ntmps33
    go_upto_region 1 with fail
    refine wp_gen (F := fun y => Gr w y ∧ y.heap[w.heap.size]? = some (.cells #[.bool false, .string t, .int .i64 m, .string sl, .string dg] 35 (0, 0))) ⟨Gr.alloc _ _, heap_alloc_new _ _⟩ ?_
    rintro wA ⟨hgA, hrA⟩
    obtain ⟨c0, c1, c2, c3, c4⟩ := row5 hrA
    clear hrA
    go_wp2_with fail
    go_ret
    exact ⟨rfl, hgA⟩
  | true =>
    have HX := Lib.hid (fun y => textR_any ⟨true, t, m, sl, dg⟩ y (hm rfl) (by simp only; omega))
    have hsz := textD_size (x := ⟨true, t, m, sl, dg⟩)
    simp only at HX hsz
    have HS := Lib.hid (fun y => sumR_any (textD ⟨true, t, m, sl, dg⟩) y (by omega))
    rw [show valueD ⟨true, t, m, sl, dg⟩ = sha (textD ⟨true, t, m, sl, dg⟩) from rfl]
    clear hsz hm hs
    generalize textD ⟨true, t, m, sl, dg⟩ = TX at HX HS ⊢
    generalize sha TX = SX at HS ⊢
    go_enter Tryz.func33, Tryz.ntmps33
    go_upto_region 1 with fail
    refine wp_gen (F := fun y => Gr w y ∧ y.heap[w.heap.size]? = some (.cells #[.bool true, .string t, .int .i64 m, .string sl, .string dg] 35 (0, 0))) ⟨Gr.alloc _ _, heap_alloc_new _ _⟩ ?_
    rintro wA ⟨hgA, hrA⟩
    obtain ⟨c0, c1, c2, c3, c4⟩ := row5 hrA
    have HGA := Lib.hid hgA
    clear hgA hrA
    go_wp2_with fail
    refine (HX.out wA).mono ?_
    rintro e w1 ⟨rfl, hg⟩
    have HG := Lib.hid (HGA.out.trans hg)
    clear hg c0 c1 c2 c3 c4 HX
    go_wp2_with fail
    refine (HS.out w1).mono ?_
    rintro e w2 ⟨rfl, hg⟩
    have HG2 := Lib.hid (HG.out.trans hg)
    clear hg HS
    go_wp2_with fail
    go_ret
    exact ⟨rfl, HG2.out⟩
end Go.Proofs.YtakhomofckcckaaGreatDoor
