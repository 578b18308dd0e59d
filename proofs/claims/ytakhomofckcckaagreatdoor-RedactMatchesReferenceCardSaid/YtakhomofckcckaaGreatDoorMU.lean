/- The reference's texts and values of leaves. -/
import Derived.Test.YtakhomofckcckaaGreatDoorHdA
import Derived.Test.YtakhomofckcckaaGreatDoorRefC
import Derived.Test.YtakhomofckcckaaGreatDoorRrA
namespace Go.Proofs.YtakhomofckcckaaGreatDoor
section
open Go Go.RowKit Go.Shelf
attribute [local go_sem] gAt gUpon
attribute [local simp] Gr.refl Gr.alloc

theorem textD_size {x : Lf} : (textD x).size ≤ 11 + (x.salt.size + x.text.size) := by
  unfold textD
  have := numB_size x.mark.toNat
  have h3 : (⟨#[3]⟩ : ByteArray).size = 1 := rfl
  rw [ByteArray.size_append, ByteArray.size_append, ByteArray.size_append]
  omega
theorem textR_any (x : Lf) (w : World) (hm : 0 ≤ x.mark ∧ x.mark ≤ 127) (hs : x.salt.size + x.text.size ≤ 140737488353000) :
    Calls Tryz.prog 56 #[.agg #[.bool x.shown, .string x.text, .int .i64 x.mark, .string x.salt, .string x.digest]] w fun e w' => e = .returned (.string (textD x)) ∧ Gr w w' := by
  obtain ⟨sh, t, m, sl, dg⟩ := x
  simp only at hm hs ⊢
  obtain ⟨h0, h1⟩ := hm
  obtain ⟨k, rfl⟩ : ∃ k : Nat, m = (k : Int) := ⟨m.toNat, by omega⟩
  have hk : k ≤ 127 := by omega
  rw [show textD ⟨sh, t, (k : Int), sl, dg⟩ = (⟨#[3]⟩ : ByteArray) ++ sl ++ numB k ++ t from rfl]
  have hnb := numB_size k
  have h3 : (⟨#[3]⟩ : ByteArray).size = 1 := rfl
  have a1 := add_run (⟨#[3]⟩ : ByteArray) sl _ rfl (by omega)
  have a2 := add_run ((⟨#[3]⟩ : ByteArray) ++ sl) (numB k) _ rfl (by rw [ByteArray.size_append]; omega)
  have a3 := add_run ((⟨#[3]⟩ : ByteArray) ++ sl ++ numB k) t _ rfl (by rw [ByteArray.size_append, ByteArray.size_append]; omega)
  have HN := Lib.hid (putIntR_any k hk)
  clear h0 h1 hnb h3 hs hk
  generalize (⟨#[3]⟩ : ByteArray) ++ sl ++ numB k ++ t = S3 at a3 ⊢
  generalize (⟨#[3]⟩ : ByteArray) ++ sl ++ numB k = S2 at a2 a3
  generalize (⟨#[3]⟩ : ByteArray) ++ sl = S1 at a1 a2
  generalize numB k = NB at HN a2
  go_enter Tryz.func56, Tryz.ntmps56
  go_upto_region 1 with fail
  refine wp_gen (F := fun y => Gr w y ∧ y.heap[w.heap.size]? = some (.cells #[.bool sh, .string t, .int .i64 (k : Int), .string sl, .string dg] 35 (0, 0))) ⟨Gr.alloc _ _, heap_alloc_new _ _⟩ ?_
  rintro wA ⟨hgA, hrA⟩
  obtain ⟨c0, c1, c2, c3, c4⟩ := row5 hrA
  have HGA := Lib.hid hgA
  have HRA := Lib.hid hrA
  clear hgA hrA c0 c1 c3 c4
  go_wp2_with fail
  refine (HN.out wA).mono ?_
  rintro e w1 ⟨rfl, hg⟩
  obtain ⟨d0, d1, d2, d3, d4⟩ := row5 (hg.block HRA.out)
  have HG := Lib.hid (HGA.out.trans hg)
  clear hg c2 HN HRA d0 d2 d4
  go_wp2_with fail
  go_ret
  exact ⟨rfl, HG.out⟩
theorem valueR_any (x : Lf) (w : World) (hm : x.shown = true → 0 ≤ x.mark ∧ x.mark ≤ 127) (hs : x.salt.size + x.text.size ≤ 140737488352000) :
    Calls Tryz.prog 33 #[.agg #[.bool x.shown, .string x.text, .int .i64 x.mark, .string x.salt, .string x.digest]] w fun e w' => e = .returned (.string (valueD x)) ∧ Gr w w' := by
  obtain ⟨sh, t, m, sl, dg⟩ := x
  simp only at hm hs ⊢
  cases sh with
  | false =>
    rw [show valueD ⟨false, t, m, sl, dg⟩ = dg from rfl]
    clear hm hs
    go_enter Tryz.func33, Tryz.ntmps33
    go_upto_region 1 with fail
    refine wp_gen (F := fun y => Gr w y ∧ y.heap[w.heap.size]? = some (.cells #[.bool false, .string t, .int .i64 m, .string sl, .string dg] 35 (0, 0))) ⟨Gr.alloc _ _, heap_alloc_new _ _⟩ ?_
    rintro wA ⟨hgA, hrA⟩
    obtain ⟨c0, c1, c2, c3, c4⟩ := row5 hrA
    clear hrA
    go_wp2_with fail
    go_ret
    exact ⟨rfl, hgA⟩
  | true =>
    have HX := Lib.hid (fun y => textR_any ⟨true, t, m, sl, dg⟩ y (hm rfl) (by simp only; omega))
    have hsz := textD_size (x := ⟨true, t, m, sl, dg⟩)
    simp only at HX hsz
    have HS := Lib.hid (fun y => sumR_any (textD ⟨true, t, m, sl, dg⟩) y (by omega))
    rw [show valueD ⟨true, t, m, sl, dg⟩ = sha (textD ⟨true, t, m, sl, dg⟩) from rfl]
    clear hsz hm hs
    generalize textD ⟨true, t, m, sl, dg⟩ = TX at HX HS ⊢
    generalize sha TX = SX at HS ⊢
    go_enter Tryz.func33, Tryz.ntmps33
    go_upto_region 1 with fail
    refine wp_gen (F := fun y => Gr w y ∧ y.heap[w.heap.size]? = some (.cells #[.bool true, .string t, .int .i64 m, .string sl, .string dg] 35 (0, 0))) ⟨Gr.alloc _ _, heap_alloc_new _ _⟩ ?_
    rintro wA ⟨hgA, hrA⟩
    obtain ⟨c0, c1, c2, c3, c4⟩ := row5 hrA
    have HGA := Lib.hid hgA
    clear hgA hrA
    go_wp2_with fail
    refine (HX.out wA).mono ?_
    rintro e w1 ⟨rfl, hg⟩
    have HG := Lib.hid (HGA.out.trans hg)
    clear hg c0 c1 c2 c3 c4 HX
    go_wp2_with fail
    refine (HS.out w1).mono ?_
    rintro e w2 ⟨rfl, hg⟩
    have HG2 := Lib.hid (HG.out.trans hg)
    clear hg HS
    go_wp2_with fail
    go_ret
    exact ⟨rfl, HG2.out⟩
end
section
open Go Go.RowKit Go.Shelf
attribute [local go_sem] gAt gUpon
attribute [local simp] Gr.refl Gr.alloc

def strC (x : ByteArray) : List Value := [.string x]
theorem infoS : (Tryz.prog.info? 9).map (fun i => (i.zero, i.size, i.bytes)) = some (some (.string ⟨#[]⟩), 1, 16) := by kernel_rfl
set_option maxRecDepth 100000 in
set_option maxHeartbeats 1000000 in
theorem valuesR_any (v : Value) (l : List Lf) (w : World) (hv : Rws 5 lfC v l w) (hl : l.length ≤ 1000) (hm : ∀ x ∈ l, x.shown = true → 0 ≤ x.mark ∧ x.mark ≤ 127) (hs : ∀ x ∈ l, x.salt.size + x.text.size ≤ 140737488352000) :
    Calls Tryz.prog 38 #[v] w fun e w' => ∃ u, e = .returned u ∧ Own w.heap.size 1 u l.length ((l.map valueD).flatMap strC) w' ∧ Gr w w' := by
  obtain ⟨i0, hi, hz0, hz1, hz2⟩ := info_parts infoS
  have HI := Lib.hid hi
  have HI0 := Lib.hid hz0
  have HI1 := Lib.hid hz1
  have HI2 := Lib.hid hz2
  obtain ⟨p, c, rfl⟩ := hv.shape
  have HV := Lib.hid hv
  have HC := Lib.hid (fun (k : Nat) (x : Lf) (hx : l[k]? = some x) y => valueR_any x y (hm x (List.mem_of_getElem? hx)) (hs x (List.mem_of_getElem? hx)))
  clear hi hz0 hz1 hz2 hv hm hs
  go_enter Tryz.func38, Tryz.ntmps38
  go_wp2_with fail
  go_loopw [3, 4] (fun v3 v4 W => ∃ (k : Nat) (V : Value), k ≤ l.length ∧ v4 = .int .i64 (k : Int) ∧ V = v3 ∧ Hid (Own w.heap.size 1 V k (((l.take k).map valueD).flatMap strC) W) ∧ Hid (Gr w W)) (fun _ v4 _ => l.length - (intOf v4).toNat)
  case atStart => exact ⟨0, _, Nat.zero_le _, rfl, rfl, Lib.hid (Own.nil _ _ _), Lib.hid (Gr.refl _)⟩
  case round =>
    obtain ⟨k, v3, hk, rfl, rfl, HO, HG⟩ := hrel
    by_cases hlt : k < l.length
    · have ht : decide (k < l.length) = true := decide_eq_true hlt
      obtain ⟨x, hx⟩ : ∃ x, l[k]? = some x := ⟨_, List.getElem?_eq_getElem hlt⟩
      obtain ⟨g, off, rfl, hlc, hc⟩ := (HV.out.gr HG.out).at_ hx
      have HCx := Lib.hid (HC.out k x hx)
      have HX : Hid (((l.take (k + 1)).map valueD).flatMap strC = ((l.take k).map valueD).flatMap strC ++ [.string (valueD x)]) := Lib.hid (by
        rw [List.take_add_one, hx, Option.toList_some, List.map_append, List.flatMap_append]; rfl)
      have hc0 := hc 0 _ rfl
      have hc1 := hc 1 _ rfl
      have hc2 := hc 2 _ rfl
      have hc3 := hc 3 _ rfl
      have hc4 := hc 4 _ rfl
      rw [Nat.add_zero] at hc0
      rw [← Nat.add_assoc] at hc1 hc2 hc3 hc4
      obtain ⟨sh, t, m, sl, dg⟩ := x
      simp only at hc0 hc1 hc2 hc3 hc4 HCx
      generalize valueD ⟨sh, t, m, sl, dg⟩ = VX at HCx HX
      clear hc hx
      go_wp2_with fail
      refine (HCx.out wr).mono ?_
      rintro e w1 ⟨rfl, hg⟩
      have HG1 := Lib.hid (HG.out.trans hg)
      have HO1 := Lib.hid (HO.out.gr hg)
      clear hg HG HO hc0 hc1 hc2 hc3 hc4 HCx
      go_wp2_with ((with_reducible show wpList _ _ _ (⟨some 18, _, _, _, _, _⟩ :: _) _ _); refine wpList_append_Own rfl (.tmp 11) (.tmp 17) 58 rfl 9 i0 (.string ⟨#[]⟩) 1 16 Tryz.underlying58 HI.out HI0.out HI1.out HI2.out rfl (by decide) rfl (HO1.out.gr (Gr.alloc w1 _)) ⟨w1.heap.size, 0, none⟩ 1 1 [.string VX] rfl rfl (cells_new_at w1 [.string VX] 9) ?h1 (by decide) ?b1 ?b2 ?hB ?_)
      case h1 => intro u hu; obtain rfl := List.mem_singleton.1 hu; rfl
      case b1 => unfold maxLen; omega
      case b2 => omega
      case hB => have := HG1.out.size; simp; omega
      intro v18 w18 hown hchg _
      have HG2 : Hid (Gr w w18) := Lib.hid (gr_step HG1.out (Gr.alloc _ _) hchg (fun g hg => HO1.out.ge hg))
      have HO2 : Hid (Own w.heap.size 1 v18 (k + 1) (((l.take (k + 1)).map valueD).flatMap strC) w18) := Lib.hid (by rw [HX.out, List.map_take]; exact hown)
      clear hown hchg HG1 HO1 HX
      go_wp2_with fail
      go_roundw
      case rel => exact ⟨k + 1, _, by omega, by go_num, rfl, HO2, HG2⟩
      case measure => simp [intOf]; omega
    · have ht : decide (k < l.length) = false := decide_eq_false hlt
      have HK : Hid (k = l.length) := Lib.hid (by omega)
      clear hlt
      go_wp2_with fail
      go_ret
      refine ⟨_, rfl, ?_, HG.out⟩
      have h := HO.out
      rw [HK.out, List.take_of_length_le (Nat.le_refl _)] at h
      exact h
end
end Go.Proofs.YtakhomofckcckaaGreatDoor
