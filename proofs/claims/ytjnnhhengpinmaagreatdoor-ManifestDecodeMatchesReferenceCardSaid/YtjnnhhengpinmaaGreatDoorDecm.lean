/- ManifestDecodeMatchesReference: the walk. -/
import Derived.Test.YtjnnhhengpinmaaGreatDoorNE
import Derived.Test.YtjnnhhengpinmaaGreatDoorNR
namespace Go.Proofs.YtjnnhhengpinmaaGreatDoor
open Go Go.RowKit Go.Shelf
attribute [local go_sem] gAt gUpon
attribute [local simp] Gr.refl Gr.alloc

/-- what Decode gives: its numbers, its entries, its code; what it accepts is the encoding of what it returns -/
theorem dec_facts (s : ByteArray) : ∃ (i j : Int) (L : List En) (z : Int), dcI (decL s.data.toList) = i ∧ dcV (decL s.data.toList) = j ∧ dcL (decL s.data.toList) = L ∧ dcE (decL s.data.toList) = z ∧ L.length ≤ 64 ∧ (∀ x ∈ L, x.path.size ≤ 9223372036854775807) ∧
    (z = 0 → encB i j L = s ∧ encE i j L = 0 ∧ validD i j L = true) := by
  cases h : decL s.data.toList with
  | error c =>
    refine ⟨0, 0, [], c, rfl, rfl, rfl, rfl, by decide, by simp, fun hc => ?_⟩
    rcases decL_err h with e | e <;> (rw [hc] at e; cases e)
  | ok p =>
    obtain ⟨i, j, L⟩ := p
    obtain ⟨hv, hl⟩ := decL_ok h
    obtain ⟨-, h64, -, hL, -⟩ := valid_head hv
    refine ⟨i, j, L, 0, rfl, rfl, rfl, rfl, h64, fun x hx => Nat.le_trans (hL x hx).path (by decide), fun _ => ⟨?_, (enc_on hv).2, hv⟩⟩
    have h1 := (enc_on hv).1
    rw [← hl] at h1
    cases hs : s
    cases he : encB i j L
    rw [hs, he] at h1
    congr 1
    exact Array.toList_inj.1 h1
set_option maxRecDepth 100000 in
set_option maxHeartbeats 4000000 in
theorem decm_any (s0 : ByteArray) (w : World) (hs0 : s0.size ≤ 140737488355000) (hT : Tab w) :
    Calls Tryz.prog 5 #[.string s0] w fun e w' => e = .returned (.bool true) ∧ Gr w w' := by
  have HT := Lib.hid hT
  clear hT
  go_enter Tryz.func5, Tryz.ntmps5
  go_wp2_with fail
  refine (sane_any w HT.out).mono ?_
  rintro e w1 ⟨rfl, hg1⟩
  have HG1 := Lib.hid hg1
  clear hg1
  have hmn : min (s0.size : Int) 400 = ((min s0.size 400 : Nat) : Int) := by omega
  have hmn2 : min s0.size 400 ≤ s0.size := Nat.min_le_left _ _
  obtain ⟨s, hs⟩ : ∃ s, s0.extract 0 (min s0.size 400) = s := ⟨_, rfl⟩
  have hss : s.size ≤ 400 := by rw [← hs]; simp [ByteArray.size_extract]; omega
  go_upto_region 3 with fail
  clear hs hmn hmn2
  obtain ⟨i, j, L, z, h1, h2, h3, h4, hL, hLp, hz⟩ := dec_facts s
  have HD := Lib.hid (fun (y : World) => decode_any s y (by omega))
  have HR := Lib.hid (fun (y : World) => decodeR_any s y (by omega))
  unfold DcRes at HD HR
  rw [h1, h2, h3, h4] at HD HR
  obtain ⟨n, hn⟩ : ∃ n, L.length = n := ⟨_, rfl⟩
  rw [hn] at HD HR
  have HL := Lib.hid (And.intro hL hLp)
  have Hn := Lib.hid hn
  have Hz := Lib.hid hz
  clear h1 h2 h3 h4 hL hLp hz hn hss
  go_wp2_with fail
  refine (HD.out w1).mono ?_
  rintro e w2 ⟨v2, rfl, ho2, hg2⟩
  have hr2 : Rws 4 enC v2 L w2 := own_rws (l := L) enC_len (by rw [Hn.out]; exact ho2)
  obtain ⟨p2, c2, rfl⟩ := ho2.slice
  have HG2 := Lib.hid (HG1.out.trans hg2)
  have HR2 := Lib.hid hr2
  clear ho2 hg2 hr2 HD HG1
  go_upto_region 4 with fail
  have hrow := heap_alloc_new w2 (.cells #[.int .i64 i, .int .i64 j, .slice p2 n c2] 24)
  obtain ⟨b2, hb2⟩ : ∃ b, w2.heap.size = b := ⟨_, rfl⟩
  rw [hb2] at hrow
  simp only [hb2]
  have hg3 := Gr.alloc w2 (.cells #[.int .i64 i, .int .i64 j, .slice p2 n c2] 24)
  have HG3 := Lib.hid (HG2.out.trans hg3)
  replace HR2 := Lib.hid (HR2.out.gr hg3)
  have HB2 := Lib.hid hrow
  clear hrow hb2 hg3 HG2
  generalize w2.alloc (.cells #[.int .i64 i, .int .i64 j, .slice p2 n c2] 24) = w3 at HG3 HR2 HB2 ⊢
  go_wp2_with fail
  refine (HR.out w3).mono ?_
  rintro e w4 ⟨v4, rfl, ho4, hg4⟩
  have hr4 : Rws 4 enC v4 L w4 := own_rws (l := L) enC_len (by rw [Hn.out]; exact ho4)
  obtain ⟨p4, c4, rfl⟩ := ho4.slice
  have HG4 := Lib.hid (HG3.out.trans hg4)
  replace HR2 := Lib.hid (HR2.out.gr hg4)
  replace HB2 := Lib.hid (hg4.block HB2.out)
  have HR4 := Lib.hid hr4
  clear ho4 hg4 hr4 HR HG3
  go_upto_region 5 with fail
  have hrow := heap_alloc_new w4 (.cells #[.int .i64 i, .int .i64 j, .slice p4 n c4] 24)
  obtain ⟨b4, hb4⟩ : ∃ b, w4.heap.size = b := ⟨_, rfl⟩
  rw [hb4] at hrow
  simp only [hb4]
  have hg5 := Gr.alloc w4 (.cells #[.int .i64 i, .int .i64 j, .slice p4 n c4] 24)
  have HG5 := Lib.hid (HG4.out.trans hg5)
  replace HR2 := Lib.hid (HR2.out.gr hg5)
  replace HB2 := Lib.hid (hg5.block HB2.out)
  replace HR4 := Lib.hid (HR4.out.gr hg5)
  have HB4 := Lib.hid hrow
  clear hrow hb4 hg5 HG4
  generalize w4.alloc (.cells #[.int .i64 i, .int .i64 j, .slice p4 n c4] 24) = w5 at HG5 HR2 HB2 HR4 HB4 ⊢
  have hLl : L.length ≤ 9223372036854775806 := Nat.le_trans HL.out.1 (by decide)
  have HSm := Lib.hid (sameR_any i j i j _ _ L L w5 HR2.out HR4.out hLl)
  rw [show sameD i j L i j L = true by unfold sameD; simp] at HSm
  have HEn := Lib.hid (fun (y : World) (hg : Gr w5 y) => encode_any i j _ L y (HR2.out.gr hg) hLl HL.out.2)
  have HVa := Lib.hid (fun (y : World) (hg : Gr w5 y) => valid_any i j _ L y (HR2.out.gr hg) hLl HL.out.2)
  clear hLl
  obtain ⟨k0, k1, k2⟩ := row3 HB2.out
  obtain ⟨l0, l1, l2⟩ := row3 HB4.out
  go_wp2_with fail
  clear k0 k1 k2 l0 l1 l2
  refine HSm.out.mono ?_
  rintro e w6 ⟨rfl, hg6⟩
  have HG6 := Lib.hid hg6
  replace HB2 := Lib.hid (hg6.block HB2.out)
  clear hg6 HSm HB4 HR4
  obtain ⟨k0, k1, k2⟩ := row3 HB2.out
  obtain ⟨EB, hEB⟩ : ∃ e, encB i j L = e := ⟨_, rfl⟩
  obtain ⟨EE, hEE⟩ : ∃ e, encE i j L = e := ⟨_, rfl⟩
  obtain ⟨VB, hVB⟩ : ∃ e, validD i j L = e := ⟨_, rfl⟩
  have hz := Hz.out
  rw [hEB, hEE, hVB] at hz
  rw [hEB, hEE] at HEn
  rw [hVB] at HVa
  have Hz2 := Lib.hid hz
  clear hz hEB hEE hVB Hz
  go_wp2_with fail
  clear k0 k1 k2
  refine (HEn.out w6 HG6.out).mono ?_
  rintro e w7 ⟨rfl, hg7⟩
  have HG7 := Lib.hid (HG6.out.trans hg7)
  replace HB2 := Lib.hid (hg7.block HB2.out)
  clear hg7 HEn HG6
  by_cases hzz : z = 0
  · obtain ⟨rfl, rfl, rfl⟩ := Hz2.out hzz
    subst hzz
    clear Hz2
    obtain ⟨k0, k1, k2⟩ := row3 HB2.out
    go_wp2_with fail
    clear k0 k1 k2
    refine (HVa.out w7 HG7.out).mono ?_
    rintro e w8 ⟨rfl, hg8⟩
    have HG8 := Lib.hid (HG5.out.trans (HG7.out.trans hg8))
    clear hg8 HVa
    go_wp2_with fail
    go_ret
    exact ⟨rfl, HG8.out⟩
  · have tz : (z == 0) = false := by rw [beq_eq_false_iff_ne]; exact hzz
    have tz2 : (z != 0) = true := by rw [bne, tz]; rfl
    have HG8 := Lib.hid (HG5.out.trans HG7.out)
    clear Hz2 HVa hzz
    go_wp2_with fail
    go_ret
    exact ⟨rfl, HG8.out⟩
end Go.Proofs.YtjnnhhengpinmaaGreatDoor
