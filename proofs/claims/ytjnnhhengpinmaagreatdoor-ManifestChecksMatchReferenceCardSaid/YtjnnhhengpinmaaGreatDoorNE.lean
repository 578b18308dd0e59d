/- The facts of the fixed examples, as plain Lean. -/
import Derived.Test.YtjnnhhengpinmaaGreatDoorNH
import Derived.Test.YtjnnhhengpinmaaGreatDoorNG
import Derived.Test.YtjnnhhengpinmaaGreatDoorND
import Derived.Test.YtjnnhhengpinmaaGreatDoorNA
import Derived.Test.YtjnnhhengpinmaaGreatDoorNN
import Derived.Test.YtjnnhhengpinmaaGreatDoorHeldP
namespace Go.Proofs.YtjnnhhengpinmaaGreatDoor
section
open Go Go.RowKit

def sP1 : ByteArray := ⟨#[97, 47, 120]⟩
def sP2 : ByteArray := ⟨#[98]⟩
def sP3 : ByteArray := ⟨#[99]⟩
def sH : ByteArray := ⟨#[104, 101, 108, 108, 111]⟩
def sA : ByteArray := ⟨#[104, 97, 108, 108, 111]⟩
def sE : ByteArray := ⟨#[]⟩
def sanL : List En := [⟨sP1, 3, 5, sha sH⟩, ⟨sP2, 0, 0, sha sE⟩]
theorem ents_san : entsD [sP1, sP2] [3, 0] [sH, sE] 2 = sanL := rfl
theorem goodP1 : goodB sP1 = true := by decide +kernel
theorem goodP2 : goodB sP2 = true := by decide +kernel
theorem san_valid : validD 5 1 sanL = true := by
  have h1 : entB ⟨sP1, 3, 5, sha sH⟩ = true := by
    unfold entB; simp only; rw [goodP1, sha_size]; decide
  have h2 : entB ⟨sP2, 0, 0, sha sE⟩ = true := by
    unfold entB; simp only; rw [goodP2, sha_size]; decide
  have h3 : ascN sanL sanL.length = true := by
    show (ltB sP1 sP2 && true) = true
    decide +kernel
  unfold validD
  rw [h3]
  show (headB 5 1 2 && ((entB _ && (entB _ && true)) && true)) = true
  rw [h1, h2]; decide
theorem san_bad : validD 5 1 (entsD [sP2, sP1] [0, 3] [sE, sH] 2) = false := by
  have h3 : ascN (entsD [sP2, sP1] [0, 3] [sE, sH] 2) 2 = false := by
    show (ltB sP2 sP1 && true) = false
    decide +kernel
  unfold validD
  rw [show (entsD [sP2, sP1] [0, 3] [sE, sH] 2).length = 2 from rfl, h3]; simp
theorem san_chk1 : checkD 5 1 sanL ([sP1, sP2].zip [sH, sE]) = [] := by decide +kernel
theorem san_chk2 : checkD 5 1 sanL ([sP1].zip [sH]) = [sP2] := by decide +kernel
theorem san_chk3 : checkD 5 1 sanL ([sP2, sP3, sP1].zip [sE, sE, sA]) = [sP1, sP3] := by decide +kernel
theorem san_prove : prI 5 1 sanL sP2 = some 1 := by unfold prI; rw [san_valid]; decide +kernel
theorem san_ver1 : verM (rootP 5 1 sanL) 5 1 2 1 ⟨sP2, 0, 0, sha sE⟩ (prP sanL (some 1)) = true := by decide +kernel
theorem san_ver2 : verM (rootP 5 1 sanL) 5 2 2 1 ⟨sP2, 0, 0, sha sE⟩ (prP sanL (some 1)) = false := by decide +kernel
theorem san_ver3 : verM (rootP 5 1 sanL) 5 1 2 0 ⟨sP2, 0, 0, sha sE⟩ (prP sanL (some 1)) = false := by decide +kernel
theorem san_enc : encB 5 1 sanL = hdB 5 1 2 ++ catL (sanL.map lineD) := by unfold encB; rw [san_valid]; rfl
theorem san_front : (encB 5 1 sanL).extract 0 3 = ⟨#[10, 2, 4]⟩ ∧ 3 ≤ (encB 5 1 sanL).size := by decide +kernel
theorem san_dec : decL (encB 5 1 sanL).data.toList = .ok (5, 1, sanL) := by
  rw [san_enc]
  exact decL_enc san_valid
theorem san_none : validD 0 0 [] = false := by decide
theorem san_len : (prP sanL (some 1)).length = 2 := by decide +kernel
theorem san_small : ∀ y ∈ prP sanL (some 1), y.size ≤ 1000 := by
  intro y hy
  rcases List.mem_cons.1 (show y ∈ rootD (sanL.map lineD) :: proofD (sanL.map lineD) 1 from hy) with rfl | hy
  · rw [rootD_size]; omega
  · rw [proof_all 2 (sanL.map lineD) 1 (by decide) y hy]; omega
theorem san_encE : encE 5 1 sanL = 0 := by unfold encE; rw [san_valid]; rfl
theorem san_same : sameD 5 1 sanL 5 1 sanL = true := by unfold sameD; simp
end
section
open Go Go.RowKit Go.Shelf
attribute [local go_sem] gAt gUpon pUpon
attribute [local simp] Gr.refl Gr.alloc

theorem strs_newAt (w : World) (L : List ByteArray) (n : Nat) (hn : n = L.length) (hl : L.length ≤ 1000) : StrsAt (.slice (some ⟨w.heap.size, 0, none⟩) n n) L (w.alloc (.cells (sC L).toArray 9)) := by
  subst hn; exact (strs_new w L (by unfold maxLen; omega)).strs
theorem strs_take {g off n c k : Nat} {L : List ByteArray} {w : World} (h : StrsAt (.slice (some ⟨g, off, none⟩) n c) L w) (hn : 0 < n) (hk : k ≤ n) : StrsAt (.slice (some ⟨g, off, none⟩) k c) (L.take k) w := by
  obtain ⟨g', off', he, -, -, -, hc⟩ := h.cut hn
  injection he with e1; injection e1 with e1 e2
  subst e1 e2
  exact (hc k hk).1
theorem san_ok : mkOk 5 1 [sP1, sP2] [3, 0] [sH, sE] = true := by
  unfold mkOk
  rw [show [sH, sE].length = 2 from rfl, ents_san, san_valid]; rfl
theorem san_no : mkOk 5 1 [sP2, sP1] [0, 3] [sE, sH] = false := by
  unfold mkOk
  rw [show [sE, sH].length = 2 from rfl, san_bad]; rfl
def pkgRow (b : Nat) (id ver : Int) (v : Value) (w : World) : Prop := w.heap[b]? = some (.cells #[.int .i64 id, .int .i64 ver, v] 24 (0, 0))
set_option maxRecDepth 100000 in
set_option maxHeartbeats 4000000 in
theorem sane_any (w : World) (hT : Tab w) : Calls Tryz.prog 13 #[] w fun e w' => e = .returned (.bool true) ∧ Gr w w' := by
  have HT := Lib.hid hT
  clear hT
  go_enter Tryz.func13, Tryz.ntmps13
  go_wp2_with fail
  have hX : ∃ W, ((w.alloc (.cells #[.string ⟨#[97, 47, 120]⟩, .string ⟨#[98]⟩] 9)).alloc (.cells #[.int .i64 3, .int .i64 0] 3)).alloc (.cells #[.string ⟨#[104, 101, 108, 108, 111]⟩, .string ⟨#[]⟩] 9) = W ∧ Gr w W ∧
      StrsAt (.slice (some ⟨w.heap.size, 0, none⟩) 2 2) [sP1, sP2] W ∧ Rws 1 inC (.slice (some ⟨w.heap.size + 1, 0, none⟩) 2 2) [3, 0] W ∧ StrsAt (.slice (some ⟨w.heap.size + 1 + 1, 0, none⟩) 2 2) [sH, sE] W := by
    refine ⟨_, rfl, ((Gr.alloc _ _).trans (Gr.alloc _ _)).trans (Gr.alloc _ _), ?_, ?_, ?_⟩
    · exact ((strs_newAt w [sP1, sP2] 2 rfl (by decide)).gr (Gr.alloc _ _)).gr (Gr.alloc _ _)
    · have := (rows_new (s := 1) (enc := inC) (fun _ => rfl) (w.alloc (.cells #[.string ⟨#[97, 47, 120]⟩, .string ⟨#[98]⟩] 9)) [3, 0] 3 2 rfl).gr (Gr.alloc _ (.cells #[.string ⟨#[104, 101, 108, 108, 111]⟩, .string ⟨#[]⟩] 9))
      rw [World.size_alloc] at this; exact this
    · have := strs_newAt ((w.alloc (.cells #[.string ⟨#[97, 47, 120]⟩, .string ⟨#[98]⟩] 9)).alloc (.cells #[.int .i64 3, .int .i64 0] 3)) [sH, sE] 2 rfl (by decide)
      rw [World.size_alloc, World.size_alloc] at this; exact this
  obtain ⟨W1, hW1, hG1, hv1, hv2, hv3⟩ := hX
  rw [hW1]
  clear hW1
  obtain ⟨b0, hb0⟩ : ∃ b, w.heap.size = b := ⟨_, rfl⟩
  have Hb0 := Lib.hid hb0
  rw [hb0] at hv1 hv2 hv3
  simp only [hb0]
  clear hb0
  have HG1 := Lib.hid hG1
  have HP1 := Lib.hid hv1
  have HMk := Lib.hid (make_any 5 1 _ _ _ [sP1, sP2] [3, 0] [sH, sE] W1 hv1 hv2 hv3 (by decide) (by decide) (by decide +kernel) (by decide +kernel) (HT.out.gr hG1))
  rw [san_ok] at HMk
  clear hG1 hv1 hv2 hv3
  refine HMk.out.mono ?_
  rintro e w2 ⟨v2, rfl, hO2, hg2⟩
  clear HMk
  have hO2 : Own W1.heap.size 4 v2 2 (sanL.flatMap enC) w2 := hO2
  obtain ⟨p2, c2, rfl⟩ := hO2.slice
  have HG2 := Lib.hid (HG1.out.trans hg2)
  have HP2 := Lib.hid (HP1.out.gr hg2)
  have HV2 : Hid (Rws 4 enC (.slice p2 2 c2) sanL w2) := Lib.hid (own_rws (l := sanL) enC_len hO2)
  clear hO2 hg2 HG1 HP1
  rw [show mkI true 5 = 5 from rfl, show mkI true 1 = 1 from rfl, show mkE true = 0 from rfl]
  go_upto_region 3 with fail
  have hrow := heap_alloc_new w2 (.cells #[.int .i64 5, .int .i64 1, .slice p2 2 c2] 24)
  obtain ⟨b2, hb2⟩ : ∃ b, w2.heap.size = b := ⟨_, rfl⟩
  rw [hb2] at hrow
  simp only [hb2]
  have HG3 := Lib.hid (HG2.out.trans (Gr.alloc w2 (.cells #[.int .i64 5, .int .i64 1, .slice p2 2 c2] 24)))
  have HP3 := Lib.hid (HP2.out.gr (Gr.alloc w2 (.cells #[.int .i64 5, .int .i64 1, .slice p2 2 c2] 24)))
  have HV3 := Lib.hid (HV2.out.gr (Gr.alloc w2 (.cells #[.int .i64 5, .int .i64 1, .slice p2 2 c2] 24)))
  have HR3 := Lib.hid hrow
  clear hrow HG2 HP2 HV2
  generalize w2.alloc (.cells #[.int .i64 5, .int .i64 1, .slice p2 2 c2] 24) = w3 at HG3 HP3 HV3 HR3 ⊢
  clear hb2
  obtain ⟨k0, k1, k2⟩ := row3 HR3.out
  go_wp2_with fail
  clear k0 k1 k2
  have hpa : ∀ x ∈ sanL, x.path.size ≤ 9223372036854775807 := by decide +kernel
  have HPa := Lib.hid hpa
  clear hpa
  refine (check_any 5 1 _ _ _ sanL [sP1, sP2] [sH, sE] _ (HV3.out.gr (Gr.alloc _ _)) (HP3.out.gr (Gr.alloc _ _)) (strs_newAt w3 [sH, sE] 2 rfl (by decide)) (by decide) (by decide) HPa.out (by decide +kernel) (by decide +kernel) (HT.out.gr (HG3.out.trans (Gr.alloc _ _)))).mono ?_
  rintro e w4 ⟨v4, rfl, ho4, hg4⟩
  rw [san_chk1] at ho4
  obtain ⟨p4, c4, rfl⟩ := ho4.strs.shape
  have hg4 := (Gr.alloc w3 _).trans hg4
  have HG4 := Lib.hid (HG3.out.trans hg4)
  have HP4 := Lib.hid (HP3.out.gr hg4)
  have HV4 := Lib.hid (HV3.out.gr hg4)
  have HR4 := Lib.hid (hg4.block HR3.out)
  clear ho4 hg4 HG3 HP3 HV3 HR3
  go_upto_region 6 with fail
  have hS0 : (fun y : World => y.cell? ⟨b2, 0, none⟩ = some (.int .i64 5) ∧ y.cell? ⟨b2, 1, none⟩ = some (.int .i64 1) ∧ y.cell? ⟨b2, 2, none⟩ = some (.slice p2 2 c2)) w4.drew := row3 HR4.out
  refine u_begin (fun y : World => y.cell? ⟨b2, 0, none⟩ = some (.int .i64 5) ∧ y.cell? ⟨b2, 1, none⟩ = some (.int .i64 1) ∧ y.cell? ⟨b2, 2, none⟩ = some (.slice p2 2 c2)) (fun _ => false) (by kernel_rfl) (by assumption) (fun hHeld => ?_)
  have HG5 := Lib.hid (HG4.out.trans (Gr.drew w4))
  have HP5 := Lib.hid (HP4.out.gr (Gr.drew w4))
  have HV5 := Lib.hid (HV4.out.gr (Gr.drew w4))
  have HR5 := Lib.hid ((Gr.drew w4).block HR4.out)
  clear HG4 HP4 HV4 HR4
  generalize w4.drew = wz at *
  refine u_take 0 (v := ?_) rfl rfl (by kernel_rfl) (by kernel_rfl) (by kernel_rfl) (by kernel_rfl) (fun _ _ _ h => h) (by rfl) (by assumption) ?_ ?_
  rotate_left
  · (intro w hSw; (try dsimp only at hSw); go_simp; try with_reducible rfl)
  try simp only [Act.put, List.setIfInBounds_toArray, List.set_cons_zero, List.set_cons_succ]
  refine u_take 1 (v := ?_) rfl rfl (by kernel_rfl) (by kernel_rfl) (by kernel_rfl) (by kernel_rfl) (fun _ _ _ h => h) (by rfl) (by assumption) ?_ ?_
  rotate_left
  · (intro w hSw; (try dsimp only at hSw); go_simp; try with_reducible rfl)
  try simp only [Act.put, List.setIfInBounds_toArray, List.set_cons_zero, List.set_cons_succ]
  refine u_take 2 (v := ?_) rfl rfl (by kernel_rfl) (by kernel_rfl) (by kernel_rfl) (by kernel_rfl) (fun _ _ _ h => h) (by rfl) (by assumption) ?_ ?_
  rotate_left
  · (intro w hSw; (try dsimp only at hSw); go_simp; try with_reducible rfl)
  try simp only [Act.put, List.setIfInBounds_toArray, List.set_cons_zero, List.set_cons_succ]
  refine u_step 3 (by kernel_rfl) rfl (by rfl) ?_
  go_simp
  refine ⟨row3 ((Gr.alloc wz _).block HR5.out), ?_⟩
  refine u_step 4 (by kernel_rfl) rfl (by rfl) ?_
  go_simp
  refine (check_any 5 1 _ _ _ sanL [sP1] [sH] _ (HV5.out.gr (Gr.alloc _ _)) (strs_take (HP5.out.gr (Gr.alloc _ _)) (by decide) (by decide)) (strs_newAt wz [sH] 1 rfl (by decide)) (by decide) (by decide) HPa.out (by decide +kernel) (by decide +kernel) (HT.out.gr (HG5.out.trans (Gr.alloc _ _)))).mono ?_
  rintro e w6 ⟨v6, rfl, ho6, hg6⟩
  rw [san_chk2] at ho6
  obtain ⟨p6, c6, rfl⟩ := ho6.strs.shape
  have hg6 := (Gr.alloc wz _).trans hg6
  have HG6 := Lib.hid (HG5.out.trans hg6)
  have HV6 := Lib.hid (HV5.out.gr hg6)
  have HR6 := Lib.hid (hg6.block HR5.out)
  have HA6 := Lib.hid ho6.strs
  refine .inl ⟨_, rfl, row3 HR6.out, ?_⟩
  clear ho6 hg6 HG5 HP5 HV5 HR5 hS0
  have hHeld : (fun y : World => y.cell? ⟨b2, 0, none⟩ = some (.int .i64 5) ∧ y.cell? ⟨b2, 1, none⟩ = some (.int .i64 1) ∧ y.cell? ⟨b2, 2, none⟩ = some (.slice p2 2 c2)) w6 := row3 HR6.out
  refine u_take 5 (v := ?_) rfl rfl (by kernel_rfl) (by kernel_rfl) (by kernel_rfl) (by kernel_rfl) (fun _ _ _ h => h) (by rfl) (by assumption) ?_ ?_
  rotate_left
  · (intro w hSw; (try dsimp only at hSw); go_simp; try with_reducible rfl)
  try simp only [Act.put, List.setIfInBounds_toArray, List.set_cons_zero, List.set_cons_succ]
  refine u_done (by kernel_rfl) ?_ _
  clear hHeld
  obtain ⟨k0, k1, k2⟩ := row3 HR6.out
  go_wp2_with fail
  clear k0 k1 k2
  have hs7 : StrsAt (.slice (some ⟨w6.heap.size + 1, 0, none⟩) 3 3) [sE, sE, sA] ((w6.alloc (.cells (sC [sP2, sP3, sP1]).toArray 9)).alloc (.cells (sC [sE, sE, sA]).toArray 9)) := by
    have := strs_newAt (w6.alloc (.cells (sC [sP2, sP3, sP1]).toArray 9)) [sE, sE, sA] 3 rfl (by decide)
    rw [World.size_alloc] at this; exact this
  refine (check_any 5 1 _ _ _ sanL [sP2, sP3, sP1] [sE, sE, sA] _ ((HV6.out.gr (Gr.alloc _ _)).gr (Gr.alloc _ _)) ((strs_newAt w6 [sP2, sP3, sP1] 3 rfl (by decide)).gr (Gr.alloc _ _)) hs7 (by decide) (by decide) HPa.out (by decide +kernel) (by decide +kernel) (HT.out.gr (HG6.out.trans ((Gr.alloc _ _).trans (Gr.alloc _ _))))).mono ?_
  clear hs7
  rintro e w7 ⟨v7, rfl, ho7, hg7⟩
  rw [san_chk3] at ho7
  obtain ⟨p7, c7, rfl⟩ := ho7.strs.shape
  have hg7 := ((Gr.alloc w6 _).trans (Gr.alloc _ _)).trans hg7
  have HG7 := Lib.hid (HG6.out.trans hg7)
  have HV7 := Lib.hid (HV6.out.gr hg7)
  have HR7 := Lib.hid (hg7.block HR6.out)
  have HA7 := Lib.hid (HA6.out.gr hg7)
  have HB7 := Lib.hid ho7.strs
  clear ho7 hg7 HG6 HV6 HR6 HA6
  obtain ⟨k0, k1, k2⟩ := row3 HR7.out
  go_wp2_with fail
  clear k0 k1 k2
  have HPr := Lib.hid (prove_any 5 1 _ sanL sP2 w7 HV7.out (by decide) HPa.out (HT.out.gr HG7.out))
  rw [san_prove] at HPr
  refine HPr.out.mono ?_
  rintro e w8 ⟨v8, rfl, ho8, hg8⟩
  clear HPr
  obtain ⟨p8, c8, rfl⟩ := ho8.strs.shape
  have HG8 := Lib.hid (HG7.out.trans hg8)
  have HV8 := Lib.hid (HV7.out.gr hg8)
  have HR8 := Lib.hid (hg8.block HR7.out)
  have HA8 := Lib.hid (HA7.out.gr hg8)
  have HB8 := Lib.hid (HB7.out.gr hg8)
  have HC8 := Lib.hid ho8.strs
  rw [san_len] at HC8 ⊢
  clear ho8 hg8 HG7 HV7 HR7 HA7 HB7
  rw [show enV (prE sanL (some 1)) = .agg #[.string sP2, .int .i64 0, .int .i64 0, .string (sha sE)] from rfl, show prN (some 1) = 1 from rfl, show prC (some 1) = 0 from rfl]
  obtain ⟨sD, hsD⟩ : ∃ d, sha sE = d := ⟨_, rfl⟩
  have HsD := Lib.hid hsD
  rw [hsD]
  clear hsD
  go_upto_region 9 with fail
  have hrow := heap_alloc_new w8 (.cells #[.string sP2, .int .i64 0, .int .i64 0, .string sD] 28)
  obtain ⟨b7, hb7⟩ : ∃ b, w8.heap.size = b := ⟨_, rfl⟩
  rw [hb7] at hrow
  simp only [hb7]
  have hg9 := Gr.alloc w8 (.cells #[.string sP2, .int .i64 0, .int .i64 0, .string sD] 28)
  have HG9 := Lib.hid (HG8.out.trans hg9)
  have HV9 := Lib.hid (HV8.out.gr hg9)
  have HR9 := Lib.hid (hg9.block HR8.out)
  have HA9 := Lib.hid (HA8.out.gr hg9)
  have HB9 := Lib.hid (HB8.out.gr hg9)
  have HC9 := Lib.hid (HC8.out.gr hg9)
  have HX9 := Lib.hid hrow
  clear hrow hg9 HG8 HV8 HR8 HA8 HB8 HC8 hb7
  generalize w8.alloc (.cells #[.string sP2, .int .i64 0, .int .i64 0, .string sD] 28) = w9 at *
  obtain ⟨k0, k1, k2⟩ := row3 HR9.out
  go_wp2_with fail
  clear k0 k1 k2
  refine (rootM_any 5 1 _ sanL w9 HV9.out (by decide) HPa.out (HT.out.gr HG9.out)).mono ?_
  rintro e wa ⟨rfl, hga⟩
  have HGa := Lib.hid (HG9.out.trans hga)
  have HVa := Lib.hid (HV9.out.gr hga)
  have HRa := Lib.hid (hga.block HR9.out)
  have HAa := Lib.hid (HA9.out.gr hga)
  have HBa := Lib.hid (HB9.out.gr hga)
  have HCa := Lib.hid (HC9.out.gr hga)
  have HXa := Lib.hid (hga.block HX9.out)
  obtain ⟨RT, hRT⟩ : ∃ r, rootP 5 1 sanL = r := ⟨_, rfl⟩
  have HRT := Lib.hid hRT
  rw [hRT]
  clear hRT hga HG9 HV9 HR9 HA9 HB9 HC9 HX9
  obtain ⟨k0, k1, k2⟩ := row3 HRa.out
  go_wp2_with fail
  clear k0 k1 k2
  refine (encode_any 5 1 _ sanL wa HVa.out (by decide) HPa.out).mono ?_
  rw [san_encE]
  rintro e wb ⟨rfl, hgb⟩
  have HGb := Lib.hid (HGa.out.trans hgb)
  have HVb := Lib.hid (HVa.out.gr hgb)
  have HRb := Lib.hid (hgb.block HRa.out)
  have HAb := Lib.hid (HAa.out.gr hgb)
  have HBb := Lib.hid (HBa.out.gr hgb)
  have HCb := Lib.hid (HCa.out.gr hgb)
  have HXb := Lib.hid (hgb.block HXa.out)
  have hfront := san_front
  have hdec := san_dec
  obtain ⟨S, hS⟩ : ∃ r, encB 5 1 sanL = r := ⟨_, rfl⟩
  rw [hS] at hfront hdec ⊢
  have HF := Lib.hid hfront
  have hSs : S.size ≤ 10000 := by rw [← hS]; decide +kernel
  have HDc := Lib.hid (decode_any S wb (by omega))
  rw [hdec] at HDc
  have HSs := Lib.hid hSs
  clear hS hfront hdec hgb hSs HGa HVa HRa HAa HBa HCa HXa
  go_wp2_with fail
  refine HDc.out.mono ?_
  rintro e wc ⟨vc, rfl, hoc, hgc⟩
  rw [show dcI (.ok (5, 1, sanL)) = 5 from rfl, show dcV (.ok (5, 1, sanL)) = 1 from rfl, show dcE (.ok (5, 1, sanL)) = 0 from rfl]
  have hoc : Own wb.heap.size 4 vc 2 (sanL.flatMap enC) wc := hoc
  obtain ⟨pc, cc, rfl⟩ := hoc.slice
  have HGc := Lib.hid (HGb.out.trans hgc)
  have HVc := Lib.hid (HVb.out.gr hgc)
  have HRc := Lib.hid (hgc.block HRb.out)
  have HAc := Lib.hid (HAb.out.gr hgc)
  have HBc := Lib.hid (HBb.out.gr hgc)
  have HCc := Lib.hid (HCb.out.gr hgc)
  have HXc := Lib.hid (hgc.block HXb.out)
  have HDc2 : Hid (Rws 4 enC (.slice pc 2 cc) sanL wc) := Lib.hid (own_rws (l := sanL) enC_len hoc)
  clear HDc hoc hgc HGb HVb HRb HAb HBb HCb HXb
  go_upto_region 12 with fail
  have hrow := heap_alloc_new wc (.cells #[.int .i64 5, .int .i64 1, .slice pc 2 cc] 24)
  obtain ⟨be, hbe⟩ : ∃ b, wc.heap.size = b := ⟨_, rfl⟩
  rw [hbe] at hrow
  simp only [hbe]
  have hgd := Gr.alloc wc (.cells #[.int .i64 5, .int .i64 1, .slice pc 2 cc] 24)
  have HGd := Lib.hid (HGc.out.trans hgd)
  have HVd := Lib.hid (HVc.out.gr hgd)
  have HRd := Lib.hid (hgd.block HRc.out)
  have HAd := Lib.hid (HAc.out.gr hgd)
  have HBd := Lib.hid (HBc.out.gr hgd)
  have HCd := Lib.hid (HCc.out.gr hgd)
  have HXd := Lib.hid (hgd.block HXc.out)
  have HDd := Lib.hid (HDc2.out.gr hgd)
  have HEd := Lib.hid hrow
  clear hrow hgd HGc HVc HRc HAc HBc HCc HXc HDc2 hbe
  generalize wc.alloc (.cells #[.int .i64 5, .int .i64 1, .slice pc 2 cc] 24) = wd at *
  go_wp2_with fail
  have hX : ∃ W, ((wd.alloc (.cells #[.string ⟨#[98]⟩, .string ⟨#[97, 47, 120]⟩] 9)).alloc (.cells #[.int .i64 0, .int .i64 3] 3)).alloc (.cells #[.string ⟨#[]⟩, .string ⟨#[104, 101, 108, 108, 111]⟩] 9) = W ∧ Gr wd W ∧
      StrsAt (.slice (some ⟨wd.heap.size, 0, none⟩) 2 2) [sP2, sP1] W ∧ Rws 1 inC (.slice (some ⟨wd.heap.size + 1, 0, none⟩) 2 2) [0, 3] W ∧ StrsAt (.slice (some ⟨wd.heap.size + 1 + 1, 0, none⟩) 2 2) [sE, sH] W := by
    refine ⟨_, rfl, ((Gr.alloc _ _).trans (Gr.alloc _ _)).trans (Gr.alloc _ _), ?_, ?_, ?_⟩
    · exact ((strs_newAt wd [sP2, sP1] 2 rfl (by decide)).gr (Gr.alloc _ _)).gr (Gr.alloc _ _)
    · have := (rows_new (s := 1) (enc := inC) (fun _ => rfl) (wd.alloc (.cells #[.string ⟨#[98]⟩, .string ⟨#[97, 47, 120]⟩] 9)) [0, 3] 3 2 rfl).gr (Gr.alloc _ (.cells #[.string ⟨#[]⟩, .string ⟨#[104, 101, 108, 108, 111]⟩] 9))
      rw [World.size_alloc] at this; exact this
    · have := strs_newAt ((wd.alloc (.cells #[.string ⟨#[98]⟩, .string ⟨#[97, 47, 120]⟩] 9)).alloc (.cells #[.int .i64 0, .int .i64 3] 3)) [sE, sH] 2 rfl (by decide)
      rw [World.size_alloc, World.size_alloc] at this; exact this
  obtain ⟨W2, hW2, hG2, hv1, hv2, hv3⟩ := hX
  rw [hW2]
  clear hW2
  have HMk := Lib.hid (make_any 5 1 _ _ _ [sP2, sP1] [0, 3] [sE, sH] W2 hv1 hv2 hv3 (by decide) (by decide) (by decide +kernel) (by decide +kernel) (HT.out.gr (HGd.out.trans hG2)))
  rw [san_no] at HMk
  clear hv1 hv2 hv3
  refine HMk.out.mono ?_
  rintro e wf ⟨vf, rfl, hof, hgf⟩
  have hof : Own W2.heap.size 4 vf 0 [] wf := hof
  obtain ⟨pf, cf, rfl⟩ := hof.slice
  rw [show mkI false 5 = 0 from rfl, show mkI false 1 = 0 from rfl, show mkE false = 140 from rfl]
  have hgf := hG2.trans hgf
  have HGf := Lib.hid (HGd.out.trans hgf)
  have HVf := Lib.hid (HVd.out.gr hgf)
  have HRf := Lib.hid (hgf.block HRd.out)
  have HAf := Lib.hid (HAd.out.gr hgf)
  have HBf := Lib.hid (HBd.out.gr hgf)
  have HCf := Lib.hid (HCd.out.gr hgf)
  have HXf := Lib.hid (hgf.block HXd.out)
  have HDf := Lib.hid (HDd.out.gr hgf)
  have HEf := Lib.hid (hgf.block HEd.out)
  clear HMk hof hgf hG2 HGd HVd HRd HAd HBd HCd HXd HDd HEd
  go_upto_region 13 with fail
  have hgg := Gr.alloc wf (.cells #[.int .i64 0, .int .i64 0, .slice pf 0 cf] 24)
  have HGg := Lib.hid (HGf.out.trans hgg)
  have HVg := Lib.hid (HVf.out.gr hgg)
  have HRg := Lib.hid (hgg.block HRf.out)
  have HAg := Lib.hid (HAf.out.gr hgg)
  have HBg := Lib.hid (HBf.out.gr hgg)
  have HCg := Lib.hid (HCf.out.gr hgg)
  have HXg := Lib.hid (hgg.block HXf.out)
  have HDg := Lib.hid (HDf.out.gr hgg)
  have HEg := Lib.hid (hgg.block HEf.out)
  clear hgg HGf HVf HRf HAf HBf HCf HXf HDf HEf
  generalize wf.alloc (.cells #[.int .i64 0, .int .i64 0, .slice pf 0 cf] 24) = wg at *
  go_wp2_with fail
  refine (sameS_any _ _ [sP2] [sP2] _ (HAg.out.gr (Gr.alloc _ _)) (strs_newAt wg [sP2] 1 rfl (by decide)) (by decide)).mono ?_
  rintro e wh ⟨rfl, hgh⟩
  rw [decide_eq_true rfl]
  have hgh := (Gr.alloc wg _).trans hgh
  have HGh := Lib.hid (HGg.out.trans hgh)
  have HBh := Lib.hid (HBg.out.gr hgh)
  go_wp2_with fail
  refine (sameS_any _ _ [sP1, sP3] [sP1, sP3] _ (HBh.out.gr (Gr.alloc _ _)) (strs_newAt wh [sP1, sP3] 2 rfl (by decide)) (by decide)).mono ?_
  rintro e wi ⟨rfl, hgi⟩
  rw [decide_eq_true rfl]
  have hgi := hgh.trans ((Gr.alloc wh _).trans hgi)
  have HGi := Lib.hid (HGg.out.trans hgi)
  have HVi := Lib.hid (HVg.out.gr hgi)
  have HRi := Lib.hid (hgi.block HRg.out)
  have HCi := Lib.hid (HCg.out.gr hgi)
  have HXi := Lib.hid (hgi.block HXg.out)
  have HDi := Lib.hid (HDg.out.gr hgi)
  have HEi := Lib.hid (hgi.block HEg.out)
  clear hgh hgi HGg HVg HRg HAg HBg HCg HXg HDg HEg HGh HBh
  obtain ⟨x0, x1, x2, x3⟩ := row4 HXi.out
  have tb : (sP2.toList == [98]) = true := by decide +kernel
  have hV1 := san_ver1
  have hV2 := san_ver2
  have hV3 := san_ver3
  rw [HRT.out, HsD.out] at hV1 hV2 hV3
  have HVer := Lib.hid (fun (a b c d : Int) (hc : c ≤ 9223372036854775807) y (hg : Gr wi y) => verifyM_any RT a b c d ⟨sP2, 0, 0, sD⟩ _ (prP sanL (some 1)) y (HCi.out.gr hg) (by rw [san_len]; decide) hc (show sP2.size ≤ 9223372036854775807 by decide +kernel) san_small (HT.out.gr (HGi.out.trans hg)))
  have HV1 := Lib.hid hV1
  have HV2 := Lib.hid hV2
  have HV3 := Lib.hid hV3
  clear hV1 hV2 hV3
  go_wp2_with fail
  refine (HVer.out 5 1 2 1 (by decide) _ (Gr.refl _)).mono ?_
  rintro e wj ⟨rfl, hgj⟩
  rw [HV1.out]
  have HXj := Lib.hid (hgj.block HXi.out)
  have HGj := Lib.hid hgj
  clear x0 x1 x2 x3 hgj
  obtain ⟨x0, x1, x2, x3⟩ := row4 HXj.out
  go_wp2_with fail
  refine (HVer.out 5 2 2 1 (by decide) _ HGj.out).mono ?_
  rintro e wk ⟨rfl, hgk⟩
  rw [HV2.out]
  have HXk := Lib.hid (hgk.block HXj.out)
  have HGk := Lib.hid (HGj.out.trans hgk)
  clear x0 x1 x2 x3 hgk
  obtain ⟨x0, x1, x2, x3⟩ := row4 HXk.out
  go_wp2_with fail
  refine (HVer.out 5 1 2 0 (by decide) _ HGk.out).mono ?_
  rintro e wl ⟨rfl, hgl⟩
  rw [HV3.out]
  have hg := HGk.out.trans hgl
  have HGl := Lib.hid (HGi.out.trans hg)
  have HVl := Lib.hid (HVi.out.gr hg)
  have HRl := Lib.hid (hg.block HRi.out)
  have HDl := Lib.hid (HDi.out.gr hg)
  have HEl := Lib.hid (hg.block HEi.out)
  clear x0 x1 x2 x3 hgl hg HVer HV1 HV2 HV3 HGi HVi HRi HCi HXi HDi HEi HGj HXj HGk HXk
  obtain ⟨hf1, hf2⟩ := HF.out
  have i3 : (3 : Int) ≤ (S.size : Int) := by omega
  have tf : ((S.extract 0 3).toList == [10, 2, 4]) = true := by rw [hf1]; decide +kernel
  clear hf1 hf2
  obtain ⟨k0, k1, k2⟩ := row3 HRl.out
  obtain ⟨j0, j1, j2⟩ := row3 HEl.out
  go_wp2_with fail
  refine (same_any 5 1 5 1 _ _ sanL sanL wl HVl.out HDl.out (by decide)).mono ?_
  rw [san_same]
  rintro e wm ⟨rfl, hgm⟩
  have HGm := Lib.hid (HGl.out.trans hgm)
  clear k0 k1 k2 j0 j1 j2 hgm
  have HVz := Lib.hid (fun y => valid_any 0 0 (.slice none 0 0) [] y (.inl ⟨rfl, _, _, rfl⟩) (by decide) (fun x hx => by cases hx))
  rw [san_none] at HVz
  go_wp2_with fail
  refine (HVz.out _).mono ?_
  rintro e wn ⟨rfl, hgn⟩
  have HGn := Lib.hid (HGm.out.trans hgn)
  go_wp2_with fail
  go_ret
  exact ⟨rfl, HGn.out⟩
end
end Go.Proofs.YtjnnhhengpinmaaGreatDoor
