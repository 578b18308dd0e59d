/- The walk of the statements' helper sane. -/
import Derived.Test.YtbkhkpcnclhoiaaDoorSane
namespace Go.Proofs.YtbkhkpcnclhoiaaDoor
open Go.RowKit Go.Shelf
attribute [local go_sem] gAt gUpon
attribute [local simp] Gr.refl Gr.alloc

theorem s3_at (w : World) : StrsAt (.slice (some ⟨w.heap.size, 0, none⟩) 3 3) s3 (w.alloc (.cells #[.string ⟨#[97]⟩, .string ⟨#[98]⟩, .string ⟨#[99]⟩] 9)) := by
  refine .inr ⟨w.heap.size, 0, 3, rfl, by decide, by unfold maxLen; omega, ?_⟩
  intro j x hj
  have := row_new w [.string ⟨#[97]⟩, .string ⟨#[98]⟩, .string ⟨#[99]⟩] 9 rfl j (.string x) (by
    match j, hj with
    | 0, hj => cases hj; rfl
    | 1, hj => cases hj; rfl
    | 2, hj => cases hj; rfl)
  rw [Addr.add_mid] at this
  exact this
theorem s3_small : ∀ x ∈ s3, x.size ≤ 140737488354000 := by
  intro x hx
  simp [s3] at hx
  rcases hx with rfl | rfl | rfl <;> decide

set_option maxRecDepth 100000 in
set_option maxHeartbeats 4000000 in
theorem sane_any (w : World) (hT : Tab w) :
    Calls Tryd.prog 11 #[] w fun e w' => e = .returned (.bool true) ∧ Gr w w' := by
  have HT := Lib.hid hT
  have HL := Lib.hid (s3_at w)
  have HW : Hid (Gr w (w.alloc (.cells #[.string ⟨#[97]⟩, .string ⟨#[98]⟩, .string ⟨#[99]⟩] 9))) := Lib.hid (Gr.alloc _ _)
  clear hT
  go_enter Tryd.func11, Tryd.ntmps11
  go_wp2_with fail
  generalize w.alloc (.cells #[.string ⟨#[97]⟩, .string ⟨#[98]⟩, .string ⟨#[99]⟩] 9) = w0 at HL HW ⊢
  refine (proof_in _ s3 2 w0 HL.out (by decide) (by decide) s3_small (HT.out.gr HW.out)).mono ?_
  rintro e w1 ⟨u1, rfl, ho1, hg1⟩
  rw [s3_proof] at ho1
  obtain ⟨p1, c1, rfl⟩ := ho1.slice
  have HO1 := Lib.hid ho1
  have HG1 := Lib.hid (HW.out.trans hg1)
  have HL1 := Lib.hid (HL.out.gr hg1)
  clear ho1 hg1 HL HW
  go_wp2_with fail
  refine (ext_in _ s3 1 w1 HL1.out (by decide) (by decide) (by decide) s3_small (HT.out.gr HG1.out)).mono ?_
  rintro e w2 ⟨u2, rfl, ho2, hg2⟩
  rw [s3_ext] at ho2
  obtain ⟨p2, c2, rfl⟩ := ho2.slice
  have HO2 := Lib.hid ho2
  have HG2 := Lib.hid (HG1.out.trans hg2)
  have HL2 := Lib.hid (HL1.out.gr hg2)
  have HP2 := Lib.hid (HO1.out.gr hg2)
  clear ho2 hg2 HL1 HG1 HO1
  go_wp2_with fail
  refine (proof_arg _ s3 3 w2 HL2.out (by decide)).mono ?_
  rintro e w3 ⟨rfl, rfl⟩
  go_wp2_with fail
  refine (root_any _ s3 w2 HL2.out (by decide) s3_small (HT.out.gr HG2.out)).mono ?_
  rintro e w4 ⟨rfl, hg4⟩
  have HG4 := Lib.hid (HG2.out.trans hg4)
  have HL4 := Lib.hid (HL2.out.gr hg4)
  have HP4 := Lib.hid (HP2.out.gr hg4)
  have HX4 := Lib.hid (HO2.out.gr hg4)
  clear hg4 HL2 HG2 HO2 HP2
  have hs0 := sha_size ⟨#[]⟩
  have hsA := sha_size abc
  have HH0 := hex0_eq
  have HHA := hexABC_eq
  have HSum0 := Lib.hid (sum_any ⟨#[]⟩ w4 (by decide) (HT.out.gr HG4.out))
  have HSumA : Hid (∀ w, Tab w → Calls Tryd.prog 27 #[.string ⟨#[97, 98, 99]⟩] w fun e w' => e = .returned (.string (sha abc)) ∧ Gr w w') := Lib.hid (fun w h => sum_any abc w (by decide) h)
  generalize sha ⟨#[]⟩ = h0 at hs0 HH0 HSum0
  generalize sha abc = hA at hsA HHA HSumA
  have HC0 : Hid (∀ w, Calls Tryd.prog 36 #[.string h0] w fun e w' => e = .returned (.string hex0) ∧ Gr w w') := Lib.hid (fun w => by
    have := hex_any h0 w (by omega); rw [HH0] at this; exact this)
  have HCA : Hid (∀ w, Calls Tryd.prog 36 #[.string hA] w fun e w' => e = .returned (.string hexABC) ∧ Gr w w') := Lib.hid (fun w => by
    have := hex_any hA w (by omega); rw [HHA] at this; exact this)
  clear HH0 HHA hs0 hsA
  unfold hex0 at HC0
  unfold hexABC at HCA
  go_wp2_with fail
  refine HSum0.out.mono ?_
  rintro e w5 ⟨rfl, hg5⟩
  go_wp2_with fail
  refine (HC0.out _).mono ?_
  rintro e w6 ⟨rfl, hg6⟩
  have HG6 := Lib.hid (HG4.out.trans (hg5.trans hg6))
  have HL6 := Lib.hid (HL4.out.gr (hg5.trans hg6))
  have HP6 := Lib.hid (HP4.out.gr (hg5.trans hg6))
  have HX6 := Lib.hid (HX4.out.gr (hg5.trans hg6))
  clear hg5 hg6 HG4 HL4 HP4 HX4 HC0 HSum0
  go_wp2_with fail
  refine (HSumA.out _ (HT.out.gr HG6.out)).mono ?_
  rintro e w7 ⟨rfl, hg7⟩
  go_wp2_with fail
  refine (HCA.out _).mono ?_
  rintro e w8 ⟨rfl, hg8⟩
  have HG8 := Lib.hid (HG6.out.trans (hg7.trans hg8))
  have HL8 := Lib.hid (HL6.out.gr (hg7.trans hg8))
  have HP8 := Lib.hid (HP6.out.gr (hg7.trans hg8)).strs.2
  have HX8 := Lib.hid (HX6.out.gr (hg7.trans hg8)).strs.2
  clear hg7 hg8 HG6 HL6 HP6 HX6 HCA HSumA
  have HV1 := Lib.hid (verify_any (rootD s3) ⟨#[99]⟩ 3 2 (.slice p1 1 c1) (proofD s3 2) w8 HP8.out (by rw [s3_proof]; decide) (by decide) (by decide) (HT.out.gr HG8.out))
  rw [s3_v1] at HV1
  have hR := s3_v2
  have HVd := fun w h1 h2 => verify_any (rootD s3) ⟨#[100]⟩ 3 2 (.slice p1 1 c1) (proofD s3 2) w h1 (by rw [s3_proof]; decide) (by decide) (by decide) h2
  have HVe := fun w h1 h2 => vext_any (rootD (s3.take 1)) (rootD s3) 1 3 (.slice p2 2 c2) (extD s3 1 true) w h1 (by rw [s3_ext]; decide) (by decide) h2
  have HVf := fun w h1 h2 => vext_any (rootD (s3.take 2)) (rootD s3) 1 3 (.slice p2 2 c2) (extD s3 1 true) w h1 (by rw [s3_ext]; decide) (by decide) h2
  rw [s3_v2] at HVd
  rw [s3_e1] at HVe
  rw [s3_e2] at HVf
  have HV2 := Lib.hid HVd
  have HV3 := Lib.hid HVe
  have HV4 := Lib.hid HVf
  clear HVd HVe HVf hR
  generalize rootD s3 = R at HV1 HV2 HV3 HV4 ⊢
  go_wp2_with fail
  refine HV1.out.mono ?_
  rintro e w9 ⟨rfl, hg9⟩
  have HG9 := Lib.hid (HG8.out.trans hg9)
  have HL9 := Lib.hid (HL8.out.gr hg9)
  have HP9 := Lib.hid (HP8.out.gr hg9)
  have HX9 := Lib.hid (HX8.out.gr hg9)
  clear hg9 HG8 HL8 HP8 HX8 HV1
  go_wp2_with fail
  refine (HV2.out w9 HP9.out (HT.out.gr HG9.out)).mono ?_
  rintro e w10 ⟨rfl, hg⟩
  have HG10 := Lib.hid (HG9.out.trans hg)
  have HL10 := Lib.hid (HL9.out.gr hg)
  have HX10 := Lib.hid (HX9.out.gr hg)
  clear hg HG9 HL9 HP9 HX9 HV2
  go_wp2_with fail
  have hcut := HL10.out.cut (by decide)
  obtain ⟨g, off, hgo, -, -, -, hcut⟩ := hcut
  injection hgo with hgo
  injection hgo with e1 e2
  subst e1 e2
  refine (root_any _ (s3.take 1) w10 (hcut 1 (by decide)).1 (by decide) (fun x hx => s3_small x (List.mem_of_mem_take hx)) (HT.out.gr HG10.out)).mono ?_
  rintro e w11 ⟨rfl, hg⟩
  have HG11 := Lib.hid (HG10.out.trans hg)
  have HC2 := Lib.hid ((hcut 2 (by decide)).1.gr hg)
  have HX11 := Lib.hid (HX10.out.gr hg)
  clear hg hcut HG10 HL10 HX10
  generalize rootD (s3.take 1) = R1 at HV3 ⊢
  go_wp2_with fail
  refine (HV3.out w11 HX11.out (HT.out.gr HG11.out)).mono ?_
  rintro e w12 ⟨rfl, hg⟩
  have HG12 := Lib.hid (HG11.out.trans hg)
  have HD2 := Lib.hid (HC2.out.gr hg)
  have HX12 := Lib.hid (HX11.out.gr hg)
  clear hg HG11 HC2 HX11 HV3
  go_wp2_with fail
  refine (root_any _ (s3.take 2) w12 HD2.out (by decide) (fun x hx => s3_small x (List.mem_of_mem_take hx)) (HT.out.gr HG12.out)).mono ?_
  rintro e w13 ⟨rfl, hg⟩
  have HG13 := Lib.hid (HG12.out.trans hg)
  have HX13 := Lib.hid (HX12.out.gr hg)
  clear hg HG12 HD2 HX12
  generalize rootD (s3.take 2) = R2 at HV4 ⊢
  go_wp2_with fail
  refine (HV4.out w13 HX13.out (HT.out.gr HG13.out)).mono ?_
  rintro e w14 ⟨rfl, hg⟩
  have HG14 := Lib.hid (HG13.out.trans hg)
  clear hg HG13 HX13 HV4
  go_wp2_with fail
  go_ret
  exact ⟨rfl, HG14.out⟩
end Go.Proofs.YtbkhkpcnclhoiaaDoor
