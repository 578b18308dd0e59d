/- RedactTexts holds: on every input the statement's function returns true; the arguments read behind the call as they read before. Conditions: those that the given row bears (the listed tables lie as the program's text lays them, tied by the card). -/
import Derived.Test.YtakhomofckcckaaGreatDoorTexts
import Derived.Test.YtakhomofckcckaaGreatDoorMT
import Derived.Test.YtakhomofckcckaaGreatDoorCards
import Derived.Test.YtakhomofckcckaaGreatDoorTie
import Derived.SevenTiedAt
namespace Go.Proofs.YtakhomofckcckaaGreatDoor
open Go Go.ChangeShapes Go.WideShapes Go.ChangeAt Go.RowKit
open Go.ChangeMaps (open_string shut_string)

set_option maxRecDepth 100000 in
theorem texts_lifted (os : Os) (started : os.Started) (H : Type) (enc : TypeId × Value → H) :
    ReturnsInHanded {} Tryz.checked os 6 .any (fun w args => (Rows.redactTextsSpec.pre enc Tryz.prog Tryz.f6 [] false w args ∧ laidMetH Tryz.prog laidL w) ∧ sizedMet enc Tryz.prog Tryz.f6 (OpenSpec.ofChange Rows.redactTextsSpec) false w args)
      (Rows.redactTextsSpec.post enc Tryz.prog Tryz.f6 false true false false) := by
  refine returnsInHanded_of_change_and (C := Tryz.checked) (X := fun w _ => laidMetH Tryz.prog laidL w) (fun _ _ _ hh h => h.of_heap hh) ownKn started (by kernel_rfl) Tryz.func6
    (ChangeSpec.witness_shaped (enc := enc) (C := Tryz.checked) (os := os) (X := fun w _ => laidMetH Tryz.prog laidL w) false (World.laidAll Tryz.prog os laidL) #[.agg #[.slice none 0 0, .slice none 0 0, .int .i64 0, .int .i64 0, .string ByteArray.empty], .agg #[.slice none 0 0, .slice none 0 0, .int .i64 0, .int .i64 0, .string ByteArray.empty]] 8 (World.laidAll_os _ _ _) (World.shaped_of_ZipB (by kernel_rfl) (by kernel_rfl)) (by kernel_rfl) (by kernel_rfl) (by kernel_rfl) (laid_met os _)) ?_
  intro W base args ds gs before hval0 hW _ _ hL _
  have hval : ∀ (j : Nat) t v, Tryz.f6.params[j]? = some t → args[j]? = some v → Value.okWide Tryz.prog W .any base t v := hval0
  have hW' := hW
  obtain ⟨p, q, hA0, hV, rfl, hfz, hnd⟩ := hW
  have hA : DataW.TrodAll enc Tryz.prog W 0 (fun _ => true) true Tryz.f6.params.toList args.toList ds p := hA0
  have hlt : ∀ x ∈ p, x.block < W.heap.size := fun x hx => by simpa using hW'.lt x (List.mem_append_left _ hx)
  rw [Tryz.params6] at hA hval
  have hAk := hA
  obtain ⟨v0, vs0, d0, ds0, p0, q0, hargs, rfl, -, h0, r0⟩ := trodAll_cons hA
  obtain ⟨v1, vs1, d1, ds1, p1, q1, rfl, rfl, rfl, h1, r1⟩ := trodAll_cons r0
  obtain ⟨rfl, rfl, rfl⟩ := trodAll_nil r1
  obtain rfl : args = #[v0, v1] := by cases args; simp_all
  obtain ⟨rfl, rfl⟩ := trodVars_none hV
  obtain ⟨a0, b0, x0, y0, s0, rfl, hc0, ws0⟩ := open_case (hval 0 30 v0 rfl rfl) h0
  obtain ⟨a1, b1, x1, y1, s1, rfl, hc1, ws1⟩ := open_case (hval 1 30 v1 rfl rfl) h1
  have hT := tab_of_laid hL
  simp only [List.append_nil] at hW'
  refine (texts_any a0 b0 x0 y0 s0 a1 b1 x1 y1 s1 W hc0 (by unfold maxLen at ws0; omega) hc1 (by unfold maxLen at ws1; omega) hT).mono fun e W' ⟨he, hg⟩ => ?_
  subst he
  have hb : Below W.heap.size W W' := hg
  refine ⟨_, rfl, _, _, _, [], p, [], hW', trodAll_mk1 (shut_bool Tryz.underlying4 true), ?_, rfl, hb.frame _, fun h => by cases h⟩
  refine trodAll_below hb ?_ hAk hlt
  refine List.forall_mem_cons.2 ⟨⟨by kernel_rfl, of_decide_eq_true (by kernel_rfl)⟩, ?_⟩
  refine List.forall_mem_cons.2 ⟨⟨by kernel_rfl, of_decide_eq_true (by kernel_rfl)⟩, ?_⟩
  exact fun t ht => by cases ht

theorem texts_over : Rows.RedactTextsSaid :=
  OpenClaim.holds_of_wide 6 Tryz.f6 rfl rfl rfl rfl rfl rfl rfl ⟨rfl, rfl, rfl, rfl, rfl⟩ rfl rfl rfl rfl rfl (by kernel_rfl) Tryz.func6 (by kernel_rfl)
    (of_decide_eq_true (by kernel_rfl)) (by unfold Func.isWrapper; first | (rw [if_pos (by decide +kernel)]; kernel_rfl) | (rw [if_neg (by decide +kernel)]; exact ⟨rfl, rfl⟩))
    (fun os started H enc _ => texts_lifted os started H enc)

theorem texts_card : Rows.RedactTextsCardSaid :=
  Claim7.holds_tied_plain_at .later [] [.data, .data, .pinned] true (true, "488f1dd3583e3bef20361dc561b0f256697fff4a7cfd66c3831747d0ecf408f0") false
    texts_over (fun _ h => by cases h) (by kernel_rfl) (fun _ h => by cases h) redactTexts_row_tie rfl ⟨rfl, rfl⟩ (by kernel_rfl) rfl
    (fun f fn hf hfn => by
      obtain rfl : f = 6 := Option.some.inj ((show Tryz.prog.funcNamed "evergreen/evergreenlaw23.RedactTexts" = some 6 by kernel_rfl).symm.trans hf) |>.symm
      obtain rfl : fn = Tryz.f6 := (Option.some.inj (Tryz.func6.symm.trans hfn)).symm
      refine ⟨by kernel_rfl, fun j t ht => ?_⟩
      rw [Tryz.params6] at ht
      have hm := Array.mem_of_getElem? ht
      have hall : ∀ t ∈ [30, 30], Tryz.prog.wantsStandIn t = false := by
        refine List.forall_mem_cons.2 ⟨by kernel_rfl, ?_⟩
        refine List.forall_mem_cons.2 ⟨by kernel_rfl, ?_⟩
        exact fun t ht => by cases ht
      exact hall t (by simpa using hm))
    (by kernel_rfl)
#print axioms texts_card
end Go.Proofs.YtakhomofckcckaaGreatDoor
