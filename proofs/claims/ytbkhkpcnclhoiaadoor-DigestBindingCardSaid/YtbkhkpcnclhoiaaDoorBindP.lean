/- DigestBinding holds: on every input the statement's function returns true; the arguments read behind the call as they read before. Conditions: those that the given row bears (the table of round words lies as the program's text lays it, tied by the card). -/
import Derived.Test.YtbkhkpcnclhoiaaDoorBind
import Derived.Test.YtbkhkpcnclhoiaaDoorLaid
import Derived.Test.YtbkhkpcnclhoiaaDoorCards
import Derived.Test.YtbkhkpcnclhoiaaDoorTie
import Derived.SevenTiedAt
namespace Go.Proofs.YtbkhkpcnclhoiaaDoor
open Go Go.ChangeShapes Go.WideShapes Go.ChangeAt Go.RowKit
open Go.ChangeMaps (open_string shut_string)

set_option maxRecDepth 100000 in
theorem bind_lifted (os : Os) (started : os.Started) (H : Type) (enc : TypeId × Value → H) :
    ReturnsInHanded {} Tryd.checked os 6 .any (fun w args => (Rows.digestBindingSpec.pre enc Tryd.prog Tryd.f6 [] false w args ∧ laidMetH Tryd.prog laidL w) ∧ sizedMet enc Tryd.prog Tryd.f6 (OpenSpec.ofChange Rows.digestBindingSpec) false w args)
      (Rows.digestBindingSpec.post enc Tryd.prog Tryd.f6 false true false false) := by
  refine returnsInHanded_of_change_and (C := Tryd.checked) (X := fun w _ => laidMetH Tryd.prog laidL w) (fun _ _ _ hh h => h.of_heap hh) ownKn started (by kernel_rfl) Tryd.func6
    (ChangeSpec.witness_shaped (enc := enc) (C := Tryd.checked) (os := os) (X := fun w _ => laidMetH Tryd.prog laidL w) false (World.doorLaid Tryd.prog 400 os) #[.string ByteArray.empty, .int .i64 0, .int .i64 0, .string ByteArray.empty, .slice none 0 0, .string ByteArray.empty, .slice none 0 0] 8 rfl (World.shaped_of_RefB (by kernel_rfl) (by kernel_rfl)) (by kernel_rfl) (by kernel_rfl) (by kernel_rfl) (door_met os _)) ?_
  intro W base args ds gs before hval0 hW _ _ hL _
  have hval : ∀ (j : Nat) t v, Tryd.f6.params[j]? = some t → args[j]? = some v → Value.okWide Tryd.prog W .any base t v := hval0
  have hW' := hW
  obtain ⟨p, q, hA0, hV, rfl, hfz, hnd⟩ := hW
  have hA : DataW.TrodAll enc Tryd.prog W 0 (fun _ => true) true Tryd.f6.params.toList args.toList ds p := hA0
  have hlt : ∀ x ∈ p, x.block < W.heap.size := fun x hx => by simpa using hW'.lt x (List.mem_append_left _ hx)
  rw [Tryd.params6] at hA hval
  have hAk := hA
  obtain ⟨v0, vs0, d0, ds0, p0, q0, hargs, rfl, -, h0, r0⟩ := trodAll_cons hA
  obtain ⟨v1, vs1, d1, ds1, p1, q1, rfl, rfl, rfl, h1, r1⟩ := trodAll_cons r0
  obtain ⟨v2, vs2, d2, ds2, p2, q2, rfl, rfl, rfl, h2, r2⟩ := trodAll_cons r1
  obtain ⟨v3, vs3, d3, ds3, p3, q3, rfl, rfl, rfl, h3, r3⟩ := trodAll_cons r2
  obtain ⟨v4, vs4, d4, ds4, p4, q4, rfl, rfl, rfl, h4, r4⟩ := trodAll_cons r3
  obtain ⟨v5, vs5, d5, ds5, p5, q5, rfl, rfl, rfl, h5, r5⟩ := trodAll_cons r4
  obtain ⟨v6, vs6, d6, ds6, p6, q6, rfl, rfl, rfl, h6, r6⟩ := trodAll_cons r5
  obtain ⟨rfl, rfl, rfl⟩ := trodAll_nil r6
  obtain rfl : args = #[v0, v1, v2, v3, v4, v5, v6] := by cases args; simp_all
  obtain ⟨rfl, rfl⟩ := trodVars_none hV
  obtain ⟨s0, rfl, rfl, -, ws0⟩ := open_string Tryd.underlying9 (hval 0 9 v0 rfl rfl) h0
  obtain ⟨i1, rfl, rfl, -, wi1⟩ := open_int Tryd.underlying3 (hval 1 3 v1 rfl rfl) h1
  have bi1 := int_bounds wi1
  obtain ⟨i2, rfl, rfl, -, wi2⟩ := open_int Tryd.underlying3 (hval 2 3 v2 rfl rfl) h2
  have bi2 := int_bounds wi2
  obtain ⟨s3, rfl, rfl, -, ws3⟩ := open_string Tryd.underlying9 (hval 3 9 v3 rfl rfl) h3
  obtain ⟨l4, hl4, hs4⟩ := open_strs (hval 4 22 v4 rfl rfl) h4
  obtain ⟨s5, rfl, rfl, -, ws5⟩ := open_string Tryd.underlying9 (hval 5 9 v5 rfl rfl) h5
  obtain ⟨l6, hl6, hs6⟩ := open_strs (hval 6 22 v6 rfl rfl) h6
  have hT := tab_of_laid hL
  simp only [List.append_nil] at hW'
  refine (bind_any s0 i1 i2 s3 v4 l4 s5 v6 l6 W (by unfold maxLen at ws0; omega) bi1 bi2 (by unfold maxLen at ws3; omega) hl4 (by unfold maxLen at ws5; omega) hl6 hT).mono fun e W' ⟨he, hg⟩ => ?_
  subst he
  have hb : Below W.heap.size W W' := hg
  refine ⟨_, rfl, _, _, _, [], p, [], hW', trodAll_mk1 (shut_bool Tryd.underlying4 true), ?_, rfl, hb.frame _, fun h => by cases h⟩
  refine trodAll_below hb ?_ hAk hlt
  refine List.forall_mem_cons.2 ⟨⟨by kernel_rfl, of_decide_eq_true (by kernel_rfl)⟩, ?_⟩
  refine List.forall_mem_cons.2 ⟨⟨by kernel_rfl, of_decide_eq_true (by kernel_rfl)⟩, ?_⟩
  refine List.forall_mem_cons.2 ⟨⟨by kernel_rfl, of_decide_eq_true (by kernel_rfl)⟩, ?_⟩
  refine List.forall_mem_cons.2 ⟨⟨by kernel_rfl, of_decide_eq_true (by kernel_rfl)⟩, ?_⟩
  refine List.forall_mem_cons.2 ⟨⟨by kernel_rfl, of_decide_eq_true (by kernel_rfl)⟩, ?_⟩
  refine List.forall_mem_cons.2 ⟨⟨by kernel_rfl, of_decide_eq_true (by kernel_rfl)⟩, ?_⟩
  refine List.forall_mem_cons.2 ⟨⟨by kernel_rfl, of_decide_eq_true (by kernel_rfl)⟩, ?_⟩
  exact fun t ht => by cases ht

theorem bind_over : Rows.DigestBindingSaid :=
  OpenClaim.holds_of_wide 6 Tryd.f6 rfl rfl rfl rfl rfl rfl rfl ⟨rfl, rfl, rfl, rfl, rfl⟩ rfl rfl rfl rfl rfl (by kernel_rfl) Tryd.func6 (by kernel_rfl)
    (of_decide_eq_true (by kernel_rfl)) (by unfold Func.isWrapper; first | (rw [if_pos (by decide +kernel)]; kernel_rfl) | (rw [if_neg (by decide +kernel)]; exact ⟨rfl, rfl⟩))
    (fun os started H enc _ => bind_lifted os started H enc)

theorem bind_card : Rows.DigestBindingCardSaid :=
  Claim7.holds_tied_plain_at .later [] [.data] true (true, "309da707cf0649e4399423c3c1892b51e0512c9013bcd224c3553f39336357a1") false
    bind_over (fun _ h => by cases h) (by kernel_rfl) (fun _ h => by cases h) digestBinding_row_tie rfl ⟨rfl, rfl⟩ (by kernel_rfl) rfl
    (fun f fn hf hfn => by
      obtain rfl : f = 6 := Option.some.inj ((show Tryd.prog.funcNamed "evergreen/evergreenlaw02.DigestBinding" = some 6 by kernel_rfl).symm.trans hf) |>.symm
      obtain rfl : fn = Tryd.f6 := (Option.some.inj (Tryd.func6.symm.trans hfn)).symm
      refine ⟨by kernel_rfl, fun j t ht => ?_⟩
      rw [Tryd.params6] at ht
      have hm := Array.mem_of_getElem? ht
      have hall : ∀ t ∈ [9, 3, 3, 9, 22, 9, 22], Tryd.prog.wantsStandIn t = false := by
        refine List.forall_mem_cons.2 ⟨by kernel_rfl, ?_⟩
        refine List.forall_mem_cons.2 ⟨by kernel_rfl, ?_⟩
        refine List.forall_mem_cons.2 ⟨by kernel_rfl, ?_⟩
        refine List.forall_mem_cons.2 ⟨by kernel_rfl, ?_⟩
        refine List.forall_mem_cons.2 ⟨by kernel_rfl, ?_⟩
        refine List.forall_mem_cons.2 ⟨by kernel_rfl, ?_⟩
        refine List.forall_mem_cons.2 ⟨by kernel_rfl, ?_⟩
        exact fun t ht => by cases ht
      exact hall t (by simpa using hm))
    (by kernel_rfl)
#print axioms bind_card
end Go.Proofs.YtbkhkpcnclhoiaaDoor
