/- TopFixed holds: on every input the statement's function returns true; the arguments read behind the call as they read before. Conditions: those that the given row bears (the listed tables lie as the program's text lays them, tied by the card). -/
import Derived.Test.YtaoggehdkddgeaaGreatDoorTfW
import Derived.Test.YtaoggehdkddgeaaGreatDoorLaidT
import Derived.Test.YtaoggehdkddgeaaGreatDoorCards
import Derived.Test.YtaoggehdkddgeaaGreatDoorTie
import Derived.SevenTiedAt
namespace Go.Proofs.YtaoggehdkddgeaaGreatDoor
open Go Go.ChangeShapes Go.WideShapes Go.ChangeAt Go.RowKit
open Go.ChangeMaps (open_string shut_string)

set_option maxRecDepth 100000 in
theorem top_lifted (os : Os) (started : os.Started) (H : Type) (enc : TypeId × Value → H) :
    ReturnsInHanded {} Tryz.checked os 3 .any (fun w args => (Rows.topFixedSpec.pre enc Tryz.prog Tryz.f3 [] false w args ∧ laidMetH Tryz.prog laidL w) ∧ sizedMet enc Tryz.prog Tryz.f3 (OpenSpec.ofChange Rows.topFixedSpec) false w args)
      (Rows.topFixedSpec.post enc Tryz.prog Tryz.f3 false true false false) := by
  refine returnsInHanded_of_change_and (C := Tryz.checked) (X := fun w _ => laidMetH Tryz.prog laidL w) (fun _ _ _ hh h => h.of_heap hh) ownKn started (by kernel_rfl) Tryz.func3
    (ChangeSpec.witness_shaped (enc := enc) (C := Tryz.checked) (os := os) (X := fun w _ => laidMetH Tryz.prog laidL w) false (World.laidAll Tryz.prog os laidL) #[.agg #[.slice none 0 0, .slice none 0 0, .int .i64 0, .int .i64 0], .slice none 0 0, .int .i64 0, .string ByteArray.empty] 8 (World.laidAll_os _ _ _) (World.shaped_of_ZipB (by kernel_rfl) (by kernel_rfl)) (by kernel_rfl) (by kernel_rfl) (by kernel_rfl) (laid_met os _)) ?_
  intro W base args ds gs before hval0 hW _ hsz0 hL _
  have hval : ∀ (j : Nat) t v, Tryz.f3.params[j]? = some t → args[j]? = some v → Value.okWide Tryz.prog W .any base t v := hval0
  have hW' := hW
  obtain ⟨p, q, hA0, hV, rfl, hfz, hnd⟩ := hW
  have hA : DataW.TrodAll enc Tryz.prog W 0 (fun _ => true) true Tryz.f3.params.toList args.toList ds p := hA0
  have hlt : ∀ x ∈ p, x.block < W.heap.size := fun x hx => by simpa using hW'.lt x (List.mem_append_left _ hx)
  have hsz : (DataW.weightsEach Tryz.prog (Tryz.f3.params.toList ++ Rows.topFixedSpec.plain.varTypes Tryz.prog) (ds ++ gs)).all (· ≤ reachBytes) = true := hsz0
  rw [Tryz.params3] at hA hval hsz
  have hAk := hA
  obtain ⟨v0, vs0, d0, ds0, p0, q0, hargs, rfl, -, h0, r0⟩ := trodAll_cons hA
  obtain ⟨v1, vs1, d1, ds1, p1, q1, rfl, rfl, rfl, h1, r1⟩ := trodAll_cons r0
  obtain ⟨v2, vs2, d2, ds2, p2, q2, rfl, rfl, rfl, h2, r2⟩ := trodAll_cons r1
  obtain ⟨v3, vs3, d3, ds3, p3, q3, rfl, rfl, rfl, h3, r3⟩ := trodAll_cons r2
  obtain ⟨rfl, rfl, rfl⟩ := trodAll_nil r3
  obtain rfl : args = #[v0, v1, v2, v3] := by cases args; simp_all
  obtain ⟨rfl, rfl⟩ := trodVars_none hV
  have hw1 : ∀ n ∈ d1.weights Tryz.prog 27, n ≤ reachBytes := fun n hn => by simpa using List.all_eq_true.1 hsz n (DataW.weights_mem_each (j := 1) (t := 27) rfl rfl n hn)
  have hw3 : ∀ n ∈ d3.weights Tryz.prog 9, n ≤ reachBytes := fun n hn => by simpa using List.all_eq_true.1 hsz n (DataW.weights_mem_each (j := 3) (t := 9) rfl rfl n hn)
  obtain ⟨a0, b0, x0, y0, rfl, hc0⟩ := open_case (hval 0 26 v0 rfl rfl) h0
  obtain ⟨l1, hl1, hs1⟩ := open_strs (hval 1 27 v1 rfl rfl) h1
  obtain ⟨i2, rfl, rfl, -, wi2⟩ := open_int Tryz.underlying3 (hval 2 3 v2 rfl rfl) h2
  have bi2 := i64_of_wf wi2
  obtain ⟨s3, rfl, rfl, -, ws3⟩ := open_string Tryz.underlying9 (hval 3 9 v3 rfl rfl) h3
  have hT := tab_of_laid hL
  simp only [List.append_nil] at hW'
  refine (top_any a0 b0 x0 y0 v1 l1 i2 s3 W hc0 hl1 (reach_len (hs1 hw1).1) (reach_sizes (hs1 hw1).2) bi2 (Nat.le_trans (reach_str hw3) (by decide)) hT).mono fun e W' ⟨he, hg⟩ => ?_
  subst he
  have hb : Below W.heap.size W W' := hg
  refine ⟨_, rfl, _, _, _, [], p, [], hW', trodAll_mk1 (shut_bool Tryz.underlying4 true), ?_, rfl, hb.frame _, fun h => by cases h⟩
  refine trodAll_below hb ?_ hAk hlt
  refine List.forall_mem_cons.2 ⟨⟨by kernel_rfl, of_decide_eq_true (by kernel_rfl)⟩, ?_⟩
  refine List.forall_mem_cons.2 ⟨⟨by kernel_rfl, of_decide_eq_true (by kernel_rfl)⟩, ?_⟩
  refine List.forall_mem_cons.2 ⟨⟨by kernel_rfl, of_decide_eq_true (by kernel_rfl)⟩, ?_⟩
  refine List.forall_mem_cons.2 ⟨⟨by kernel_rfl, of_decide_eq_true (by kernel_rfl)⟩, ?_⟩
  exact fun t ht => by cases ht

theorem top_over : Rows.TopFixedSaid :=
  OpenClaim.holds_of_wide 3 Tryz.f3 rfl rfl rfl rfl rfl rfl rfl ⟨rfl, rfl, rfl, rfl, rfl⟩ rfl rfl rfl rfl rfl (by kernel_rfl) Tryz.func3 (by kernel_rfl)
    (of_decide_eq_true (by kernel_rfl)) (by unfold Func.isWrapper; first | (rw [if_pos (by decide +kernel)]; kernel_rfl) | (rw [if_neg (by decide +kernel)]; exact ⟨rfl, rfl⟩))
    (fun os started H enc _ => top_lifted os started H enc)

theorem top_card : Rows.TopFixedCardSaid :=
  Claim7.holds_tied_plain_at .later [] [.data, .data, .pinned, .pinned] true (true, "b3c88665960d30947ee18829811b5fe6e217dbcd5201d5e2f9374ccb6a6cdfb2") true
    top_over (fun _ h => by cases h) (by kernel_rfl) (fun _ h => by cases h) topFixed_row_tie rfl ⟨rfl, rfl⟩ (by kernel_rfl) rfl
    (fun f fn hf hfn => by
      obtain rfl : f = 3 := Option.some.inj ((show Tryz.prog.funcNamed "evergreen/evergreentop.TopFixed" = some 3 by kernel_rfl).symm.trans hf) |>.symm
      obtain rfl : fn = Tryz.f3 := (Option.some.inj (Tryz.func3.symm.trans hfn)).symm
      refine ⟨by kernel_rfl, fun j t ht => ?_⟩
      rw [Tryz.params3] at ht
      have hm := Array.mem_of_getElem? ht
      have hall : ∀ t ∈ [26, 27, 3, 9], Tryz.prog.wantsStandIn t = false := by
        refine List.forall_mem_cons.2 ⟨by kernel_rfl, ?_⟩
        refine List.forall_mem_cons.2 ⟨by kernel_rfl, ?_⟩
        refine List.forall_mem_cons.2 ⟨by kernel_rfl, ?_⟩
        refine List.forall_mem_cons.2 ⟨by kernel_rfl, ?_⟩
        exact fun t ht => by cases ht
      exact hall t (by simpa using hm))
    (by kernel_rfl)
#print axioms top_card
end Go.Proofs.YtaoggehdkddgeaaGreatDoor
