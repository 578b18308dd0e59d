/- More arguments: four numbers (an array). -/
import Derived.Test.YtjnnhhengpinmaaGreatDoorNQ
import Derived.Test.YtjnnhhengpinmaaGreatDoorCmW
import Derived.Test.YtjnnhhengpinmaaGreatDoorCards
import Derived.Test.YtjnnhhengpinmaaGreatDoorTie
import Derived.SevenTiedAt
namespace Go.Proofs.YtjnnhhengpinmaaGreatDoor
section
open Go Go.ChangeShapes Go.WideShapes Go.ChangeAt Go.RowKit
open Go.ChangeMaps (open_string shut_string)

theorem cFour : Tryz.prog.cellsOf 46 = 4 := by kernel_rfl
theorem four_cells {H : Type} {enc : TypeId × Value → H} {P : Program} {w : World} {t e : TypeId} {n : Nat} {cs : List Value} {D : DataW H × List MemPlace} (ht : P.underlying t = some (.array 4 e)) (he : P.underlying e = some (.int .i64)) (ce : P.cellsOf e = 1) (hC : cs.length = 4) (h : DataW.trod enc P w 0 (fun _ => true) true n t cs = some D) :
    ∃ a b c d : Int, cs = [.int .i64 a, .int .i64 b, .int .i64 c, .int .i64 d] ∧ I64 a ∧ I64 b ∧ I64 c ∧ I64 d := by
  match cs, hC with
  | [x0, x1, x2, x3], _ =>
    obtain ⟨xs, m, _, _, _, hlen, hf⟩ := DataW.trod_array ht h
    match xs, hlen with
    | [y0, y1, y2, y3], _ =>
      have h0 := hf 0 (by omega)
      have h1 := hf 1 (by omega)
      have h2 := hf 2 (by omega)
      have h3 := hf 3 (by omega)
      rw [ce] at h0 h1 h2 h3
      obtain ⟨a, ha, ja⟩ := int_cells he h0
      obtain ⟨b, hb, jb⟩ := int_cells he h1
      obtain ⟨c, hc, jc⟩ := int_cells he h2
      obtain ⟨d, hd, jd⟩ := int_cells he h3
      simp at ha hb hc hd
      subst ha hb hc hd
      exact ⟨a, b, c, d, rfl, ja, jb, jc, jd⟩
theorem okWide_array {P : Program} {w : World} {k : Nat} {t e : TypeId} {r : Reach} {b0 : Nat} {v : Value} (hu : P.underlying t = some (.array k e)) (h : Value.okWide P w r b0 t v) : ∃ cs, v = .agg cs ∧ cs.size = P.cellsOf t := by
  simp only [Value.okWide, hu] at h
  obtain ⟨cs, h1, h2, _⟩ := h
  exact ⟨cs, h1, h2⟩
set_option maxRecDepth 100000 in
theorem open_four {H : Type} {enc : TypeId × Value → H} {w : World} {r : Reach} {b0 : Nat} {v : Value} {d : DataW H} {p : List MemPlace} (hok : Value.okWide Tryz.prog w r b0 46 v) (h : DataW.Trod enc Tryz.prog w 0 (fun _ => true) true 46 v d p) :
    ∃ a b c d : Int, v = .agg #[.int .i64 a, .int .i64 b, .int .i64 c, .int .i64 d] ∧ I64 a ∧ I64 b ∧ I64 c ∧ I64 d := by
  have hu := Tryz.underlying46
  have ui := Tryz.underlying3
  have c0 := cFour
  have c4 := cInt
  generalize Tryz.prog = P at *
  obtain ⟨cs, rfl, hsz⟩ := okWide_array hu hok
  obtain ⟨fuel, hf⟩ := h
  obtain ⟨a, b, c, d, hcs, hx⟩ := four_cells hu ui c4 (by simpa [Value.cells] using hsz.trans c0) hf
  refine ⟨a, b, c, d, ?_, hx⟩
  have h2 : cs.toList = [.int .i64 a, .int .i64 b, .int .i64 c, .int .i64 d] := hcs
  congr 1
  rw [← Array.toArray_toList (xs := cs), h2]
end
section
open Go Go.ChangeShapes Go.WideShapes Go.ChangeAt Go.RowKit
open Go.ChangeMaps (open_string shut_string)

set_option maxRecDepth 100000 in
theorem Cm_lifted (os : Os) (started : os.Started) (H : Type) (enc : TypeId × Value → H) :
    ReturnsInHanded {} Tryz.checked os 4 .any (fun w args => (Rows.manifestChecksMatchReferenceSpec.pre enc Tryz.prog Tryz.f4 [] false w args ∧ laidMetH Tryz.prog laidL w) ∧ sizedMet enc Tryz.prog Tryz.f4 (OpenSpec.ofChange Rows.manifestChecksMatchReferenceSpec) false w args)
      (Rows.manifestChecksMatchReferenceSpec.post enc Tryz.prog Tryz.f4 false true false false) := by
  refine returnsInHanded_of_change_and (C := Tryz.checked) (X := fun w _ => laidMetH Tryz.prog laidL w) (fun _ _ _ hh h => h.of_heap hh) ownKn started (by kernel_rfl) Tryz.func4
    (ChangeSpec.witness_shaped (enc := enc) (C := Tryz.checked) (os := os) (X := fun w _ => laidMetH Tryz.prog laidL w) false (World.laidAll Tryz.prog os laidL) #[.slice none 0 0, .int .i64 0, .int .i64 0, .slice none 0 0, .slice none 0 0, .string ByteArray.empty, .agg #[.int .i64 0, .int .i64 0, .int .i64 0, .int .i64 0], .agg #[.string ByteArray.empty, .int .i64 0, .int .i64 0, .string ByteArray.empty], .slice none 0 0] 8 (World.laidAll_os _ _ _) (World.shaped_of_ZipB (by kernel_rfl) (by kernel_rfl)) (by kernel_rfl) (by kernel_rfl) (by kernel_rfl) (laid_met os _)) ?_
  intro W base args ds gs before hval0 hW _ hsz0 hL _
  have hval : ∀ (j : Nat) t v, Tryz.f4.params[j]? = some t → args[j]? = some v → Value.okWide Tryz.prog W .any base t v := hval0
  have hW' := hW
  obtain ⟨p, q, hA0, hV, rfl, hfz, hnd⟩ := hW
  have hA : DataW.TrodAll enc Tryz.prog W 0 (fun _ => true) true Tryz.f4.params.toList args.toList ds p := hA0
  have hlt : ∀ x ∈ p, x.block < W.heap.size := fun x hx => by simpa using hW'.lt x (List.mem_append_left _ hx)
  have hsz : (DataW.weightsEach Tryz.prog (Tryz.f4.params.toList ++ Rows.manifestChecksMatchReferenceSpec.plain.varTypes Tryz.prog) (ds ++ gs)).all (· ≤ reachBytes) = true := hsz0
  rw [Tryz.params4] at hA hval hsz
  have hAk := hA
  obtain ⟨v0, vs0, d0, ds0, p0, q0, hargs, rfl, -, h0, r0⟩ := trodAll_cons hA
  obtain ⟨v1, vs1, d1, ds1, p1, q1, rfl, rfl, rfl, h1, r1⟩ := trodAll_cons r0
  obtain ⟨v2, vs2, d2, ds2, p2, q2, rfl, rfl, rfl, h2, r2⟩ := trodAll_cons r1
  obtain ⟨v3, vs3, d3, ds3, p3, q3, rfl, rfl, rfl, h3, r3⟩ := trodAll_cons r2
  obtain ⟨v4, vs4, d4, ds4, p4, q4, rfl, rfl, rfl, h4, r4⟩ := trodAll_cons r3
  obtain ⟨v5, vs5, d5, ds5, p5, q5, rfl, rfl, rfl, h5, r5⟩ := trodAll_cons r4
  obtain ⟨v6, vs6, d6, ds6, p6, q6, rfl, rfl, rfl, h6, r6⟩ := trodAll_cons r5
  obtain ⟨v7, vs7, d7, ds7, p7, q7, rfl, rfl, rfl, h7, r7⟩ := trodAll_cons r6
  obtain ⟨v8, vs8, d8, ds8, p8, q8, rfl, rfl, rfl, h8, r8⟩ := trodAll_cons r7
  obtain ⟨rfl, rfl, rfl⟩ := trodAll_nil r8
  obtain rfl : args = #[v0, v1, v2, v3, v4, v5, v6, v7, v8] := by cases args; simp_all
  obtain ⟨rfl, rfl⟩ := trodVars_none hV
  have hw0 : ∀ n ∈ d0.weights Tryz.prog 25, n ≤ reachBytes := fun n hn => by simpa using List.all_eq_true.1 hsz n (DataW.weights_mem_each (j := 0) (t := 25) rfl rfl n hn)
  have hw3 : ∀ n ∈ d3.weights Tryz.prog 25, n ≤ reachBytes := fun n hn => by simpa using List.all_eq_true.1 hsz n (DataW.weights_mem_each (j := 3) (t := 25) rfl rfl n hn)
  have hw4 : ∀ n ∈ d4.weights Tryz.prog 25, n ≤ reachBytes := fun n hn => by simpa using List.all_eq_true.1 hsz n (DataW.weights_mem_each (j := 4) (t := 25) rfl rfl n hn)
  have hw5 : ∀ n ∈ d5.weights Tryz.prog 9, n ≤ reachBytes := fun n hn => by simpa using List.all_eq_true.1 hsz n (DataW.weights_mem_each (j := 5) (t := 9) rfl rfl n hn)
  have hw8 : ∀ n ∈ d8.weights Tryz.prog 25, n ≤ reachBytes := fun n hn => by simpa using List.all_eq_true.1 hsz n (DataW.weights_mem_each (j := 8) (t := 25) rfl rfl n hn)
  obtain ⟨l0, hl0, hs0⟩ := open_strs (hval 0 25 v0 rfl rfl) h0
  obtain ⟨i1, rfl, rfl, -, wi1⟩ := open_int Tryz.underlying3 (hval 1 3 v1 rfl rfl) h1
  have bi1 := i64_of_wf wi1
  obtain ⟨i2, rfl, rfl, -, wi2⟩ := open_int Tryz.underlying3 (hval 2 3 v2 rfl rfl) h2
  have bi2 := i64_of_wf wi2
  obtain ⟨l3, hl3, hs3⟩ := open_strs (hval 3 25 v3 rfl rfl) h3
  obtain ⟨l4, hl4, hs4⟩ := open_strs (hval 4 25 v4 rfl rfl) h4
  obtain ⟨s5, rfl, rfl, -, ws5⟩ := open_string Tryz.underlying9 (hval 5 9 v5 rfl rfl) h5
  obtain ⟨a6, b6, c6, e6, rfl, hn6⟩ := open_four (hval 6 46 v6 rfl rfl) h6
  obtain ⟨x7, rfl, hx7⟩ := open_entry (hval 7 28 v7 rfl rfl) h7
  obtain ⟨l8, hl8, hs8⟩ := open_strs (hval 8 25 v8 rfl rfl) h8
  have hT := tab_of_laid hL
  simp only [List.append_nil] at hW'
  refine (cm_any v0 l0 i1 i2 v3 l3 v4 l4 s5 a6 b6 c6 e6 x7 v8 l8 W hl0 (reach_len (hs0 hw0).1) (reach_sizes (hs0 hw0).2) bi1 bi2 hl3 (reach_len (hs3 hw3).1) (reach_sizes (hs3 hw3).2) hl4 (reach_len (hs4 hw4).1) (reach_sizes (hs4 hw4).2) (reach_str hw5) hn6 hx7 hl8 (reach_len (hs8 hw8).1) (reach_sizes (hs8 hw8).2) hT).mono fun e W' ⟨he, hg⟩ => ?_
  subst he
  have hb : Below W.heap.size W W' := hg
  refine ⟨_, rfl, _, _, _, [], p, [], hW', trodAll_mk1 (shut_bool Tryz.underlying4 true), ?_, rfl, hb.frame _, fun h => by cases h⟩
  refine trodAll_below hb ?_ hAk hlt
  refine List.forall_mem_cons.2 ⟨⟨by kernel_rfl, of_decide_eq_true (by kernel_rfl)⟩, ?_⟩
  refine List.forall_mem_cons.2 ⟨⟨by kernel_rfl, of_decide_eq_true (by kernel_rfl)⟩, ?_⟩
  refine List.forall_mem_cons.2 ⟨⟨by kernel_rfl, of_decide_eq_true (by kernel_rfl)⟩, ?_⟩
  refine List.forall_mem_cons.2 ⟨⟨by kernel_rfl, of_decide_eq_true (by kernel_rfl)⟩, ?_⟩
  refine List.forall_mem_cons.2 ⟨⟨by kernel_rfl, of_decide_eq_true (by kernel_rfl)⟩, ?_⟩
  refine List.forall_mem_cons.2 ⟨⟨by kernel_rfl, of_decide_eq_true (by kernel_rfl)⟩, ?_⟩
  refine List.forall_mem_cons.2 ⟨⟨by kernel_rfl, of_decide_eq_true (by kernel_rfl)⟩, ?_⟩
  refine List.forall_mem_cons.2 ⟨⟨by kernel_rfl, of_decide_eq_true (by kernel_rfl)⟩, ?_⟩
  refine List.forall_mem_cons.2 ⟨⟨by kernel_rfl, of_decide_eq_true (by kernel_rfl)⟩, ?_⟩
  exact fun t ht => by cases ht

theorem Cm_over : Rows.ManifestChecksMatchReferenceSaid :=
  OpenClaim.holds_of_wide 4 Tryz.f4 rfl rfl rfl rfl rfl rfl rfl ⟨rfl, rfl, rfl, rfl, rfl⟩ rfl rfl rfl rfl rfl (by kernel_rfl) Tryz.func4 (by kernel_rfl)
    (of_decide_eq_true (by kernel_rfl)) (by unfold Func.isWrapper; first | (rw [if_pos (by decide +kernel)]; kernel_rfl) | (rw [if_neg (by decide +kernel)]; exact ⟨rfl, rfl⟩))
    (fun os started H enc _ => Cm_lifted os started H enc)

theorem Cm_card : Rows.ManifestChecksMatchReferenceCardSaid :=
  Claim7.holds_tied_plain_at .later [] [.data] true (true, "d2725736d91ba5391571035296bbe25d87cc8d79c0155d6a184c9c3aeb6f602f") true
    Cm_over (fun _ h => by cases h) (by kernel_rfl) (fun _ h => by cases h) manifestChecksMatchReference_row_tie rfl ⟨rfl, rfl⟩ (by kernel_rfl) rfl
    (fun f fn hf hfn => by
      obtain rfl : f = 4 := Option.some.inj ((show Tryz.prog.funcNamed "evergreen/evergreenlaw14.ManifestChecksMatchReference" = some 4 by kernel_rfl).symm.trans hf) |>.symm
      obtain rfl : fn = Tryz.f4 := (Option.some.inj (Tryz.func4.symm.trans hfn)).symm
      refine ⟨by kernel_rfl, fun j t ht => ?_⟩
      rw [Tryz.params4] at ht
      have hm := Array.mem_of_getElem? ht
      have hall : ∀ t ∈ [25, 3, 3, 25, 25, 9, 46, 28, 25], Tryz.prog.wantsStandIn t = false := by
        refine List.forall_mem_cons.2 ⟨by kernel_rfl, ?_⟩
        refine List.forall_mem_cons.2 ⟨by kernel_rfl, ?_⟩
        refine List.forall_mem_cons.2 ⟨by kernel_rfl, ?_⟩
        refine List.forall_mem_cons.2 ⟨by kernel_rfl, ?_⟩
        refine List.forall_mem_cons.2 ⟨by kernel_rfl, ?_⟩
        refine List.forall_mem_cons.2 ⟨by kernel_rfl, ?_⟩
        refine List.forall_mem_cons.2 ⟨by kernel_rfl, ?_⟩
        refine List.forall_mem_cons.2 ⟨by kernel_rfl, ?_⟩
        refine List.forall_mem_cons.2 ⟨by kernel_rfl, ?_⟩
        exact fun t ht => by cases ht
      exact hall t (by simpa using hm))
    (by kernel_rfl)
#print axioms Cm_card
end
end Go.Proofs.YtjnnhhengpinmaaGreatDoor
