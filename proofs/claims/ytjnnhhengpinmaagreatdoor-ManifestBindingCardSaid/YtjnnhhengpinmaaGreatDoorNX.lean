/- A claim among the arguments. -/
import Derived.Test.YtjnnhhengpinmaaGreatDoorNQ
import Derived.Test.YtjnnhhengpinmaaGreatDoorNW
import Derived.Test.YtjnnhhengpinmaaGreatDoorCards
import Derived.Test.YtjnnhhengpinmaaGreatDoorTie
import Derived.SevenTiedAt
namespace Go.Proofs.YtjnnhhengpinmaaGreatDoor
section
open Go Go.ChangeShapes Go.WideShapes Go.ChangeAt Go.RowKit
open Go.ChangeMaps (open_string shut_string)

section
variable {H : Type} {enc : TypeId × Value → H} {P : Program} {w : World}
theorem str_cells {e : TypeId} {n : Nat} {cs : List Value} {D : DataW H × List MemPlace} (he : P.underlying e = some .string) (h : DataW.trod enc P w 0 (fun _ => true) true n e cs = some D) : ∃ x : ByteArray, cs = strC x ∧ x.size ≤ maxLen := by
  obtain ⟨s, hs, _, hsz⟩ := DataW.trod_string he h
  exact ⟨s, hs, hsz⟩
theorem claim_parts {t tl te ti ts : TypeId} {f0 f1 f2 f3 g0 g1 g2 g3 : Field} {n : Nat} {cs : List Value} {D : DataW H × List MemPlace} (he : P.underlying t = some (.struct #[f0, f1, f2, f3])) (o0 : f0.offset = 0) (o1 : f1.offset = 1) (o2 : f2.offset = 2) (o3 : f3.offset = 6) (k0 : f0.type = ti) (k1 : f1.type = ti) (k2 : f2.type = te) (k3 : f3.type = tl)
    (ul : P.underlying tl = some (.slice ts)) (ue : P.underlying te = some (.struct #[g0, g1, g2, g3])) (l0 : g0.offset = 0) (l1 : g1.offset = 1) (l2 : g2.offset = 2) (l3 : g3.offset = 3) (j0 : g0.type = ts) (j1 : g1.type = ti) (j2 : g2.type = ti) (j3 : g3.type = ts)
    (us : P.underlying ts = some .string) (ui : P.underlying ti = some (.int .i64)) (cs1 : P.cellsOf ts = 1) (ci : P.cellsOf ti = 1) (cl : P.cellsOf tl = 1) (ce : P.cellsOf te = 4) (hC : cs.length = 7) (h : DataW.trod enc P w 0 (fun _ => true) true n t cs = some D) :
    ∃ I J x v L, cs = clV I J x v ∧ ClIn I J x v L w := by
  match cs, hC with
  | [x0, x1, x2, x3, x4, x5, x6], _ =>
    obtain ⟨xs, m, _, _, _, hlen, hf⟩ := DataW.trod_struct he h
    match xs, hlen with
    | [y0, y1, y2, y3], _ =>
      have h0 := hf 0 f0 rfl
      have h1 := hf 1 f1 rfl
      have h2 := hf 2 f2 rfl
      have h3 := hf 3 f3 rfl
      rw [o0, k0, ci] at h0
      rw [o1, k1, ci] at h1
      rw [o2, k2, ce] at h2
      rw [o3, k3, cl] at h3
      obtain ⟨a, ha, ha2⟩ := int_cells ui h0
      obtain ⟨b, hb, hb2⟩ := int_cells ui h1
      obtain ⟨x, hx, hx2⟩ := entry_cells ue l0 l1 l2 l3 j0 j1 j2 j3 us ui cs1 ci (by simp) h2
      obtain ⟨v, L, hv, hr, hl, hq⟩ := open_rws (EN := strC) (Q := fun s => s.size ≤ maxLen) ul (by omega) h3 (fun n cs D hl ht => str_cells us ht)
      rw [cs1] at hr
      simp at ha hb hv
      simp [enC] at hx
      obtain ⟨e1, e2, e3, e4⟩ := hx
      subst ha hb hv e1 e2 e3 e4
      exact ⟨_, _, x, _, L, rfl, ha2, hb2, hx2, hr, hl, fun y hy => by have := hq y hy; unfold maxLen at this; omega⟩
end
theorem cClaim : Tryz.prog.cellsOf 59 = 7 := by kernel_rfl
theorem cStrings : Tryz.prog.cellsOf 25 = 1 := by kernel_rfl
set_option maxRecDepth 100000 in
/-- a claim among the arguments -/
theorem open_claim {H : Type} {enc : TypeId × Value → H} {w : World} {r : Reach} {b0 : Nat} {v : Value} {d : DataW H} {p : List MemPlace} (hok : Value.okWide Tryz.prog w r b0 59 v) (h : DataW.Trod enc Tryz.prog w 0 (fun _ => true) true 59 v d p) :
    ∃ I J x u L, v = .agg (clV I J x u).toArray ∧ ClIn I J x u L w := by
  have hu := Tryz.underlying59
  have ul := Tryz.underlying25
  have ue := Tryz.underlying28
  have us := Tryz.underlying9
  have ui := Tryz.underlying3
  have c0 := cClaim
  have c1 := cStrings
  have c2 := cEntry
  have c3 := cString
  have c4 := cInt
  generalize Tryz.prog = P at *
  obtain ⟨cs, rfl, hsz⟩ := okWide_struct hu hok
  obtain ⟨fuel, hf⟩ := h
  obtain ⟨I, J, x, u, L, hcs, hd⟩ := claim_parts hu rfl rfl rfl rfl rfl rfl rfl rfl ul ue rfl rfl rfl rfl rfl rfl rfl rfl us ui c3 c4 c1 c2 (by simpa [Value.cells] using hsz.trans c0) hf
  refine ⟨I, J, x, u, L, ?_, hd⟩
  congr 1
  have h2 : cs.toList = clV I J x u := hcs
  rw [← Array.toArray_toList (xs := cs), h2]
end
section
open Go Go.ChangeShapes Go.WideShapes Go.ChangeAt Go.RowKit
open Go.ChangeMaps (open_string shut_string)

set_option maxRecDepth 100000 in
theorem binding_lifted (os : Os) (started : os.Started) (H : Type) (enc : TypeId × Value → H) :
    ReturnsInHanded {} Tryz.checked os 8 .any (fun w args => (Rows.manifestBindingSpec.pre enc Tryz.prog Tryz.f8 [] false w args ∧ laidMetH Tryz.prog laidL w) ∧ sizedMet enc Tryz.prog Tryz.f8 (OpenSpec.ofChange Rows.manifestBindingSpec) false w args)
      (Rows.manifestBindingSpec.post enc Tryz.prog Tryz.f8 false true false false) := by
  refine returnsInHanded_of_change_and (C := Tryz.checked) (X := fun w _ => laidMetH Tryz.prog laidL w) (fun _ _ _ hh h => h.of_heap hh) ownKn started (by kernel_rfl) Tryz.func8
    (ChangeSpec.witness_shaped (enc := enc) (C := Tryz.checked) (os := os) (X := fun w _ => laidMetH Tryz.prog laidL w) false (World.laidAll Tryz.prog os laidL) #[.string ByteArray.empty, .int .i64 0, .int .i64 0, .agg #[.int .i64 0, .int .i64 0, .string ByteArray.empty, .int .i64 0, .int .i64 0, .string ByteArray.empty, .slice none 0 0], .agg #[.int .i64 0, .int .i64 0, .string ByteArray.empty, .int .i64 0, .int .i64 0, .string ByteArray.empty, .slice none 0 0], .slice none 0 0, .int .i64 0] 8 (World.laidAll_os _ _ _) (World.shaped_of_ZipB (by kernel_rfl) (by kernel_rfl)) (by kernel_rfl) (by kernel_rfl) (by kernel_rfl) (laid_met os _)) ?_
  intro W base args ds gs before hval0 hW _ hsz0 hL _
  have hval : ∀ (j : Nat) t v, Tryz.f8.params[j]? = some t → args[j]? = some v → Value.okWide Tryz.prog W .any base t v := hval0
  have hW' := hW
  obtain ⟨p, q, hA0, hV, rfl, hfz, hnd⟩ := hW
  have hA : DataW.TrodAll enc Tryz.prog W 0 (fun _ => true) true Tryz.f8.params.toList args.toList ds p := hA0
  have hlt : ∀ x ∈ p, x.block < W.heap.size := fun x hx => by simpa using hW'.lt x (List.mem_append_left _ hx)
  have hsz : (DataW.weightsEach Tryz.prog (Tryz.f8.params.toList ++ Rows.manifestBindingSpec.plain.varTypes Tryz.prog) (ds ++ gs)).all (· ≤ reachBytes) = true := hsz0
  rw [Tryz.params8] at hA hval hsz
  have hAk := hA
  obtain ⟨v0, vs0, d0, ds0, p0, q0, hargs, rfl, -, h0, r0⟩ := trodAll_cons hA
  obtain ⟨v1, vs1, d1, ds1, p1, q1, rfl, rfl, rfl, h1, r1⟩ := trodAll_cons r0
  obtain ⟨v2, vs2, d2, ds2, p2, q2, rfl, rfl, rfl, h2, r2⟩ := trodAll_cons r1
  obtain ⟨v3, vs3, d3, ds3, p3, q3, rfl, rfl, rfl, h3, r3⟩ := trodAll_cons r2
  obtain ⟨v4, vs4, d4, ds4, p4, q4, rfl, rfl, rfl, h4, r4⟩ := trodAll_cons r3
  obtain ⟨v5, vs5, d5, ds5, p5, q5, rfl, rfl, rfl, h5, r5⟩ := trodAll_cons r4
  obtain ⟨v6, vs6, d6, ds6, p6, q6, rfl, rfl, rfl, h6, r6⟩ := trodAll_cons r5
  obtain ⟨rfl, rfl, rfl⟩ := trodAll_nil r6
  obtain rfl : args = #[v0, v1, v2, v3, v4, v5, v6] := by cases args; simp_all
  obtain ⟨rfl, rfl⟩ := trodVars_none hV
  have hw0 : ∀ n ∈ d0.weights Tryz.prog 9, n ≤ reachBytes := fun n hn => by simpa using List.all_eq_true.1 hsz n (DataW.weights_mem_each (j := 0) (t := 9) rfl rfl n hn)
  have hw5 : ∀ n ∈ d5.weights Tryz.prog 25, n ≤ reachBytes := fun n hn => by simpa using List.all_eq_true.1 hsz n (DataW.weights_mem_each (j := 5) (t := 25) rfl rfl n hn)
  obtain ⟨s0, rfl, rfl, -, ws0⟩ := open_string Tryz.underlying9 (hval 0 9 v0 rfl rfl) h0
  obtain ⟨i1, rfl, rfl, -, wi1⟩ := open_int Tryz.underlying3 (hval 1 3 v1 rfl rfl) h1
  have bi1 := i64_of_wf wi1
  obtain ⟨i2, rfl, rfl, -, wi2⟩ := open_int Tryz.underlying3 (hval 2 3 v2 rfl rfl) h2
  have bi2 := i64_of_wf wi2
  obtain ⟨I3, J3, x3, u3, L3, rfl, hc3⟩ := open_claim (hval 3 59 v3 rfl rfl) h3
  obtain ⟨I4, J4, x4, u4, L4, rfl, hc4⟩ := open_claim (hval 4 59 v4 rfl rfl) h4
  obtain ⟨l5, hl5, hs5⟩ := open_strs (hval 5 25 v5 rfl rfl) h5
  obtain ⟨i6, rfl, rfl, -, wi6⟩ := open_int Tryz.underlying3 (hval 6 3 v6 rfl rfl) h6
  have bi6 := i64_of_wf wi6
  have hT := tab_of_laid hL
  simp only [List.append_nil] at hW'
  refine (bnd_any s0 i1 i2 I3 J3 x3 u3 L3 I4 J4 x4 u4 L4 v5 l5 i6 W (reach_str hw0) bi1 bi2 hc3 hc4 hl5 (reach_len (hs5 hw5).1) (reach_sizes (hs5 hw5).2) bi6 hT).mono fun e W' ⟨he, hg⟩ => ?_
  subst he
  have hb : Below W.heap.size W W' := hg
  refine ⟨_, rfl, _, _, _, [], p, [], hW', trodAll_mk1 (shut_bool Tryz.underlying4 true), ?_, rfl, hb.frame _, fun h => by cases h⟩
  refine trodAll_below hb ?_ hAk hlt
  refine List.forall_mem_cons.2 ⟨⟨by kernel_rfl, of_decide_eq_true (by kernel_rfl)⟩, ?_⟩
  refine List.forall_mem_cons.2 ⟨⟨by kernel_rfl, of_decide_eq_true (by kernel_rfl)⟩, ?_⟩
  refine List.forall_mem_cons.2 ⟨⟨by kernel_rfl, of_decide_eq_true (by kernel_rfl)⟩, ?_⟩
  refine List.forall_mem_cons.2 ⟨⟨by kernel_rfl, of_decide_eq_true (by kernel_rfl)⟩, ?_⟩
  refine List.forall_mem_cons.2 ⟨⟨by kernel_rfl, of_decide_eq_true (by kernel_rfl)⟩, ?_⟩
  refine List.forall_mem_cons.2 ⟨⟨by kernel_rfl, of_decide_eq_true (by kernel_rfl)⟩, ?_⟩
  refine List.forall_mem_cons.2 ⟨⟨by kernel_rfl, of_decide_eq_true (by kernel_rfl)⟩, ?_⟩
  exact fun t ht => by cases ht

theorem binding_over : Rows.ManifestBindingSaid :=
  OpenClaim.holds_of_wide 8 Tryz.f8 rfl rfl rfl rfl rfl rfl rfl ⟨rfl, rfl, rfl, rfl, rfl⟩ rfl rfl rfl rfl rfl (by kernel_rfl) Tryz.func8 (by kernel_rfl)
    (of_decide_eq_true (by kernel_rfl)) (by unfold Func.isWrapper; first | (rw [if_pos (by decide +kernel)]; kernel_rfl) | (rw [if_neg (by decide +kernel)]; exact ⟨rfl, rfl⟩))
    (fun os started H enc _ => binding_lifted os started H enc)

theorem binding_card : Rows.ManifestBindingCardSaid :=
  Claim7.holds_tied_plain_at .later [] [.data] true (true, "d2725736d91ba5391571035296bbe25d87cc8d79c0155d6a184c9c3aeb6f602f") true
    binding_over (fun _ h => by cases h) (by kernel_rfl) (fun _ h => by cases h) manifestBinding_row_tie rfl ⟨rfl, rfl⟩ (by kernel_rfl) rfl
    (fun f fn hf hfn => by
      obtain rfl : f = 8 := Option.some.inj ((show Tryz.prog.funcNamed "evergreen/evergreenlaw14.ManifestBinding" = some 8 by kernel_rfl).symm.trans hf) |>.symm
      obtain rfl : fn = Tryz.f8 := (Option.some.inj (Tryz.func8.symm.trans hfn)).symm
      refine ⟨by kernel_rfl, fun j t ht => ?_⟩
      rw [Tryz.params8] at ht
      have hm := Array.mem_of_getElem? ht
      have hall : ∀ t ∈ [9, 3, 3, 59, 59, 25, 3], Tryz.prog.wantsStandIn t = false := by
        refine List.forall_mem_cons.2 ⟨by kernel_rfl, ?_⟩
        refine List.forall_mem_cons.2 ⟨by kernel_rfl, ?_⟩
        refine List.forall_mem_cons.2 ⟨by kernel_rfl, ?_⟩
        refine List.forall_mem_cons.2 ⟨by kernel_rfl, ?_⟩
        refine List.forall_mem_cons.2 ⟨by kernel_rfl, ?_⟩
        refine List.forall_mem_cons.2 ⟨by kernel_rfl, ?_⟩
        refine List.forall_mem_cons.2 ⟨by kernel_rfl, ?_⟩
        exact fun t ht => by cases ht
      exact hall t (by simpa using hm))
    (by kernel_rfl)
#print axioms binding_card
end
end Go.Proofs.YtjnnhhengpinmaaGreatDoor
