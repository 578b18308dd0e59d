/- The reference's list of the strings that are hashed for the root of leaves. -/
import Derived.Test.YtakhomofckcckaaGreatDoorHaB
import Derived.Test.YtakhomofckcckaaGreatDoorRrC
namespace Go.Proofs.YtakhomofckcckaaGreatDoor
open Go Go.RowKit Go.Shelf
attribute [local go_sem] gAt gUpon
attribute [local simp] Gr.refl Gr.alloc

theorem flat_strC (L : List ByteArray) : L.flatMap strC = sC L := by
  induction L with
  | nil => rfl
  | cons x L ih => rw [List.flatMap_cons, ih]; rfl
theorem hashesD_len {l : List Lf} (h : listB l = true) : (hashesD l).length ≤ 1000 := by
  have h1 := (listB_all h).1
  have h2 := (hashD_len (l.map valueD)).2
  have h3 := List.length_filter_le Lf.shown l
  rw [List.length_map] at h2
  unfold hashesD
  simp only [List.length_append, List.length_map, List.length_cons, List.length_nil]
  omega
theorem leafB_tiny {x : Lf} (h : leafB x = true) : x.salt.size + x.text.size ≤ 100 := by
  cases hs : x.shown with
  | true => have := leafB_shown h hs; omega
  | false =>
    unfold leafB at h
    rw [if_neg (by rw [hs]; decide)] at h
    rw [Bool.and_eq_true, Bool.and_eq_true, Bool.and_eq_true, decide_eq_true_eq, decide_eq_true_eq, decide_eq_true_eq, decide_eq_true_eq] at h
    have h1 : x.text.size = 0 := by have := isEmpty_iff x.text; rw [h.1] at this; simpa using this.symm
    have h2 : x.salt.size = 0 := by have := isEmpty_iff x.salt; rw [h.2.2.1] at this; simpa using this.symm
    omega
theorem cat_size1 (m : UInt8) (a : ByteArray) : (cat m [a]).size = 1 + a.size := by rw [cat_size]; simp
theorem cat_size2 (m : UInt8) (a b : ByteArray) : (cat m [a, b]).size = 1 + (a.size + b.size) := by rw [cat_size]; simp
theorem hashD_sizes : ∀ (n : Nat) (l : List ByteArray), l.length = n → (∀ x ∈ l, x.size ≤ 1000) → ∀ y ∈ hashD l, y.size ≤ 10000 := by
  intro n
  induction n using Nat.strongRecOn with
  | _ n ih =>
    intro l hl hs y hy
    by_cases h0 : n = 0
    · rw [List.eq_nil_of_length_eq_zero (hl.trans h0), hashD_nil] at hy
      obtain rfl := List.mem_singleton.1 hy
      decide
    by_cases h1 : n = 1
    · obtain ⟨x, rfl⟩ := List.length_eq_one_iff.1 (hl.trans h1)
      rw [hashD_one] at hy
      obtain rfl := List.mem_singleton.1 hy
      have := hs x (by simp)
      rw [cat_size1]; omega
    · have h2 : 2 ≤ l.length := by omega
      have hsp := lp_spec l.length h2
      have hp := lp_pos l.length
      rw [hashD_split l h2] at hy
      rcases List.mem_append.1 hy with hy | hy
      · rcases List.mem_append.1 hy with hy | hy
        · exact ih (lp l.length) (by omega) (l.take (lp l.length)) (by rw [List.length_take]; omega) (fun x hx => hs x (List.mem_of_mem_take hx)) y hy
        · exact ih (l.length - lp l.length) (by omega) (l.drop (lp l.length)) List.length_drop (fun x hx => hs x (List.mem_of_mem_drop hx)) y hy
      · obtain rfl := List.mem_singleton.1 hy
        rw [cat_size2, rootD_size, rootD_size]; omega
theorem hashesD_sizes {l : List Lf} (h : listB l = true) : ∀ y ∈ hashesD l, y.size ≤ 10000 := by
  obtain ⟨h1, h2⟩ := listB_all h
  intro y hy
  unfold hashesD at hy
  rcases List.mem_append.1 hy with hy | hy
  · rcases List.mem_append.1 hy with hy | hy
    · refine hashD_sizes _ (l.map valueD) rfl (fun x hx => ?_) y hy
      obtain ⟨z, hz, rfl⟩ := List.mem_map.1 hx
      rw [leafB_value (h2 z hz)]; decide
    · have hn := numB_size l.length
      rcases List.mem_cons.1 hy with rfl | hy
      · rw [cat_size1]; omega
      · obtain rfl := List.mem_singleton.1 hy
        rw [cat_size2, leafD_size, rootD_size]; omega
  · obtain ⟨z, hz, rfl⟩ := List.mem_map.1 hy
    obtain ⟨hz1, hz2⟩ := List.mem_filter.1 hz
    have h3 := leafB_shown (h2 z hz1) hz2
    have h4 := textD_size (x := z)
    omega

set_option maxRecDepth 100000 in
set_option maxHeartbeats 4000000 in
theorem hashed23_any (v : Value) (l : List Lf) (w : World) (hv : Rws 5 lfC v l w) (hl : listB l = true) :
    Calls Tryz.prog 26 #[v] w fun e w' => ∃ u, e = .returned u ∧ OwnL w.heap.size (hashesD l) u w' ∧ Gr w w' := by
  obtain ⟨iS, hi, hz0, hz1, hz2⟩ := info_parts infoStr
  have HI := Lib.hid hi
  have HI0 := Lib.hid hz0
  have HI1 := Lib.hid hz1
  have HI2 := Lib.hid hz2
  clear hi hz0 hz1 hz2
  obtain ⟨p, c, rfl⟩ := hv.shape
  have HV := Lib.hid hv
  obtain ⟨hl1, hl2⟩ := listB_all hl
  have HLf := Lib.hid hl2
  have HP := Lib.hid (fun y => putIntR_any l.length (by omega) y)
  have hns := numB_size l.length
  have hlen := hashD_len (l.map valueD)
  rw [List.length_map] at hlen
  obtain ⟨hlen0, hlen1⟩ := hlen
  have HVa := Lib.hid (fun y (hg : Gr w y) => valuesR_any (.slice p l.length c) l y (hv.gr hg) (by omega) (fun x hx hs => by have := leafB_shown (hl2 x hx) hs; omega) (fun x hx => Nat.le_trans (leafB_tiny (hl2 x hx)) (by omega)))
  have HHa := Lib.hid (fun u y (hu : StrsAt u (l.map valueD) y) => hashedR_any u (l.map valueD) y (by rw [List.length_map]; omega) hu (fun x hx => by
    obtain ⟨z, hz, rfl⟩ := List.mem_map.1 hx
    rw [leafB_value (hl2 z hz)]; decide))
  have HRo := Lib.hid (fun u y (hu : StrsAt u (l.map valueD) y) => rootR_any u (l.map valueD) y hu (by rw [List.length_map]; omega) (fun x hx => by
    obtain ⟨z, hz, rfl⟩ := List.mem_map.1 hx
    rw [leafB_value (hl2 z hz)]; decide))
  have HLe := Lib.hid (fun y => leafR_any (numB l.length) y (by omega))
  have HX0 : Hid (hashesD l = (hashD (l.map valueD) ++ [cat 0 [numB l.length], cat 1 [leafD (numB l.length), rootD (l.map valueD)]]) ++ (l.filter Lf.shown).map textD) := Lib.hid rfl
  have ha0 : ∀ w1, (Op.stringOp .add (⟨#[0]⟩ : ByteArray) (numB l.length)).run Tryz.prog w1 = .ok (.string (cat 0 [numB l.length])) w1 := fun w1 => by
    rw [run_string_add_sum, cat_add1r]; rw [show (⟨#[0]⟩ : ByteArray).size = 1 from rfl]; omega
  have s1 := leafD_size (numB l.length)
  have s2 := rootD_size (l.map valueD)
  have ha1 : ∀ w1, (Op.stringOp .add (⟨#[1]⟩ : ByteArray) (leafD (numB l.length))).run Tryz.prog w1 = .ok (.string (⟨#[1]⟩ ++ leafD (numB l.length))) w1 := fun w1 => by
    rw [run_string_add_sum]; rw [show (⟨#[1]⟩ : ByteArray).size = 1 from rfl]; omega
  have ha2 : ∀ w1, (Op.stringOp .add ((⟨#[1]⟩ : ByteArray) ++ leafD (numB l.length)) (rootD (l.map valueD))).run Tryz.prog w1 = .ok (.string (cat 1 [leafD (numB l.length), rootD (l.map valueD)])) w1 := fun w1 => by
    rw [run_string_add_sum, cat_add2r]
    rw [ByteArray.size_append, show (⟨#[1]⟩ : ByteArray).size = 1 from rfl]; omega
  have HLv : Hid ((l.map valueD).length = l.length) := Lib.hid (List.length_map _)
  have HFv : Hid ((l.map valueD).flatMap strC = sC (l.map valueD)) := Lib.hid (flat_strC _)
  clear hv hl hl2 hns s1 s2
  generalize cat 1 [leafD (numB l.length), rootD (l.map valueD)] = X2 at *
  generalize (⟨#[1]⟩ : ByteArray) ++ leafD (numB l.length) = X1 at *
  generalize cat 0 [numB l.length] = X0 at *
  generalize leafD (numB l.length) = LE at *
  generalize rootD (l.map valueD) = RO at *
  generalize numB l.length = NB at *
  generalize hashD (l.map valueD) = HD at *
  go_enter Tryz.func26, Tryz.ntmps26
  go_wp2_with fail
  refine (HP.out w).mono ?_
  rintro e w1 ⟨rfl, hg⟩
  have HG1 := Lib.hid hg
  clear hg HP
  go_wp2_with fail
  refine (HVa.out w1 HG1.out).mono ?_
  rintro e w2 ⟨u, rfl, ho, hg⟩
  have HG2 := Lib.hid (HG1.out.trans hg)
  have HO2 : Hid (StrsAt u (l.map valueD) w2) := Lib.hid (by
    rw [HFv.out] at ho
    have h : OwnL w1.heap.size (l.map valueD) u w2 := by unfold OwnL; rw [HLv.out]; exact ho
    exact h.strs)
  clear hg ho HVa HG1
  go_wp2_with fail
  refine (HHa.out u w2 HO2.out).mono ?_
  rintro e w3 ⟨u3, rfl, ho, hg⟩
  have HG3 := Lib.hid (HG2.out.trans hg)
  have HO3 := Lib.hid (OwnL.mono ho HG2.out.size)
  have HS3 := Lib.hid (HO2.out.gr hg)
  clear hg ho HHa HG2 HO2
  go_wp2_with fail
  refine (HLe.out w3).mono ?_
  rintro e w4 ⟨rfl, hg⟩
  have HG4 := Lib.hid (HG3.out.trans hg)
  have HO4 := Lib.hid (HO3.out.gr hg)
  have HS4 := Lib.hid (HS3.out.gr hg)
  clear hg HLe HG3 HO3 HS3
  go_wp2_with fail
  refine (HRo.out u w4 HS4.out).mono ?_
  rintro e w5 ⟨rfl, hg⟩
  have HG5 := Lib.hid (HG4.out.trans hg)
  have HO5 := Lib.hid (HO4.out.gr hg)
  clear hg HRo HG4 HO4 HS4
  go_wp2_with ((with_reducible show wpList _ _ _ (⟨some 27, _, _, _, _, _⟩ :: _) _ _); refine wpList_append_Own rfl (.tmp 17) (.tmp 26) 58 rfl 9 iS (.string ⟨#[]⟩) 1 16 Tryz.underlying58 HI.out HI0.out HI1.out HI2.out rfl (by decide) rfl (HO5.out.gr (Gr.alloc w5 _)) ⟨w5.heap.size, 0, none⟩ 2 2 [.string X0, .string X2] rfl rfl (cells_new_at w5 [.string X0, .string X2] 9) ?h1 (by decide) ?b1 ?b2 ?hB ?_)
  case h1 => exact sC_one [X0, X2]
  case b1 => unfold maxLen; omega
  case b2 => omega
  case hB => have := HG5.out.size; simp; omega
  intro v27 w27 hown hchg _
  have HG6 : Hid (Gr w w27) := Lib.hid (gr_step HG5.out (Gr.alloc _ _) hchg (fun g hg => Own.ge HO5.out hg))
  have HO6 : Hid (OwnL w.heap.size (HD ++ [X0, X2]) v27 w27) := Lib.hid (OwnL.join (M := [X0, X2]) hown rfl)
  have hl6 : (HD ++ [X0, X2]).length ≤ 2 * l.length + 3 := by rw [List.length_append]; simp; omega
  clear hown hchg HG5 HO5
  generalize HD ++ [X0, X2] = HE at HX0 HO6 hl6
  go_wp2_with fail
  go_loopw [6, 7] (fun v6 v7 W => ∃ (k : Nat) (V : Value), k ≤ l.length ∧ v7 = .int .i64 (k : Int) ∧ V = v6 ∧ Hid (OwnL w.heap.size (HE ++ ((l.take k).filter Lf.shown).map textD) V W) ∧ Hid (Gr w W)) (fun _ v7 _ => l.length - (intOf v7).toNat)
  case atStart => exact ⟨0, _, Nat.zero_le _, rfl, rfl, by simpa using HO6, HG6⟩
  case round =>
    obtain ⟨k, v6, hk, rfl, rfl, HO, HG⟩ := hrel
    by_cases hlt : k < l.length
    · have ht : decide (k < l.length) = true := decide_eq_true hlt
      obtain ⟨x, hx⟩ : ∃ x, l[k]? = some x := ⟨_, List.getElem?_eq_getElem hlt⟩
      obtain ⟨g, off, rfl, hlc, hc⟩ := (HV.out.gr HG.out).at_ hx
      have hlf := HLf.out x (List.mem_of_getElem? hx)
      have hc0 := hc 0 _ rfl
      rw [Nat.add_zero] at hc0
      cases hsh : x.shown with
      | false =>
        have HX : Hid (((l.take (k + 1)).filter Lf.shown).map textD = ((l.take k).filter Lf.shown).map textD) := Lib.hid (by
          rw [List.take_add_one, hx, Option.toList_some, List.filter_append]; simp [hsh])
        rw [hsh] at hc0
        clear hc hx hlf
        go_wp2_with fail
        go_roundw
        case rel => exact ⟨k + 1, _, by omega, by go_num, rfl, Lib.hid (by rw [HX.out]; exact HO.out), HG⟩
        case measure => simp [intOf]; omega
      | true =>
        obtain ⟨_, b1, b2, b3, b4⟩ := leafB_shown hlf hsh
        have HX : Hid (((l.take (k + 1)).filter Lf.shown).map textD = ((l.take k).filter Lf.shown).map textD ++ [textD x]) := Lib.hid (by
          rw [List.take_add_one, hx, Option.toList_some, List.filter_append, List.map_append]; simp [hsh])
        have HT := Lib.hid (fun y => textR_any x y ⟨b3, by omega⟩ (by omega))
        have hc1 := hc 1 _ rfl
        have hc2 := hc 2 _ rfl
        have hc3 := hc 3 _ rfl
        have hc4 := hc 4 _ rfl
        rw [← Nat.add_assoc] at hc1 hc2 hc3 hc4
        have hlk : (((l.take k).filter Lf.shown).map textD).length ≤ l.length := by
          rw [List.length_map]
          have := List.length_filter_le Lf.shown (l.take k)
          rw [List.length_take] at this; omega
        obtain ⟨sh, t, m, sl, dg⟩ := x
        simp only at hc0 hc1 hc2 hc3 hc4 HT hsh
        subst hsh
        generalize textD ⟨true, t, m, sl, dg⟩ = TX at HT HX
        clear hc hx hlf b1 b2 b3 b4
        go_wp2_with fail
        refine (HT.out wr).mono ?_
        rintro e w7 ⟨rfl, hg⟩
        have HG7 := Lib.hid (HG.out.trans hg)
        have HO7 := Lib.hid (HO.out.gr hg)
        clear hg HG HO HT hc0 hc1 hc2 hc3 hc4
        have hln : (HE ++ ((l.take k).filter Lf.shown).map textD).length ≤ 3 * l.length + 3 := by rw [List.length_append]; omega
        generalize ((l.take k).filter Lf.shown).map textD = FK at HO7 HX hlk hln
        go_wp2_with ((with_reducible show wpList _ _ _ (⟨some 46, _, _, _, _, _⟩ :: _) _ _); refine wpList_append_Own rfl (.tmp 39) (.tmp 45) 58 rfl 9 iS (.string ⟨#[]⟩) 1 16 Tryz.underlying58 HI.out HI0.out HI1.out HI2.out rfl (by decide) rfl (HO7.out.gr (Gr.alloc w7 _)) ⟨w7.heap.size, 0, none⟩ 1 1 [.string TX] rfl rfl (cells_new_at w7 [.string TX] 9) ?h1B (by decide) ?b1B ?b2B ?hBB ?_)
        case h1B => exact sC_one [TX]
        case b1B => unfold maxLen; omega
        case b2B => omega
        case hBB => have := HG7.out.size; simp; omega
        intro v46 w46 hown hchg _
        have HG8 : Hid (Gr w w46) := Lib.hid (gr_step HG7.out (Gr.alloc _ _) hchg (fun g hg => Own.ge HO7.out hg))
        have HO8 : Hid (OwnL w.heap.size (HE ++ ((l.take (k + 1)).filter Lf.shown).map textD) v46 w46) := Lib.hid (by
          rw [HX.out, ← List.append_assoc]; exact OwnL.join (M := [TX]) hown (by rw [List.length_append]; rfl))
        clear hown hchg HG7 HO7 HX
        go_wp2_with fail
        go_roundw
        case rel => exact ⟨k + 1, _, by omega, by go_num, rfl, HO8, HG8⟩
        case measure => simp [intOf]; omega
    · have ht : decide (k < l.length) = false := decide_eq_false hlt
      have HE2 : Hid (OwnL w.heap.size (hashesD l) v6 wr) := Lib.hid (by
        have h := HO.out
        rw [List.take_of_length_le (by omega)] at h
        rw [HX0.out]; exact h)
      clear HO
      go_wp2_with fail
      go_ret
      exact ⟨_, rfl, HE2.out, HG.out⟩
end Go.Proofs.YtakhomofckcckaaGreatDoor
