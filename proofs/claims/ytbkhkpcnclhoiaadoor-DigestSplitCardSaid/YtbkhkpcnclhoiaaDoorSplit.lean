/- The walk of the statement DigestSplit: it answers true. -/
import Derived.Test.YtbkhkpcnclhoiaaDoorAppend
namespace Go.Proofs.YtbkhkpcnclhoiaaDoor
open Go.RowKit Go.Shelf
attribute [local go_sem] gAt gUpon
attribute [local simp] Gr.refl Gr.alloc

set_option maxRecDepth 100000 in
set_option maxHeartbeats 4000000 in
theorem split_any (v : Value) (l : List ByteArray) (s : ByteArray) (w : World) (hv : StrsIn v l w) (hs : s.size ≤ 9223372036854775807) (hT : Tab w) :
    Calls Tryd.prog 8 #[v, .string s] w fun e w' => e = .returned (.bool true) ∧ Gr w w' := by
  obtain ⟨i9, hi9, hz9, hsz9, hb9⟩ := info_parts info9
  have HV := Lib.hid hv
  have HT := Lib.hid hT
  have hmn : min (s.size : Int) 60 = ((min s.size 60 : Nat) : Int) := by omega
  clear hv hT
  go_enter Tryd.func8, Tryd.ntmps8
  go_wp2_with fail
  refine (sane_any w HT.out).mono ?_
  rintro e w1 ⟨rfl, hg1⟩
  go_wp2_with fail
  refine (few_in v l 40 w1 (HV.out.gr hg1) (by decide)).mono ?_
  rintro e w2 ⟨u, rfl, ho, hg2, hz⟩
  have hMl := fewD_len l 40
  have hMs := fewD_all l 40
  generalize fewD l 40 = M at ho hz hMl hMs
  have hM : M.length ≤ 40 := by omega
  have HMs := Lib.hid hMs
  have HG2 := Lib.hid (hg1.trans hg2)
  have HO := Lib.hid ho
  clear hg1 hg2 ho hMl hMs HV
  have HTs : Hid ((s.extract 0 (min s.size 60)).size ≤ 60) := Lib.hid (by rw [show s.extract 0 (min s.size 60) = cutD s 60 from rfl, cutD_size]; omega)
  have hsm : ∀ x ∈ M ++ [s.extract 0 (min s.size 60)], x.size ≤ 140737488354000 := by
    intro x hx
    rcases List.mem_append.1 hx with hx | hx
    · have := HMs.out x hx; omega
    · simp at hx; subst hx; have := HTs.out; omega
  have HSm := Lib.hid hsm
  have HVe := Lib.hid (verED_ok (M ++ [s.extract 0 (min s.size 60)]) M.length (by simp))
  clear hsm
  by_cases h0 : M.length = 0
  · obtain rfl := hz h0
    have hnil : M = [] := List.eq_nil_of_length_eq_zero h0
    subst hnil
    clear hz HO
    go_upto_region 4 with fail
    generalize s.extract 0 (min s.size 60) = t at HTs HSm HVe ⊢
    clear hmn
    have howe : Own w2.heap.size 1 (.slice (some ⟨w2.heap.size, 0, none⟩) 0 0) 0 [] ((w2.alloc (.cells #[] 9)).alloc (.cells #[.string t] 9)) :=
      ⟨rfl, .inr ⟨_, 0, 0, rfl, Nat.le_refl _, Nat.le_refl _, Nat.zero_le _, fun j u h => by simp at h, fun j h => by omega⟩⟩
    have HOE := Lib.hid howe
    clear howe
    go_upto_region 5 with ((with_reducible show wpList _ _ _ (⟨some 23, _, _, _, _, _⟩ :: _) _ _); refine wpList_append_Own rfl (.tmp 20) (.tmp 22) 22 rfl 9 i9 (.string ⟨#[]⟩) 1 16 Tryd.underlying22 hi9 hz9 hsz9 hb9 rfl (by decide) rfl HOE.out ⟨w2.heap.size + 1, 0, none⟩ 1 1 [.string t] rfl rfl ?hnewsA ?h1cA (by decide) ?b1A ?b2A ?hBA ?_)
    case hnewsA =>
      have h := row_new (w2.alloc (.cells #[] 9)) [.string t] 9 rfl
      rw [World.size_alloc] at h
      exact h
    case h1cA => intro u hu; simp at hu; subst hu; rfl
    case b1A => unfold maxLen; omega
    case b2A => omega
    case hBA => simp; omega
    intro v5 w5 hown hchg _
    have hg5 : Gr w2 w5 := gr_step (Gr.refl w2) ((Gr.alloc w2 _).trans (Gr.alloc _ _)) hchg (fun g hg => HOE.out.ge hg)
    have HO5 : Hid (Own w2.heap.size 1 v5 1 (sC [t]) w5) := Lib.hid hown
    have HG5 := Lib.hid (HG2.out.trans hg5)
    obtain ⟨p5, c5, rfl⟩ := hown.slice
    clear hown hchg hg5 HOE
    have HS5 := Lib.hid HO5.out.strs.2
    have HRt : Hid (∀ w', Gr w5 w' → Calls Tryd.prog 18 #[.slice p5 1 c5] w' fun e w'' => e = .returned (.string (leafD t)) ∧ Gr w' w'') := Lib.hid (fun w' hg => by
      have h := root_any (.slice p5 1 c5) [t] w' (HS5.out.gr hg) (by simp) HSm.out (HT.out.gr (HG5.out.trans hg))
      rw [rootD_one] at h; exact h)
    have HRn : Hid (∀ w', Gr w5 w' → Calls Tryd.prog 18 #[.slice none 0 0] w' fun e w'' => e = .returned (.string (sha ⟨#[]⟩)) ∧ Gr w' w'') := Lib.hid (fun w' hg => root_any (.slice none 0 0) [] w' (.inl ⟨rfl, rfl⟩) (by simp) (by simp) (HT.out.gr (HG5.out.trans hg)))
    have HVx : Hid (∀ w', Gr w5 w' → Calls Tryd.prog 22 #[.string (sha ⟨#[]⟩), .int .i64 0, .string (leafD t), .int .i64 1, .slice none 0 0] w' fun e w'' => e = .returned (.bool true) ∧ Gr w' w'') := Lib.hid (fun w' hg => by
      have h := vext_any (sha ⟨#[]⟩) (leafD t) 0 1 (.slice none 0 0) [] w' (.inl ⟨rfl, rfl⟩) (by simp) (by decide) (HT.out.gr (HG5.out.trans hg))
      have e := HVe.out
      simp only [List.nil_append, List.length_nil] at e
      rw [rootD_one] at e
      have e1 : verED (rootD []) 0 (leafD t) 1 [] = true := by simpa using e
      have e2 : verED (sha ⟨#[]⟩) 0 (leafD t) 1 [] = true := e1
      rw [e2] at h; exact h)
    have HLt : Hid (∀ w', Gr w5 w' → Calls Tryd.prog 26 #[.string t] w' fun e w'' => e = .returned (.string (leafD t)) ∧ Gr w' w'') := Lib.hid (fun w' hg => leaf_any t w' (by have := HTs.out; omega) (HT.out.gr (HG5.out.trans hg)))
    have HS0 : Hid (∀ w', Gr w5 w' → Calls Tryd.prog 27 #[.string ⟨#[]⟩] w' fun e w'' => e = .returned (.string (sha ⟨#[]⟩)) ∧ Gr w' w'') := Lib.hid (fun w' hg => sum_any ⟨#[]⟩ w' (by decide) (HT.out.gr (HG5.out.trans hg)))
    have HE := Lib.hid (ext_zero (.slice p5 1 c5) [t] w5 HS5.out)
    clear HO5 HS5 HSm HVe
    generalize sha ⟨#[]⟩ = e0 at *
    generalize leafD t = lt at *
    go_wp2_with fail
    refine HE.out.mono ?_
    rintro e w6 ⟨rfl, rfl⟩
    clear HE
    go_wp2_with fail
    refine (HRn.out _ (Gr.refl _)).mono ?_
    rintro e w6 ⟨rfl, hg6⟩
    go_wp2_with fail
    refine (HRt.out _ hg6).mono ?_
    rintro e w7 ⟨rfl, hg⟩
    have hg7 := hg6.trans hg
    go_wp2_with fail
    refine (HVx.out _ hg7).mono ?_
    rintro e w8 ⟨rfl, hg⟩
    have hg8 := hg7.trans hg
    go_wp2_with fail
    refine (HRt.out _ hg8).mono ?_
    rintro e w9 ⟨rfl, hg⟩
    have hg9 := hg8.trans hg
    go_wp2_with fail
    refine (HLt.out _ hg9).mono ?_
    rintro e w10 ⟨rfl, hg⟩
    have hg10 := hg9.trans hg
    go_wp2_with fail
    refine (HRn.out _ hg10).mono ?_
    rintro e w11 ⟨rfl, hg⟩
    have hg11 := hg10.trans hg
    go_wp2_with fail
    refine (HS0.out _ hg11).mono ?_
    rintro e w12 ⟨rfl, hg⟩
    have HG12 := Lib.hid (HG5.out.trans (hg11.trans hg))
    clear hg6 hg7 hg8 hg9 hg10 hg11 hg
    go_wp2_with fail
    go_ret
    exact ⟨rfl, HG12.out⟩
  · have hOs := HO.out.strs.2
    obtain ⟨Q, y, hQ⟩ : ∃ Q y, M = Q ++ [y] := by
      rcases snoc_cases M with h | h
      · exact (h0 (by rw [h]; rfl)).elim
      · exact h
    have hOs2 := hOs
    rw [hQ] at hOs2
    obtain ⟨g, off, cu, hu, hcu1, hcu2, -⟩ := hOs2.shape_snoc
    have hlen : M.length = Q.length + 1 := by rw [hQ]; simp
    rw [← hlen] at hu hcu1
    subst hu
    have hcl : ∀ (j : Nat) u, (sC M)[j]? = some u → w2.cell? ((⟨g, off, none⟩ : Addr).add j) = some u := fun j u hj => by
      rw [Addr.add_mid]; exact HO.out.cell j u hj
    obtain ⟨m, hm⟩ : ∃ m, M.length = m := ⟨_, rfl⟩
    have Hm := Lib.hid hm
    have HOs := Lib.hid hOs
    have HCl := Lib.hid hcl
    rw [hm] at h0 hM hcu1 HOs HVe ⊢
    clear hz hm hlen hQ hOs hOs2 hcl HO
    go_upto_region 4 with fail
    generalize s.extract 0 (min s.size 60) = t at HTs HSm HVe ⊢
    clear hmn
    have howe : Own w2.heap.size 1 (.slice (some ⟨w2.heap.size, 0, none⟩) 0 0) 0 [] (w2.alloc (.cells #[] 9)) :=
      ⟨rfl, .inr ⟨_, 0, 0, rfl, Nat.le_refl _, Nat.le_refl _, Nat.zero_le _, fun j u h => by simp at h, fun j h => by omega⟩⟩
    have HOE := Lib.hid howe
    clear howe
    go_wp2_with ((with_reducible show wpList _ _ _ (⟨some 20, _, _, _, _, _⟩ :: _) _ _); refine wpList_append_Own rfl (.tmp 18) (.tmp 19) 22 rfl 9 i9 (.string ⟨#[]⟩) 1 16 Tryd.underlying22 hi9 hz9 hsz9 hb9 rfl (by decide) rfl HOE.out ⟨g, off, none⟩ m cu (sC M) rfl ?hlA ?hnewsA ?h1cA (by omega) ?b1A ?b2A ?hBA ?_)
    case hlA => rw [sC_length, Hm.out]; omega
    case hnewsA => exact fun j u hj => (Gr.alloc w2 _).cell (HCl.out j u hj)
    case h1cA => intro u hu; simp [sC] at hu; obtain ⟨x, _, rfl⟩ := hu; rfl
    case b1A => unfold maxLen; omega
    case b2A => omega
    case hBA => simp
    intro v4 w4 hown4 hchg4 _
    have hg4 : Gr w2 w4 := gr_step (Gr.refl w2) (Gr.alloc w2 _) hchg4 (fun g hg => HOE.out.ge hg)
    have HO4 := Lib.hid hown4
    have HG4 := Lib.hid hg4
    clear hown4 hchg4 hg4 HOE HCl
    go_upto_region 5 with ((with_reducible show wpList _ _ _ (⟨some 23, _, _, _, _, _⟩ :: _) _ _); refine wpList_append_Own rfl (.tmp 20) (.tmp 22) 22 rfl 9 i9 (.string ⟨#[]⟩) 1 16 Tryd.underlying22 hi9 hz9 hsz9 hb9 rfl (by decide) rfl (HO4.out.gr (Gr.alloc _ _)) ⟨w4.heap.size, 0, none⟩ 1 1 [.string t] rfl rfl ?hnewsB ?h1cB (by decide) ?b1B ?b2B ?hBB ?_)
    case hnewsB => exact row_new _ _ _ rfl
    case h1cB => intro u hu; simp at hu; subst hu; rfl
    case b1B => unfold maxLen; omega
    case b2B => omega
    case hBB => have := HG4.out.size; simp; omega
    intro v5 w5 hown5 hchg5 _
    have hg5 : Gr w2 w5 := gr_step HG4.out (Gr.alloc w4 _) hchg5 (fun g hg => HO4.out.ge hg)
    rw [sC_push] at hown5
    have HO5 := Lib.hid hown5
    have HG5 := Lib.hid (HG2.out.trans hg5)
    obtain ⟨p5, c5, rfl⟩ := hown5.slice
    have HS5 := Lib.hid hown5.strs.2
    have HU5 := Lib.hid (HOs.out.gr hg5)
    clear hown5 hchg5 hg5 HO4 HG4 HOs
    have hl1 : (M ++ [t]).length = m + 1 := by rw [List.length_append, Hm.out]; rfl
    have HRm : Hid (∀ w', Gr w5 w' → Calls Tryd.prog 18 #[.slice p5 (m + 1) c5] w' fun e w'' => e = .returned (.string (rootD (M ++ [t]))) ∧ Gr w' w'') := Lib.hid (fun w' hg => root_any (.slice p5 (m + 1) c5) (M ++ [t]) w' (HS5.out.gr hg) (by rw [hl1]; omega) HSm.out (HT.out.gr (HG5.out.trans hg)))
    have HRl : Hid (∀ w', Gr w5 w' → Calls Tryd.prog 18 #[.slice (some ⟨g, off, none⟩) m cu] w' fun e w'' => e = .returned (.string (rootD M)) ∧ Gr w' w'') := Lib.hid (fun w' hg => root_any (.slice (some ⟨g, off, none⟩) m cu) M w' (HU5.out.gr hg) (by rw [Hm.out]; omega) (fun x hx => HSm.out x (List.mem_append_left _ hx)) (HT.out.gr (HG5.out.trans hg)))
    have hx1 : ((m : Int) ≤ 0 ∨ ((M ++ [t]).length : Int) < (m : Int)) = False := by rw [hl1]; simp; omega
    have hxv : verED (rootD M) (m : Int) (rootD (M ++ [t])) ((m : Int) + 1) (extD (M ++ [t]) m true) = true := by
      have e := HVe.out
      rw [if_neg (by rw [hx1]; exact not_false), hl1] at e
      rw [show (M ++ [t]).take m = M by rw [← Hm.out]; exact List.take_left] at e
      simpa using e
    have HVx : Hid (∀ w' u, Gr w5 w' → StrsAt u (extD (M ++ [t]) m true) w' → Calls Tryd.prog 22 #[.string (rootD M), .int .i64 (m : Int), .string (rootD (M ++ [t])), .int .i64 ((m : Int) + 1), u] w' fun e w'' => e = .returned (.bool true) ∧ Gr w' w'') := Lib.hid (fun w' u hg hu => by
      have hel : (extD (M ++ [t]) m true).length ≤ 41 := ext_short 40 (M ++ [t]) m true (by omega) (by rw [hl1]; omega)
      have h := vext_any (rootD M) (rootD (M ++ [t])) (m : Int) ((m : Int) + 1) u (extD (M ++ [t]) m true) w' hu (by omega) (by omega) (HT.out.gr (HG5.out.trans hg))
      rw [hxv] at h; exact h)
    have HE := Lib.hid (ext_in (.slice p5 (m + 1) c5) (M ++ [t]) m w5 HS5.out (by rw [hl1]; omega) (by omega) (by rw [hl1]; omega) HSm.out (HT.out.gr HG5.out))
    have hsp := rootD_split (M ++ [t]) (by rw [hl1]; omega)
    have hlp := (lp_spec (m + 1) (by omega)).1
    have hlp0 := lp_pos (m + 1)
    rw [hl1] at hsp
    have HLf := Lib.hid (fun w => lawLeft_any (m + 1) (by omega) (by omega) w)
    have hcut := HS5.out.cut (by omega)
    obtain ⟨g5, o5, rfl, -, hc51, -, hcut⟩ := hcut
    have HCut := Lib.hid (hcut (lp (m + 1)) (by omega))
    have HSp := Lib.hid hsp
    clear hcut hsp hx1 hxv HVe
    generalize lp (m + 1) = K at hlp hlp0 HLf HCut HSp
    go_wp2_with fail
    refine HE.out.mono ?_
    rintro e w6 ⟨u6, rfl, ho6, hg6⟩
    have hsx := Lib.hid ho6.strs.2
    obtain ⟨p6, c6, rfl⟩ := ho6.slice
    generalize (extD (M ++ [t]) m true).length = lx at *
    clear HE ho6
    go_wp2_with fail
    refine (HRl.out _ hg6).mono ?_
    rintro e w7 ⟨rfl, hg⟩
    have hg7 := hg6.trans hg
    have hsx7 := Lib.hid (hsx.out.gr hg)
    go_wp2_with fail
    refine (HRm.out _ hg7).mono ?_
    rintro e w8 ⟨rfl, hg⟩
    have hg8 := hg7.trans hg
    have hsx8 := Lib.hid (hsx7.out.gr hg)
    clear hsx hsx7
    go_wp2_with fail
    refine (HVx.out _ _ hg8 hsx8.out).mono ?_
    rintro e w9 ⟨rfl, hg⟩
    have HG9 := Lib.hid (hg8.trans hg)
    clear hg6 hg7 hg8 hg HVx hsx8
    have ht0 : ((m : Int) == 0) = false := by rw [beq_eq_false_iff_ne]; omega
    go_upto_region 11 with (go_at_call 28; refine (HLf.out _).mono ?_; rintro e wl ⟨rfl, rfl⟩)
    have HGw : Hid (∀ w1, Gr w9.drew w1 → Gr w5 w1) := Lib.hid (fun w1 h => HG9.out.trans (Gr.trans (Gr.drew w9) h))
    have HA0 : Hid (∀ w', Gr w9.drew w' → Calls Tryd.prog 18 #[.slice (some ⟨g5, o5, none⟩) (m + 1) c5] w' fun e w'' => e = .returned (.string (rootD (M ++ [t]))) ∧ Gr w' w'') := Lib.hid (fun w' hg => HRm.out w' (HGw.out w' hg))
    have HA1 : Hid (∀ w', Gr w9.drew w' → Calls Tryd.prog 18 #[.slice (some ⟨g5, o5, none⟩) K c5] w' fun e w'' => e = .returned (.string (rootD ((M ++ [t]).take K))) ∧ Gr w' w'') := Lib.hid (fun w' hg => root_any _ ((M ++ [t]).take K) w' (HCut.out.1.gr (HGw.out w' hg)) (by rw [List.length_take, hl1]; omega) (fun x hx => HSm.out x (List.mem_of_mem_take hx)) (HT.out.gr (HG5.out.trans (HGw.out w' hg))))
    have HA2 : Hid (∀ w', Gr w9.drew w' → Calls Tryd.prog 18 #[.slice (some ⟨g5, o5 + K, none⟩) (m + 1 - K) (c5 - K)] w' fun e w'' => e = .returned (.string (rootD ((M ++ [t]).drop K))) ∧ Gr w' w'') := Lib.hid (fun w' hg => root_any _ ((M ++ [t]).drop K) w' (HCut.out.2.gr (HGw.out w' hg)) (by rw [List.length_drop, hl1]; omega) (fun x hx => HSm.out x (List.mem_of_mem_drop hx)) (HT.out.gr (HG5.out.trans (HGw.out w' hg))))
    have HA3 : Hid (∀ w', Gr w9.drew w' → Calls Tryd.prog 29 #[.string (rootD ((M ++ [t]).take K)), .string (rootD ((M ++ [t]).drop K))] w' fun e w'' => e = .returned (.string (rootD (M ++ [t]))) ∧ Gr w' w'') := Lib.hid (fun w' hg => by
      rw [HSp.out]; exact node_any _ _ w' (by rw [rootD_size, rootD_size]; omega) (HT.out.gr (HG5.out.trans (HGw.out w' hg))))
    clear HRm HRl HS5 HU5 HSm HSp HCut HLf hl1
    generalize rootD (M ++ [t]) = R at *
    generalize rootD ((M ++ [t]).take K) = RA at *
    generalize rootD ((M ++ [t]).drop K) = RB at *
    refine region_grow 14 81 (by kernel_rfl) rfl (by kernel_rfl) rfl rfl ?_
    simp only [List.take_succ_cons, List.take_zero, List.drop_succ_cons, List.drop_zero]
    refine seg 3 rfl rfl rfl rfl ?_
    simp only [List.take_succ_cons, List.take_zero, List.drop_succ_cons, List.drop_zero]
    repeat (go_big_quiet_step (fail))
    refine wpQuiet_nil ?_
    intro _
    refine grow_det (v := .string R) rfl rfl rfl rfl rfl ?_ ?_
    · intro w1 hG
      go_simp
      refine (HA0.out w1 hG).mono ?_
      rintro e w' ⟨rfl, hb⟩
      exact ⟨rfl, hb⟩
    simp only [Act.put, List.setIfInBounds_toArray, List.set_cons_zero, List.set_cons_succ]
    refine seg 3 rfl rfl rfl rfl ?_
    simp only [List.take_succ_cons, List.take_zero, List.drop_succ_cons, List.drop_zero]
    repeat (go_big_quiet_step (fail))
    refine wpQuiet_nil ?_
    intro _
    refine grow_det (v := .string RA) rfl rfl rfl rfl rfl ?_ ?_
    · intro w1 hG
      go_simp
      refine (HA1.out w1 hG).mono ?_
      rintro e w' ⟨rfl, hb⟩
      exact ⟨rfl, hb⟩
    simp only [Act.put, List.setIfInBounds_toArray, List.set_cons_zero, List.set_cons_succ]
    refine seg 3 rfl rfl rfl rfl ?_
    simp only [List.take_succ_cons, List.take_zero, List.drop_succ_cons, List.drop_zero]
    repeat (go_big_quiet_step (fail))
    refine wpQuiet_nil ?_
    intro _
    refine grow_det (v := .string RB) rfl rfl rfl rfl rfl ?_ ?_
    · intro w1 hG
      go_simp
      refine (HA2.out w1 hG).mono ?_
      rintro e w' ⟨rfl, hb⟩
      exact ⟨rfl, hb⟩
    simp only [Act.put, List.setIfInBounds_toArray, List.set_cons_zero, List.set_cons_succ]
    refine grow_det (v := .string R) rfl rfl rfl rfl rfl ?_ ?_
    · intro w1 hG
      go_simp
      refine (HA3.out w1 hG).mono ?_
      rintro e w' ⟨rfl, hb⟩
      exact ⟨rfl, hb⟩
    simp only [Act.put, List.setIfInBounds_toArray, List.set_cons_zero, List.set_cons_succ]
    refine seg 1 rfl rfl rfl rfl ?_
    simp only [List.take_succ_cons, List.take_zero, List.drop_succ_cons, List.drop_zero]
    repeat (go_big_quiet_step (fail))
    refine wpQuiet_nil ?_
    intro _
    refine grow_end0 rfl rfl ?_
    intro w10 hG
    have HG10 : Hid (Gr w w10) := Lib.hid (HG5.out.trans (HGw.out _ hG))
    clear hG
    go_wp2_with fail
    go_ret
    exact ⟨rfl, HG10.out⟩
end Go.Proofs.YtbkhkpcnclhoiaaDoor
