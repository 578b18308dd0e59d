/- ManifestPaths: the walk. -/
import Derived.Test.YtjnnhhengpinmaaGreatDoorNE
import Derived.Test.YtjnnhhengpinmaaGreatDoorNF
import Derived.Test.YtjnnhhengpinmaaGreatDoorLpA
namespace Go.Proofs.YtjnnhhengpinmaaGreatDoor
open Go Go.RowKit Go.Shelf
attribute [local go_sem] gAt gUpon
attribute [local simp] Gr.refl Gr.alloc

theorem okB_zero (p : ByteArray) : okB p 0 = !((p.toList == []) || ((p.toList == [46]) || (p.toList == [46, 46]))) := by
  unfold okB
  have e1 : ∀ l : List UInt8, decide (p = ⟨l.toArray⟩) = (p.toList == l) := fun l => by
    rw [Bool.eq_iff_iff, decide_eq_true_eq, beq_iff_eq, ByteArray.toList_eq]
    exact ⟨fun e => by rw [e], fun e => by cases p; rename_i d; cases d; simp at e; rw [e]⟩
  rw [e1 [], e1 [46], e1 [46, 46], List.take_zero, List.all_nil, Bool.and_true]
theorem strs_one (w : World) (x : ByteArray) : StrsAt (.slice (some ⟨w.heap.size, 0, none⟩) 1 1) [x] (w.alloc (.cells #[.string x] 9)) := strs_newAt w [x] 1 rfl (by simp)
/-- a package of one entry -/
theorem make1_any (x : ByteArray) (y : World) (hx : x.size ≤ 9223372036854775807) (hT : Tab y) :
    Calls Tryz.prog 15 #[.int .i64 1, .int .i64 1, .slice (some ⟨y.heap.size, 0, none⟩) 1 1, .slice (some ⟨y.heap.size + 1, 0, none⟩) 1 1, .slice (some ⟨y.heap.size + 1 + 1, 0, none⟩) 1 1]
      (((y.alloc (.cells #[.string x] 9)).alloc (.cells #[.int .i64 0] 3)).alloc (.cells #[.string ⟨#[]⟩] 9)) fun e w' => ∃ p n c, e = .returned (.tuple #[.agg #[.int .i64 (mkI (goodB x) 1), .int .i64 (mkI (goodB x) 1), .slice p n c], .int .i64 (mkE (goodB x))]) ∧ Gr y w' := by
  have hg := ((Gr.alloc y (.cells #[.string x] 9)).trans (Gr.alloc _ (.cells #[.int .i64 0] 3))).trans (Gr.alloc _ (.cells #[.string ⟨#[]⟩] 9))
  have h1 := ((strs_one y x).gr (Gr.alloc _ (.cells #[.int .i64 0] 3))).gr (Gr.alloc _ (.cells #[.string ⟨#[]⟩] 9))
  have h2 := (rows_new (s := 1) (enc := inC) (fun _ => rfl) (y.alloc (.cells #[.string x] 9)) [0] 3 1 rfl).gr (Gr.alloc _ (.cells #[.string ⟨#[]⟩] 9))
  have h3 := strs_one ((y.alloc (.cells #[.string x] 9)).alloc (.cells #[.int .i64 0] 3)) ⟨#[]⟩
  rw [World.size_alloc] at h2
  rw [World.size_alloc, World.size_alloc] at h3
  have h := make_any 1 1 _ _ _ [x] [0] [⟨#[]⟩] _ h1 h2 h3 (by simp) (by simp) (by simpa using hx) (by decide +kernel) (hT.gr hg)
  rw [one_ok] at h
  refine h.mono ?_
  rintro e w2 ⟨v, rfl, ho, hg2⟩
  obtain ⟨p, c, rfl⟩ := ho.slice
  exact ⟨p, _, c, rfl, hg.trans hg2⟩
set_option maxRecDepth 100000 in
set_option maxHeartbeats 4000000 in
theorem paths_any (v : Value) (l : List ByteArray) (raw : ByteArray) (w : World) (hv : StrsIn v l w) (hl : l.length ≤ 9223372036854775806) (hs : ∀ x ∈ l, x.size ≤ 140737488355000) (hr : raw.size ≤ 140737488355000) (hT : Tab w) :
    Calls Tryz.prog 12 #[v, .string raw] w fun e w' => e = .returned (.bool true) ∧ Gr w w' := by
  obtain ⟨q, c, rfl⟩ := hv.shape
  have HV := Lib.hid hv
  have HS := Lib.hid hs
  have HT := Lib.hid hT
  have HR := Lib.hid hr
  have HEnd : Hid (∀ k, (k = 8 ∨ k = l.length) → k ≤ l.length → (∀ j, j < k → noS (pX l j)) → goodB (pJ l k) = (pR l k && decide ((pJ l k).size ≤ 64))) := Lib.hid (fun k h1 h2 h3 => path_law l k h2 (fun h => by omega) h3)
  clear hv hs hT hr
  go_enter Tryz.func12, Tryz.ntmps12
  go_wp2_with fail
  refine (sane_any w HT.out).mono ?_
  rintro e w1 ⟨rfl, hg1⟩
  have HG1 := Lib.hid hg1
  clear hg1
  have t0 : decide ((l.length : Int) > 0) = decide (0 < l.length) := by rw [decide_eq_decide]; omega
  go_wp2_with fail
  go_loopw [6, 7, 8, 9, 10] (fun v6 v7 v8 v9 v10 W => ∃ (k : Nat) (J : ByteArray) (B : Bool), k ≤ 8 ∧ k ≤ l.length ∧ v6 = .string J ∧ v7 = .bool B ∧ v8 = .int .i64 (k : Int) ∧ Hid (pJ l k = J ∧ pR l k = B) ∧ Hid (∀ j, j < k → noS (pX l j)) ∧ Hid (Gr w W)) (fun _ _ v8 _ _ _ => l.length - (intOf v8).toNat)
  case atStart => exact ⟨0, _, _, by omega, by omega, rfl, rfl, rfl, Lib.hid ⟨rfl, rfl⟩, Lib.hid (fun j h => by omega), HG1⟩
  case round =>
    obtain ⟨k, J, B, hk8, hkl, rfl, rfl, rfl, HJ, HNs, HG⟩ := hrel
    by_cases hlt : k < l.length
    · have ht : decide (k < l.length) = true := decide_eq_true hlt
      have ht' : decide ((k : Int) < (l.length : Int)) = true := decide_eq_true (by omega)
      by_cases h8 : k < 8
      · have t8 : decide (k < 8) = true := decide_eq_true h8
        have t8' : decide ((k : Int) < 8) = true := decide_eq_true (by omega)
        obtain ⟨x, hx⟩ : ∃ x, l[k]? = some x := ⟨_, List.getElem?_eq_getElem hlt⟩
        obtain ⟨gq, oq, rfl, hcq⟩ : ∃ g off, q = some ⟨g, off, none⟩ ∧ wr.cell? ⟨g, off + k, none⟩ = some (.string x) := by
          rcases ((HV.out.strs (by omega)).gr HG.out) with ⟨he, h0⟩ | ⟨g, off, cap, he, _, _, hc⟩
          · rw [h0] at hx; exact absurd hx (by simp)
          · injection he with e1 e2 e3
            exact ⟨g, off, e1, hc k x hx⟩
        obtain ⟨p, hp⟩ : ∃ p, pX l k = p := ⟨_, rfl⟩
        have hcut : x.extract 0 (min x.size 12) = p := by
          rw [← hp]; unfold pX; rw [List.getD_eq_getElem?_getD, hx]; rfl
        have hmn : min (x.size : Int) 12 = ((min x.size 12 : Nat) : Int) := by omega
        have i0 : (0 : Int) ≤ (k : Int) := by omega
        have i1 : (k : Int) < (l.length : Int) := by omega
        have HP := Lib.hid hp
        have HX := Lib.hid (HS.out x (List.mem_of_getElem? hx))
        clear hp hx
        have S0 : ∀ q : GrS wr.drew, q.w.cell? ⟨gq, oq + k, none⟩ = some (.string x) := fun q => q.h.cell (w := wr.drew) hcq
        go_upto_region 7 with fail
        clear hcq
        refine region_grow 11 111 (by kernel_rfl) rfl (by kernel_rfl) rfl rfl ?_
        simp only [List.take_succ_cons, List.take_zero, List.drop_succ_cons, List.drop_zero]
        refine seg 9 rfl rfl rfl rfl ?_
        simp only [List.take_succ_cons, List.take_zero, List.drop_succ_cons, List.drop_zero]
        repeat (go_big_quiet_step (fail))
        refine wpQuiet_nil ?_
        intro _
        refine grow_det (v := .int .i64 ((min x.size 12 : Nat) : Int)) rfl rfl rfl rfl rfl ?_ ?_
        · intro w1 hG
          go_simp
        simp only [Act.put, List.setIfInBounds_toArray, List.set_cons_zero, List.set_cons_succ]
        refine seg 1 rfl rfl rfl rfl ?_
        simp only [List.take_succ_cons, List.take_zero, List.drop_succ_cons, List.drop_zero]
        repeat (go_big_quiet_step (fail))
        refine wpQuiet_nil ?_
        intro _
        refine grow_end0 rfl rfl ?_
        intro w2 hG
        have HG2 := Lib.hid (HG.out.trans ((Gr.drew wr).trans hG))
        clear hG S0 HG
        have hJs : J.size ≤ 200 := by rw [← HJ.out.1]; have := pJ_size l k; omega
        have hps : p.size ≤ 12 := by rw [← HP.out]; exact pX_size l k
        by_cases hk0 : k = 0
        · have hkz : decide (0 < k) = false := decide_eq_false (by omega)
          have hkz' : decide ((0 : Int) < (k : Int)) = false := decide_eq_false (by omega)
          have HN : Hid (pJ l (k + 1) = J ++ p) := Lib.hid (by rw [pJ, if_pos hk0, HP.out, HJ.out.1])
          obtain ⟨J', hJ'⟩ : ∃ z, J ++ p = z := ⟨_, rfl⟩
          rw [hJ'] at HN
          clear hk0
          obtain ⟨C0, hC0⟩ : ∃ z, okB p 0 = z := ⟨_, rfl⟩
          have hb0 : C0 = !((p.toList == []) || ((p.toList == [46]) || (p.toList == [46, 46]))) := by rw [← hC0]; exact okB_zero p
          have HC0 := Lib.hid hC0
          clear hC0
          cases tb1 : (p.toList == []) with
          | true =>
            rw [tb1] at hb0
            simp only [Bool.true_or, Bool.not_true] at hb0
            subst hb0
            have HCz : Hid ((B && okB p 0) = false) := Lib.hid (by rw [HC0.out, Bool.and_false])
            clear HC0
            go_wp2_with fail
            go_loopw [7, 10] (fun v7 v10 W => ∃ (j : Nat) (C : Bool), j ≤ p.size ∧ v7 = .bool C ∧ v10 = .int .i64 (j : Int) ∧ Hid ((B && okB p j) = C) ∧ Hid (∀ i, i < j → p.data.toList[i]? ≠ some 47) ∧ Hid (Gr w W)) (fun _ v10 _ => p.size - (intOf v10).toNat)
            case atStart => exact ⟨0, _, Nat.zero_le _, rfl, rfl, HCz, Lib.hid (fun i h => by omega), HG2⟩
            case round =>
              obtain ⟨j, C, hj, rfl, rfl, HC, HNj, HG3⟩ := hrel
              by_cases hjl : j < p.size
              · have tj : decide (j < p.size) = true := decide_eq_true hjl
                have tj' : decide ((j : Int) < (p.size : Int)) = true := decide_eq_true (by omega)
                have hc : p.data.toList[j]? = some (p[j]'hjl) := by
                  rw [List.getElem?_eq_getElem (show j < p.data.toList.length from hjl)]; rfl
                have HCc := Lib.hid hc
                obtain ⟨cc, hcc⟩ : ∃ cc, p[j]'hjl = cc := ⟨_, rfl⟩
                rw [hcc] at HCc
                clear hc
                by_cases h47 : cc = 47
                · have z1 : ((cc.toNat : Int) == 47) = true := by rw [h47]; rfl
                  clear h47 HCc
                  go_wp2_with fail
                  go_ret
                  exact ⟨rfl, HG3.out⟩
                · have z1 : ((cc.toNat : Int) == 47) = false := by
                    rw [beq_eq_false_iff_ne]; intro e
                    exact h47 (UInt8.toNat_inj.1 (by have : cc.toNat = 47 := by omega
                                                     exact this))
                  obtain ⟨D1, z2⟩ : ∃ D, decide ((cc.toNat : Int) ≤ 32) = D := ⟨_, rfl⟩
                  obtain ⟨D2, z3⟩ : ∃ D, decide (126 < (cc.toNat : Int)) = D := ⟨_, rfl⟩
                  have hbc : badC cc = (D1 || D2) := by
                    unfold badC; rw [← z2, ← z3]
                    congr 1
                    · rw [decide_eq_decide]; omega
                    · rw [decide_eq_decide]; omega
                  have HSt : Hid ((B && okB p (j + 1)) = (C && !(D1 || D2))) := Lib.hid (by
                    rw [okB_step HCc.out, ← Bool.and_assoc, HC.out, hbc])
                  have HNx : Hid (∀ i, i < j + 1 → p.data.toList[i]? ≠ some 47) := Lib.hid (fun i hi => by
                    by_cases h : i = j
                    · rw [h, HCc.out]; intro e; injection e with e; exact h47 e
                    · exact HNj.out i (by omega))
                  clear hbc HCc h47 HC HNj
                  cases D1 with
                  | true =>
                    have HSt : Hid ((B && okB p (j + 1)) = false) := Lib.hid (by rw [HSt.out]; simp)
                    go_wp2_with fail
                    go_roundw
                    case rel => exact ⟨j + 1, _, by omega, rfl, by go_num, HSt, HNx, HG3⟩
                    case measure => simp [intOf]; omega
                  | false =>
                    cases D2 with
                    | true =>
                      have HSt : Hid ((B && okB p (j + 1)) = false) := Lib.hid (by rw [HSt.out]; simp)
                      go_wp2_with fail
                      go_roundw
                      case rel => exact ⟨j + 1, _, by omega, rfl, by go_num, HSt, HNx, HG3⟩
                      case measure => simp [intOf]; omega
                    | false =>
                      have HSt : Hid ((B && okB p (j + 1)) = C) := Lib.hid (by rw [HSt.out]; simp)
                      go_wp2_with fail
                      go_roundw
                      case rel => exact ⟨j + 1, _, by omega, rfl, by go_num, HSt, HNx, HG3⟩
                      case measure => simp [intOf]; omega
              · have tj : decide (j < p.size) = false := decide_eq_false hjl
                have tj' : decide ((j : Int) < (p.size : Int)) = false := decide_eq_false (by omega)
                obtain rfl : j = p.size := by omega
                have HJn : Hid (pJ l (k + 1) = J' ∧ pR l (k + 1) = C) := Lib.hid ⟨HN.out, by rw [pR, HP.out, HJ.out.2]; exact HC.out⟩
                have HNn : Hid (∀ j, j < k + 1 → noS (pX l j)) := Lib.hid (fun i hi => by
                  by_cases h : i = k
                  · rw [h, HP.out]; intro m
                    by_cases hm : m < p.size
                    · exact HNj.out m hm
                    · rw [List.getElem?_eq_none (by show p.size ≤ m; omega)]; intro e; cases e
                  · exact HNs.out i (by omega))
                clear HC HNj HN HNs HCz
                go_wp2_with fail
                go_roundw
                case rel => exact ⟨k + 1, _, _, by omega, by omega, rfl, rfl, by go_num, HJn, HNn, HG3⟩
                case measure => simp [intOf]; omega
          | false =>
            cases tb2 : (p.toList == [46]) with
            | true =>
              rw [tb1, tb2] at hb0
              simp only [Bool.true_or, Bool.false_or, Bool.not_true] at hb0
              subst hb0
              have HCz : Hid ((B && okB p 0) = false) := Lib.hid (by rw [HC0.out, Bool.and_false])
              clear HC0
              go_wp2_with fail
              go_loopw [7, 10] (fun v7 v10 W => ∃ (j : Nat) (C : Bool), j ≤ p.size ∧ v7 = .bool C ∧ v10 = .int .i64 (j : Int) ∧ Hid ((B && okB p j) = C) ∧ Hid (∀ i, i < j → p.data.toList[i]? ≠ some 47) ∧ Hid (Gr w W)) (fun _ v10 _ => p.size - (intOf v10).toNat)
              case atStart => exact ⟨0, _, Nat.zero_le _, rfl, rfl, HCz, Lib.hid (fun i h => by omega), HG2⟩
              case round =>
                obtain ⟨j, C, hj, rfl, rfl, HC, HNj, HG3⟩ := hrel
                by_cases hjl : j < p.size
                · have tj : decide (j < p.size) = true := decide_eq_true hjl
                  have tj' : decide ((j : Int) < (p.size : Int)) = true := decide_eq_true (by omega)
                  have hc : p.data.toList[j]? = some (p[j]'hjl) := by
                    rw [List.getElem?_eq_getElem (show j < p.data.toList.length from hjl)]; rfl
                  have HCc := Lib.hid hc
                  obtain ⟨cc, hcc⟩ : ∃ cc, p[j]'hjl = cc := ⟨_, rfl⟩
                  rw [hcc] at HCc
                  clear hc
                  by_cases h47 : cc = 47
                  · have z1 : ((cc.toNat : Int) == 47) = true := by rw [h47]; rfl
                    clear h47 HCc
                    go_wp2_with fail
                    go_ret
                    exact ⟨rfl, HG3.out⟩
                  · have z1 : ((cc.toNat : Int) == 47) = false := by
                      rw [beq_eq_false_iff_ne]; intro e
                      exact h47 (UInt8.toNat_inj.1 (by have : cc.toNat = 47 := by omega
                                                       exact this))
                    obtain ⟨D1, z2⟩ : ∃ D, decide ((cc.toNat : Int) ≤ 32) = D := ⟨_, rfl⟩
                    obtain ⟨D2, z3⟩ : ∃ D, decide (126 < (cc.toNat : Int)) = D := ⟨_, rfl⟩
                    have hbc : badC cc = (D1 || D2) := by
                      unfold badC; rw [← z2, ← z3]
                      congr 1
                      · rw [decide_eq_decide]; omega
                      · rw [decide_eq_decide]; omega
                    have HSt : Hid ((B && okB p (j + 1)) = (C && !(D1 || D2))) := Lib.hid (by
                      rw [okB_step HCc.out, ← Bool.and_assoc, HC.out, hbc])
                    have HNx : Hid (∀ i, i < j + 1 → p.data.toList[i]? ≠ some 47) := Lib.hid (fun i hi => by
                      by_cases h : i = j
                      · rw [h, HCc.out]; intro e; injection e with e; exact h47 e
                      · exact HNj.out i (by omega))
                    clear hbc HCc h47 HC HNj
                    cases D1 with
                    | true =>
                      have HSt : Hid ((B && okB p (j + 1)) = false) := Lib.hid (by rw [HSt.out]; simp)
                      go_wp2_with fail
                      go_roundw
                      case rel => exact ⟨j + 1, _, by omega, rfl, by go_num, HSt, HNx, HG3⟩
                      case measure => simp [intOf]; omega
                    | false =>
                      cases D2 with
                      | true =>
                        have HSt : Hid ((B && okB p (j + 1)) = false) := Lib.hid (by rw [HSt.out]; simp)
                        go_wp2_with fail
                        go_roundw
                        case rel => exact ⟨j + 1, _, by omega, rfl, by go_num, HSt, HNx, HG3⟩
                        case measure => simp [intOf]; omega
                      | false =>
                        have HSt : Hid ((B && okB p (j + 1)) = C) := Lib.hid (by rw [HSt.out]; simp)
                        go_wp2_with fail
                        go_roundw
                        case rel => exact ⟨j + 1, _, by omega, rfl, by go_num, HSt, HNx, HG3⟩
                        case measure => simp [intOf]; omega
                · have tj : decide (j < p.size) = false := decide_eq_false hjl
                  have tj' : decide ((j : Int) < (p.size : Int)) = false := decide_eq_false (by omega)
                  obtain rfl : j = p.size := by omega
                  have HJn : Hid (pJ l (k + 1) = J' ∧ pR l (k + 1) = C) := Lib.hid ⟨HN.out, by rw [pR, HP.out, HJ.out.2]; exact HC.out⟩
                  have HNn : Hid (∀ j, j < k + 1 → noS (pX l j)) := Lib.hid (fun i hi => by
                    by_cases h : i = k
                    · rw [h, HP.out]; intro m
                      by_cases hm : m < p.size
                      · exact HNj.out m hm
                      · rw [List.getElem?_eq_none (by show p.size ≤ m; omega)]; intro e; cases e
                    · exact HNs.out i (by omega))
                  clear HC HNj HN HNs HCz
                  go_wp2_with fail
                  go_roundw
                  case rel => exact ⟨k + 1, _, _, by omega, by omega, rfl, rfl, by go_num, HJn, HNn, HG3⟩
                  case measure => simp [intOf]; omega
            | false =>
              cases tb3 : (p.toList == [46, 46]) with
              | true =>
                rw [tb1, tb2, tb3] at hb0
                simp only [Bool.false_or, Bool.not_true] at hb0
                subst hb0
                have HCz : Hid ((B && okB p 0) = false) := Lib.hid (by rw [HC0.out, Bool.and_false])
                clear HC0
                go_wp2_with fail
                go_loopw [7, 10] (fun v7 v10 W => ∃ (j : Nat) (C : Bool), j ≤ p.size ∧ v7 = .bool C ∧ v10 = .int .i64 (j : Int) ∧ Hid ((B && okB p j) = C) ∧ Hid (∀ i, i < j → p.data.toList[i]? ≠ some 47) ∧ Hid (Gr w W)) (fun _ v10 _ => p.size - (intOf v10).toNat)
                case atStart => exact ⟨0, _, Nat.zero_le _, rfl, rfl, HCz, Lib.hid (fun i h => by omega), HG2⟩
                case round =>
                  obtain ⟨j, C, hj, rfl, rfl, HC, HNj, HG3⟩ := hrel
                  by_cases hjl : j < p.size
                  · have tj : decide (j < p.size) = true := decide_eq_true hjl
                    have tj' : decide ((j : Int) < (p.size : Int)) = true := decide_eq_true (by omega)
                    have hc : p.data.toList[j]? = some (p[j]'hjl) := by
                      rw [List.getElem?_eq_getElem (show j < p.data.toList.length from hjl)]; rfl
                    have HCc := Lib.hid hc
                    obtain ⟨cc, hcc⟩ : ∃ cc, p[j]'hjl = cc := ⟨_, rfl⟩
                    rw [hcc] at HCc
                    clear hc
                    by_cases h47 : cc = 47
                    · have z1 : ((cc.toNat : Int) == 47) = true := by rw [h47]; rfl
                      clear h47 HCc
                      go_wp2_with fail
                      go_ret
                      exact ⟨rfl, HG3.out⟩
                    · have z1 : ((cc.toNat : Int) == 47) = false := by
                        rw [beq_eq_false_iff_ne]; intro e
                        exact h47 (UInt8.toNat_inj.1 (by have : cc.toNat = 47 := by omega
                                                         exact this))
                      obtain ⟨D1, z2⟩ : ∃ D, decide ((cc.toNat : Int) ≤ 32) = D := ⟨_, rfl⟩
                      obtain ⟨D2, z3⟩ : ∃ D, decide (126 < (cc.toNat : Int)) = D := ⟨_, rfl⟩
                      have hbc : badC cc = (D1 || D2) := by
                        unfold badC; rw [← z2, ← z3]
                        congr 1
                        · rw [decide_eq_decide]; omega
                        · rw [decide_eq_decide]; omega
                      have HSt : Hid ((B && okB p (j + 1)) = (C && !(D1 || D2))) := Lib.hid (by
                        rw [okB_step HCc.out, ← Bool.and_assoc, HC.out, hbc])
                      have HNx : Hid (∀ i, i < j + 1 → p.data.toList[i]? ≠ some 47) := Lib.hid (fun i hi => by
                        by_cases h : i = j
                        · rw [h, HCc.out]; intro e; injection e with e; exact h47 e
                        · exact HNj.out i (by omega))
                      clear hbc HCc h47 HC HNj
                      cases D1 with
                      | true =>
                        have HSt : Hid ((B && okB p (j + 1)) = false) := Lib.hid (by rw [HSt.out]; simp)
                        go_wp2_with fail
                        go_roundw
                        case rel => exact ⟨j + 1, _, by omega, rfl, by go_num, HSt, HNx, HG3⟩
                        case measure => simp [intOf]; omega
                      | false =>
                        cases D2 with
                        | true =>
                          have HSt : Hid ((B && okB p (j + 1)) = false) := Lib.hid (by rw [HSt.out]; simp)
                          go_wp2_with fail
                          go_roundw
                          case rel => exact ⟨j + 1, _, by omega, rfl, by go_num, HSt, HNx, HG3⟩
                          case measure => simp [intOf]; omega
                        | false =>
                          have HSt : Hid ((B && okB p (j + 1)) = C) := Lib.hid (by rw [HSt.out]; simp)
                          go_wp2_with fail
                          go_roundw
                          case rel => exact ⟨j + 1, _, by omega, rfl, by go_num, HSt, HNx, HG3⟩
                          case measure => simp [intOf]; omega
                  · have tj : decide (j < p.size) = false := decide_eq_false hjl
                    have tj' : decide ((j : Int) < (p.size : Int)) = false := decide_eq_false (by omega)
                    obtain rfl : j = p.size := by omega
                    have HJn : Hid (pJ l (k + 1) = J' ∧ pR l (k + 1) = C) := Lib.hid ⟨HN.out, by rw [pR, HP.out, HJ.out.2]; exact HC.out⟩
                    have HNn : Hid (∀ j, j < k + 1 → noS (pX l j)) := Lib.hid (fun i hi => by
                      by_cases h : i = k
                      · rw [h, HP.out]; intro m
                        by_cases hm : m < p.size
                        · exact HNj.out m hm
                        · rw [List.getElem?_eq_none (by show p.size ≤ m; omega)]; intro e; cases e
                      · exact HNs.out i (by omega))
                    clear HC HNj HN HNs HCz
                    go_wp2_with fail
                    go_roundw
                    case rel => exact ⟨k + 1, _, _, by omega, by omega, rfl, rfl, by go_num, HJn, HNn, HG3⟩
                    case measure => simp [intOf]; omega
              | false =>
                rw [tb1, tb2, tb3] at hb0
                simp only [Bool.or_false, Bool.not_false] at hb0
                subst hb0
                have HCz : Hid ((B && okB p 0) = B) := Lib.hid (by rw [HC0.out, Bool.and_true])
                clear HC0
                go_wp2_with fail
                go_loopw [7, 10] (fun v7 v10 W => ∃ (j : Nat) (C : Bool), j ≤ p.size ∧ v7 = .bool C ∧ v10 = .int .i64 (j : Int) ∧ Hid ((B && okB p j) = C) ∧ Hid (∀ i, i < j → p.data.toList[i]? ≠ some 47) ∧ Hid (Gr w W)) (fun _ v10 _ => p.size - (intOf v10).toNat)
                case atStart => exact ⟨0, _, Nat.zero_le _, rfl, rfl, HCz, Lib.hid (fun i h => by omega), HG2⟩
                case round =>
                  obtain ⟨j, C, hj, rfl, rfl, HC, HNj, HG3⟩ := hrel
                  by_cases hjl : j < p.size
                  · have tj : decide (j < p.size) = true := decide_eq_true hjl
                    have tj' : decide ((j : Int) < (p.size : Int)) = true := decide_eq_true (by omega)
                    have hc : p.data.toList[j]? = some (p[j]'hjl) := by
                      rw [List.getElem?_eq_getElem (show j < p.data.toList.length from hjl)]; rfl
                    have HCc := Lib.hid hc
                    obtain ⟨cc, hcc⟩ : ∃ cc, p[j]'hjl = cc := ⟨_, rfl⟩
                    rw [hcc] at HCc
                    clear hc
                    by_cases h47 : cc = 47
                    · have z1 : ((cc.toNat : Int) == 47) = true := by rw [h47]; rfl
                      clear h47 HCc
                      go_wp2_with fail
                      go_ret
                      exact ⟨rfl, HG3.out⟩
                    · have z1 : ((cc.toNat : Int) == 47) = false := by
                        rw [beq_eq_false_iff_ne]; intro e
                        exact h47 (UInt8.toNat_inj.1 (by have : cc.toNat = 47 := by omega
                                                         exact this))
                      obtain ⟨D1, z2⟩ : ∃ D, decide ((cc.toNat : Int) ≤ 32) = D := ⟨_, rfl⟩
                      obtain ⟨D2, z3⟩ : ∃ D, decide (126 < (cc.toNat : Int)) = D := ⟨_, rfl⟩
                      have hbc : badC cc = (D1 || D2) := by
                        unfold badC; rw [← z2, ← z3]
                        congr 1
                        · rw [decide_eq_decide]; omega
                        · rw [decide_eq_decide]; omega
                      have HSt : Hid ((B && okB p (j + 1)) = (C && !(D1 || D2))) := Lib.hid (by
                        rw [okB_step HCc.out, ← Bool.and_assoc, HC.out, hbc])
                      have HNx : Hid (∀ i, i < j + 1 → p.data.toList[i]? ≠ some 47) := Lib.hid (fun i hi => by
                        by_cases h : i = j
                        · rw [h, HCc.out]; intro e; injection e with e; exact h47 e
                        · exact HNj.out i (by omega))
                      clear hbc HCc h47 HC HNj
                      cases D1 with
                      | true =>
                        have HSt : Hid ((B && okB p (j + 1)) = false) := Lib.hid (by rw [HSt.out]; simp)
                        go_wp2_with fail
                        go_roundw
                        case rel => exact ⟨j + 1, _, by omega, rfl, by go_num, HSt, HNx, HG3⟩
                        case measure => simp [intOf]; omega
                      | false =>
                        cases D2 with
                        | true =>
                          have HSt : Hid ((B && okB p (j + 1)) = false) := Lib.hid (by rw [HSt.out]; simp)
                          go_wp2_with fail
                          go_roundw
                          case rel => exact ⟨j + 1, _, by omega, rfl, by go_num, HSt, HNx, HG3⟩
                          case measure => simp [intOf]; omega
                        | false =>
                          have HSt : Hid ((B && okB p (j + 1)) = C) := Lib.hid (by rw [HSt.out]; simp)
                          go_wp2_with fail
                          go_roundw
                          case rel => exact ⟨j + 1, _, by omega, rfl, by go_num, HSt, HNx, HG3⟩
                          case measure => simp [intOf]; omega
                  · have tj : decide (j < p.size) = false := decide_eq_false hjl
                    have tj' : decide ((j : Int) < (p.size : Int)) = false := decide_eq_false (by omega)
                    obtain rfl : j = p.size := by omega
                    have HJn : Hid (pJ l (k + 1) = J' ∧ pR l (k + 1) = C) := Lib.hid ⟨HN.out, by rw [pR, HP.out, HJ.out.2]; exact HC.out⟩
                    have HNn : Hid (∀ j, j < k + 1 → noS (pX l j)) := Lib.hid (fun i hi => by
                      by_cases h : i = k
                      · rw [h, HP.out]; intro m
                        by_cases hm : m < p.size
                        · exact HNj.out m hm
                        · rw [List.getElem?_eq_none (by show p.size ≤ m; omega)]; intro e; cases e
                      · exact HNs.out i (by omega))
                    clear HC HNj HN HNs HCz
                    go_wp2_with fail
                    go_roundw
                    case rel => exact ⟨k + 1, _, _, by omega, by omega, rfl, rfl, by go_num, HJn, HNn, HG3⟩
                    case measure => simp [intOf]; omega
        · have hkz : decide (0 < k) = true := decide_eq_true (by omega)
          have hkz' : decide ((0 : Int) < (k : Int)) = true := decide_eq_true (by omega)
          have HN : Hid (pJ l (k + 1) = J ++ ⟨#[47]⟩ ++ p) := Lib.hid (by rw [pJ, if_neg hk0, HP.out, HJ.out.1])
          obtain ⟨J', hJ'⟩ : ∃ z, J ++ ⟨#[47]⟩ ++ p = z := ⟨_, rfl⟩
          rw [hJ'] at HN
          clear hk0
          obtain ⟨C0, hC0⟩ : ∃ z, okB p 0 = z := ⟨_, rfl⟩
          have hb0 : C0 = !((p.toList == []) || ((p.toList == [46]) || (p.toList == [46, 46]))) := by rw [← hC0]; exact okB_zero p
          have HC0 := Lib.hid hC0
          clear hC0
          cases tb1 : (p.toList == []) with
          | true =>
            rw [tb1] at hb0
            simp only [Bool.true_or, Bool.not_true] at hb0
            subst hb0
            have HCz : Hid ((B && okB p 0) = false) := Lib.hid (by rw [HC0.out, Bool.and_false])
            clear HC0
            go_wp2_with fail
            go_loopw [7, 10] (fun v7 v10 W => ∃ (j : Nat) (C : Bool), j ≤ p.size ∧ v7 = .bool C ∧ v10 = .int .i64 (j : Int) ∧ Hid ((B && okB p j) = C) ∧ Hid (∀ i, i < j → p.data.toList[i]? ≠ some 47) ∧ Hid (Gr w W)) (fun _ v10 _ => p.size - (intOf v10).toNat)
            case atStart => exact ⟨0, _, Nat.zero_le _, rfl, rfl, HCz, Lib.hid (fun i h => by omega), HG2⟩
            case round =>
              obtain ⟨j, C, hj, rfl, rfl, HC, HNj, HG3⟩ := hrel
              by_cases hjl : j < p.size
              · have tj : decide (j < p.size) = true := decide_eq_true hjl
                have tj' : decide ((j : Int) < (p.size : Int)) = true := decide_eq_true (by omega)
                have hc : p.data.toList[j]? = some (p[j]'hjl) := by
                  rw [List.getElem?_eq_getElem (show j < p.data.toList.length from hjl)]; rfl
                have HCc := Lib.hid hc
                obtain ⟨cc, hcc⟩ : ∃ cc, p[j]'hjl = cc := ⟨_, rfl⟩
                rw [hcc] at HCc
                clear hc
                by_cases h47 : cc = 47
                · have z1 : ((cc.toNat : Int) == 47) = true := by rw [h47]; rfl
                  clear h47 HCc
                  go_wp2_with fail
                  go_ret
                  exact ⟨rfl, HG3.out⟩
                · have z1 : ((cc.toNat : Int) == 47) = false := by
                    rw [beq_eq_false_iff_ne]; intro e
                    exact h47 (UInt8.toNat_inj.1 (by have : cc.toNat = 47 := by omega
                                                     exact this))
                  obtain ⟨D1, z2⟩ : ∃ D, decide ((cc.toNat : Int) ≤ 32) = D := ⟨_, rfl⟩
                  obtain ⟨D2, z3⟩ : ∃ D, decide (126 < (cc.toNat : Int)) = D := ⟨_, rfl⟩
                  have hbc : badC cc = (D1 || D2) := by
                    unfold badC; rw [← z2, ← z3]
                    congr 1
                    · rw [decide_eq_decide]; omega
                    · rw [decide_eq_decide]; omega
                  have HSt : Hid ((B && okB p (j + 1)) = (C && !(D1 || D2))) := Lib.hid (by
                    rw [okB_step HCc.out, ← Bool.and_assoc, HC.out, hbc])
                  have HNx : Hid (∀ i, i < j + 1 → p.data.toList[i]? ≠ some 47) := Lib.hid (fun i hi => by
                    by_cases h : i = j
                    · rw [h, HCc.out]; intro e; injection e with e; exact h47 e
                    · exact HNj.out i (by omega))
                  clear hbc HCc h47 HC HNj
                  cases D1 with
                  | true =>
                    have HSt : Hid ((B && okB p (j + 1)) = false) := Lib.hid (by rw [HSt.out]; simp)
                    go_wp2_with fail
                    go_roundw
                    case rel => exact ⟨j + 1, _, by omega, rfl, by go_num, HSt, HNx, HG3⟩
                    case measure => simp [intOf]; omega
                  | false =>
                    cases D2 with
                    | true =>
                      have HSt : Hid ((B && okB p (j + 1)) = false) := Lib.hid (by rw [HSt.out]; simp)
                      go_wp2_with fail
                      go_roundw
                      case rel => exact ⟨j + 1, _, by omega, rfl, by go_num, HSt, HNx, HG3⟩
                      case measure => simp [intOf]; omega
                    | false =>
                      have HSt : Hid ((B && okB p (j + 1)) = C) := Lib.hid (by rw [HSt.out]; simp)
                      go_wp2_with fail
                      go_roundw
                      case rel => exact ⟨j + 1, _, by omega, rfl, by go_num, HSt, HNx, HG3⟩
                      case measure => simp [intOf]; omega
              · have tj : decide (j < p.size) = false := decide_eq_false hjl
                have tj' : decide ((j : Int) < (p.size : Int)) = false := decide_eq_false (by omega)
                obtain rfl : j = p.size := by omega
                have HJn : Hid (pJ l (k + 1) = J' ∧ pR l (k + 1) = C) := Lib.hid ⟨HN.out, by rw [pR, HP.out, HJ.out.2]; exact HC.out⟩
                have HNn : Hid (∀ j, j < k + 1 → noS (pX l j)) := Lib.hid (fun i hi => by
                  by_cases h : i = k
                  · rw [h, HP.out]; intro m
                    by_cases hm : m < p.size
                    · exact HNj.out m hm
                    · rw [List.getElem?_eq_none (by show p.size ≤ m; omega)]; intro e; cases e
                  · exact HNs.out i (by omega))
                clear HC HNj HN HNs HCz
                go_wp2_with fail
                go_roundw
                case rel => exact ⟨k + 1, _, _, by omega, by omega, rfl, rfl, by go_num, HJn, HNn, HG3⟩
                case measure => simp [intOf]; omega
          | false =>
            cases tb2 : (p.toList == [46]) with
            | true =>
              rw [tb1, tb2] at hb0
              simp only [Bool.true_or, Bool.false_or, Bool.not_true] at hb0
              subst hb0
              have HCz : Hid ((B && okB p 0) = false) := Lib.hid (by rw [HC0.out, Bool.and_false])
              clear HC0
              go_wp2_with fail
              go_loopw [7, 10] (fun v7 v10 W => ∃ (j : Nat) (C : Bool), j ≤ p.size ∧ v7 = .bool C ∧ v10 = .int .i64 (j : Int) ∧ Hid ((B && okB p j) = C) ∧ Hid (∀ i, i < j → p.data.toList[i]? ≠ some 47) ∧ Hid (Gr w W)) (fun _ v10 _ => p.size - (intOf v10).toNat)
              case atStart => exact ⟨0, _, Nat.zero_le _, rfl, rfl, HCz, Lib.hid (fun i h => by omega), HG2⟩
              case round =>
                obtain ⟨j, C, hj, rfl, rfl, HC, HNj, HG3⟩ := hrel
                by_cases hjl : j < p.size
                · have tj : decide (j < p.size) = true := decide_eq_true hjl
                  have tj' : decide ((j : Int) < (p.size : Int)) = true := decide_eq_true (by omega)
                  have hc : p.data.toList[j]? = some (p[j]'hjl) := by
                    rw [List.getElem?_eq_getElem (show j < p.data.toList.length from hjl)]; rfl
                  have HCc := Lib.hid hc
                  obtain ⟨cc, hcc⟩ : ∃ cc, p[j]'hjl = cc := ⟨_, rfl⟩
                  rw [hcc] at HCc
                  clear hc
                  by_cases h47 : cc = 47
                  · have z1 : ((cc.toNat : Int) == 47) = true := by rw [h47]; rfl
                    clear h47 HCc
                    go_wp2_with fail
                    go_ret
                    exact ⟨rfl, HG3.out⟩
                  · have z1 : ((cc.toNat : Int) == 47) = false := by
                      rw [beq_eq_false_iff_ne]; intro e
                      exact h47 (UInt8.toNat_inj.1 (by have : cc.toNat = 47 := by omega
                                                       exact this))
                    obtain ⟨D1, z2⟩ : ∃ D, decide ((cc.toNat : Int) ≤ 32) = D := ⟨_, rfl⟩
                    obtain ⟨D2, z3⟩ : ∃ D, decide (126 < (cc.toNat : Int)) = D := ⟨_, rfl⟩
                    have hbc : badC cc = (D1 || D2) := by
                      unfold badC; rw [← z2, ← z3]
                      congr 1
                      · rw [decide_eq_decide]; omega
                      · rw [decide_eq_decide]; omega
                    have HSt : Hid ((B && okB p (j + 1)) = (C && !(D1 || D2))) := Lib.hid (by
                      rw [okB_step HCc.out, ← Bool.and_assoc, HC.out, hbc])
                    have HNx : Hid (∀ i, i < j + 1 → p.data.toList[i]? ≠ some 47) := Lib.hid (fun i hi => by
                      by_cases h : i = j
                      · rw [h, HCc.out]; intro e; injection e with e; exact h47 e
                      · exact HNj.out i (by omega))
                    clear hbc HCc h47 HC HNj
                    cases D1 with
                    | true =>
                      have HSt : Hid ((B && okB p (j + 1)) = false) := Lib.hid (by rw [HSt.out]; simp)
                      go_wp2_with fail
                      go_roundw
                      case rel => exact ⟨j + 1, _, by omega, rfl, by go_num, HSt, HNx, HG3⟩
                      case measure => simp [intOf]; omega
                    | false =>
                      cases D2 with
                      | true =>
                        have HSt : Hid ((B && okB p (j + 1)) = false) := Lib.hid (by rw [HSt.out]; simp)
                        go_wp2_with fail
                        go_roundw
                        case rel => exact ⟨j + 1, _, by omega, rfl, by go_num, HSt, HNx, HG3⟩
                        case measure => simp [intOf]; omega
                      | false =>
                        have HSt : Hid ((B && okB p (j + 1)) = C) := Lib.hid (by rw [HSt.out]; simp)
                        go_wp2_with fail
                        go_roundw
                        case rel => exact ⟨j + 1, _, by omega, rfl, by go_num, HSt, HNx, HG3⟩
                        case measure => simp [intOf]; omega
                · have tj : decide (j < p.size) = false := decide_eq_false hjl
                  have tj' : decide ((j : Int) < (p.size : Int)) = false := decide_eq_false (by omega)
                  obtain rfl : j = p.size := by omega
                  have HJn : Hid (pJ l (k + 1) = J' ∧ pR l (k + 1) = C) := Lib.hid ⟨HN.out, by rw [pR, HP.out, HJ.out.2]; exact HC.out⟩
                  have HNn : Hid (∀ j, j < k + 1 → noS (pX l j)) := Lib.hid (fun i hi => by
                    by_cases h : i = k
                    · rw [h, HP.out]; intro m
                      by_cases hm : m < p.size
                      · exact HNj.out m hm
                      · rw [List.getElem?_eq_none (by show p.size ≤ m; omega)]; intro e; cases e
                    · exact HNs.out i (by omega))
                  clear HC HNj HN HNs HCz
                  go_wp2_with fail
                  go_roundw
                  case rel => exact ⟨k + 1, _, _, by omega, by omega, rfl, rfl, by go_num, HJn, HNn, HG3⟩
                  case measure => simp [intOf]; omega
            | false =>
              cases tb3 : (p.toList == [46, 46]) with
              | true =>
                rw [tb1, tb2, tb3] at hb0
                simp only [Bool.false_or, Bool.not_true] at hb0
                subst hb0
                have HCz : Hid ((B && okB p 0) = false) := Lib.hid (by rw [HC0.out, Bool.and_false])
                clear HC0
                go_wp2_with fail
                go_loopw [7, 10] (fun v7 v10 W => ∃ (j : Nat) (C : Bool), j ≤ p.size ∧ v7 = .bool C ∧ v10 = .int .i64 (j : Int) ∧ Hid ((B && okB p j) = C) ∧ Hid (∀ i, i < j → p.data.toList[i]? ≠ some 47) ∧ Hid (Gr w W)) (fun _ v10 _ => p.size - (intOf v10).toNat)
                case atStart => exact ⟨0, _, Nat.zero_le _, rfl, rfl, HCz, Lib.hid (fun i h => by omega), HG2⟩
                case round =>
                  obtain ⟨j, C, hj, rfl, rfl, HC, HNj, HG3⟩ := hrel
                  by_cases hjl : j < p.size
                  · have tj : decide (j < p.size) = true := decide_eq_true hjl
                    have tj' : decide ((j : Int) < (p.size : Int)) = true := decide_eq_true (by omega)
                    have hc : p.data.toList[j]? = some (p[j]'hjl) := by
                      rw [List.getElem?_eq_getElem (show j < p.data.toList.length from hjl)]; rfl
                    have HCc := Lib.hid hc
                    obtain ⟨cc, hcc⟩ : ∃ cc, p[j]'hjl = cc := ⟨_, rfl⟩
                    rw [hcc] at HCc
                    clear hc
                    by_cases h47 : cc = 47
                    · have z1 : ((cc.toNat : Int) == 47) = true := by rw [h47]; rfl
                      clear h47 HCc
                      go_wp2_with fail
                      go_ret
                      exact ⟨rfl, HG3.out⟩
                    · have z1 : ((cc.toNat : Int) == 47) = false := by
                        rw [beq_eq_false_iff_ne]; intro e
                        exact h47 (UInt8.toNat_inj.1 (by have : cc.toNat = 47 := by omega
                                                         exact this))
                      obtain ⟨D1, z2⟩ : ∃ D, decide ((cc.toNat : Int) ≤ 32) = D := ⟨_, rfl⟩
                      obtain ⟨D2, z3⟩ : ∃ D, decide (126 < (cc.toNat : Int)) = D := ⟨_, rfl⟩
                      have hbc : badC cc = (D1 || D2) := by
                        unfold badC; rw [← z2, ← z3]
                        congr 1
                        · rw [decide_eq_decide]; omega
                        · rw [decide_eq_decide]; omega
                      have HSt : Hid ((B && okB p (j + 1)) = (C && !(D1 || D2))) := Lib.hid (by
                        rw [okB_step HCc.out, ← Bool.and_assoc, HC.out, hbc])
                      have HNx : Hid (∀ i, i < j + 1 → p.data.toList[i]? ≠ some 47) := Lib.hid (fun i hi => by
                        by_cases h : i = j
                        · rw [h, HCc.out]; intro e; injection e with e; exact h47 e
                        · exact HNj.out i (by omega))
                      clear hbc HCc h47 HC HNj
                      cases D1 with
                      | true =>
                        have HSt : Hid ((B && okB p (j + 1)) = false) := Lib.hid (by rw [HSt.out]; simp)
                        go_wp2_with fail
                        go_roundw
                        case rel => exact ⟨j + 1, _, by omega, rfl, by go_num, HSt, HNx, HG3⟩
                        case measure => simp [intOf]; omega
                      | false =>
                        cases D2 with
                        | true =>
                          have HSt : Hid ((B && okB p (j + 1)) = false) := Lib.hid (by rw [HSt.out]; simp)
                          go_wp2_with fail
                          go_roundw
                          case rel => exact ⟨j + 1, _, by omega, rfl, by go_num, HSt, HNx, HG3⟩
                          case measure => simp [intOf]; omega
                        | false =>
                          have HSt : Hid ((B && okB p (j + 1)) = C) := Lib.hid (by rw [HSt.out]; simp)
                          go_wp2_with fail
                          go_roundw
                          case rel => exact ⟨j + 1, _, by omega, rfl, by go_num, HSt, HNx, HG3⟩
                          case measure => simp [intOf]; omega
                  · have tj : decide (j < p.size) = false := decide_eq_false hjl
                    have tj' : decide ((j : Int) < (p.size : Int)) = false := decide_eq_false (by omega)
                    obtain rfl : j = p.size := by omega
                    have HJn : Hid (pJ l (k + 1) = J' ∧ pR l (k + 1) = C) := Lib.hid ⟨HN.out, by rw [pR, HP.out, HJ.out.2]; exact HC.out⟩
                    have HNn : Hid (∀ j, j < k + 1 → noS (pX l j)) := Lib.hid (fun i hi => by
                      by_cases h : i = k
                      · rw [h, HP.out]; intro m
                        by_cases hm : m < p.size
                        · exact HNj.out m hm
                        · rw [List.getElem?_eq_none (by show p.size ≤ m; omega)]; intro e; cases e
                      · exact HNs.out i (by omega))
                    clear HC HNj HN HNs HCz
                    go_wp2_with fail
                    go_roundw
                    case rel => exact ⟨k + 1, _, _, by omega, by omega, rfl, rfl, by go_num, HJn, HNn, HG3⟩
                    case measure => simp [intOf]; omega
              | false =>
                rw [tb1, tb2, tb3] at hb0
                simp only [Bool.or_false, Bool.not_false] at hb0
                subst hb0
                have HCz : Hid ((B && okB p 0) = B) := Lib.hid (by rw [HC0.out, Bool.and_true])
                clear HC0
                go_wp2_with fail
                go_loopw [7, 10] (fun v7 v10 W => ∃ (j : Nat) (C : Bool), j ≤ p.size ∧ v7 = .bool C ∧ v10 = .int .i64 (j : Int) ∧ Hid ((B && okB p j) = C) ∧ Hid (∀ i, i < j → p.data.toList[i]? ≠ some 47) ∧ Hid (Gr w W)) (fun _ v10 _ => p.size - (intOf v10).toNat)
                case atStart => exact ⟨0, _, Nat.zero_le _, rfl, rfl, HCz, Lib.hid (fun i h => by omega), HG2⟩
                case round =>
                  obtain ⟨j, C, hj, rfl, rfl, HC, HNj, HG3⟩ := hrel
                  by_cases hjl : j < p.size
                  · have tj : decide (j < p.size) = true := decide_eq_true hjl
                    have tj' : decide ((j : Int) < (p.size : Int)) = true := decide_eq_true (by omega)
                    have hc : p.data.toList[j]? = some (p[j]'hjl) := by
                      rw [List.getElem?_eq_getElem (show j < p.data.toList.length from hjl)]; rfl
                    have HCc := Lib.hid hc
                    obtain ⟨cc, hcc⟩ : ∃ cc, p[j]'hjl = cc := ⟨_, rfl⟩
                    rw [hcc] at HCc
                    clear hc
                    by_cases h47 : cc = 47
                    · have z1 : ((cc.toNat : Int) == 47) = true := by rw [h47]; rfl
                      clear h47 HCc
                      go_wp2_with fail
                      go_ret
                      exact ⟨rfl, HG3.out⟩
                    · have z1 : ((cc.toNat : Int) == 47) = false := by
                        rw [beq_eq_false_iff_ne]; intro e
                        exact h47 (UInt8.toNat_inj.1 (by have : cc.toNat = 47 := by omega
                                                         exact this))
                      obtain ⟨D1, z2⟩ : ∃ D, decide ((cc.toNat : Int) ≤ 32) = D := ⟨_, rfl⟩
                      obtain ⟨D2, z3⟩ : ∃ D, decide (126 < (cc.toNat : Int)) = D := ⟨_, rfl⟩
                      have hbc : badC cc = (D1 || D2) := by
                        unfold badC; rw [← z2, ← z3]
                        congr 1
                        · rw [decide_eq_decide]; omega
                        · rw [decide_eq_decide]; omega
                      have HSt : Hid ((B && okB p (j + 1)) = (C && !(D1 || D2))) := Lib.hid (by
                        rw [okB_step HCc.out, ← Bool.and_assoc, HC.out, hbc])
                      have HNx : Hid (∀ i, i < j + 1 → p.data.toList[i]? ≠ some 47) := Lib.hid (fun i hi => by
                        by_cases h : i = j
                        · rw [h, HCc.out]; intro e; injection e with e; exact h47 e
                        · exact HNj.out i (by omega))
                      clear hbc HCc h47 HC HNj
                      cases D1 with
                      | true =>
                        have HSt : Hid ((B && okB p (j + 1)) = false) := Lib.hid (by rw [HSt.out]; simp)
                        go_wp2_with fail
                        go_roundw
                        case rel => exact ⟨j + 1, _, by omega, rfl, by go_num, HSt, HNx, HG3⟩
                        case measure => simp [intOf]; omega
                      | false =>
                        cases D2 with
                        | true =>
                          have HSt : Hid ((B && okB p (j + 1)) = false) := Lib.hid (by rw [HSt.out]; simp)
                          go_wp2_with fail
                          go_roundw
                          case rel => exact ⟨j + 1, _, by omega, rfl, by go_num, HSt, HNx, HG3⟩
                          case measure => simp [intOf]; omega
                        | false =>
                          have HSt : Hid ((B && okB p (j + 1)) = C) := Lib.hid (by rw [HSt.out]; simp)
                          go_wp2_with fail
                          go_roundw
                          case rel => exact ⟨j + 1, _, by omega, rfl, by go_num, HSt, HNx, HG3⟩
                          case measure => simp [intOf]; omega
                  · have tj : decide (j < p.size) = false := decide_eq_false hjl
                    have tj' : decide ((j : Int) < (p.size : Int)) = false := decide_eq_false (by omega)
                    obtain rfl : j = p.size := by omega
                    have HJn : Hid (pJ l (k + 1) = J' ∧ pR l (k + 1) = C) := Lib.hid ⟨HN.out, by rw [pR, HP.out, HJ.out.2]; exact HC.out⟩
                    have HNn : Hid (∀ j, j < k + 1 → noS (pX l j)) := Lib.hid (fun i hi => by
                      by_cases h : i = k
                      · rw [h, HP.out]; intro m
                        by_cases hm : m < p.size
                        · exact HNj.out m hm
                        · rw [List.getElem?_eq_none (by show p.size ≤ m; omega)]; intro e; cases e
                      · exact HNs.out i (by omega))
                    clear HC HNj HN HNs HCz
                    go_wp2_with fail
                    go_roundw
                    case rel => exact ⟨k + 1, _, _, by omega, by omega, rfl, rfl, by go_num, HJn, HNn, HG3⟩
                    case measure => simp [intOf]; omega
      · have t8 : decide (k < 8) = false := decide_eq_false h8
        have t8' : decide ((k : Int) < 8) = false := decide_eq_false (by omega)
        have HE := Lib.hid (HEnd.out k (.inl (by omega)) hkl HNs.out)
        have hJs : J.size ≤ 200 := by rw [← HJ.out.1]; have := pJ_size l k; omega
        have HE : Hid (goodB J = (B && decide (J.size ≤ 64))) := Lib.hid (by have h := HE.out; rw [HJ.out.1, HJ.out.2] at h; exact h)
        clear HJ HNs HEnd HV
        obtain ⟨A, hA⟩ : ∃ A, goodB J = A := ⟨_, rfl⟩
        rw [hA] at HE
        have HMk := Lib.hid (fun (y : World) (hg : Gr w y) => make1_any J y (by omega) (HT.out.gr hg))
        rw [hA] at HMk
        clear hA
        go_wp2_with fail
        refine (HMk.out wr HG.out).mono ?_
        rintro e w4 ⟨p4, n4, c4, rfl, hg4⟩
        obtain ⟨ia, hia⟩ : ∃ z, mkI A 1 = z := ⟨_, rfl⟩
        obtain ⟨ea, hea⟩ : ∃ z, mkE A = z := ⟨_, rfl⟩
        have Hea := Lib.hid hea
        rw [hia, hea]
        have HG4 := Lib.hid (HG.out.trans hg4)
        clear hg4 hia hea HMk HG
        go_upto_region 21 with fail
        have HG5 := Lib.hid (HG4.out.trans (Gr.alloc w4 (.cells #[.int .i64 ia, .int .i64 ia, .slice p4 n4 c4] 24)))
        generalize w4.alloc (.cells #[.int .i64 ia, .int .i64 ia, .slice p4 n4 c4] 24) = w5 at *
        clear HG4
        have HMk := Lib.hid (fun (y : World) (hg : Gr w y) => make1_any (⟨#[47]⟩ ++ raw) y (by rw [ByteArray.size_append]; have := HR.out; have : (⟨#[47]⟩ : ByteArray).size = 1 := rfl; omega) (HT.out.gr hg))
        rw [slash_bad] at HMk
        have hrs : raw.size ≤ 140737488355000 := HR.out
        obtain ⟨sr, hsr⟩ : ∃ z, (⟨#[47]⟩ : ByteArray) ++ raw = z := ⟨_, rfl⟩
        rw [hsr] at HMk
        go_wp2_with fail
        refine (HMk.out w5 HG5.out).mono ?_
        rintro e w6 ⟨p6, n6, c6, rfl, hg6⟩
        rw [show mkI false 1 = 0 from rfl, show mkE false = 140 from rfl]
        have HG6 := Lib.hid (HG5.out.trans hg6)
        clear hg6 HMk HG5 hsr
        go_upto_region 22 with fail
        have HG7 := Lib.hid (HG6.out.trans (Gr.alloc w6 (.cells #[.int .i64 0, .int .i64 0, .slice p6 n6 c6] 24)))
        generalize w6.alloc (.cells #[.int .i64 0, .int .i64 0, .slice p6 n6 c6] 24) = w7 at *
        clear HG6
        cases A with
        | true =>
          obtain rfl : (0 : Int) = ea := Hea.out
          have he := HE.out.symm
          rw [Bool.and_eq_true] at he
          obtain ⟨rfl, he⟩ := he
          have q1 : decide (J.size ≤ 64) = true := he
          have q1' : decide ((J.size : Int) ≤ 64) = true := decide_eq_true (by have := of_decide_eq_true he; omega)
          clear he HE Hea
          go_wp2_with fail
          go_ret
          exact ⟨rfl, HG7.out⟩
        | false =>
          obtain rfl : (140 : Int) = ea := Hea.out
          cases B with
          | false =>
            go_wp2_with fail
            go_ret
            exact ⟨rfl, HG7.out⟩
          | true =>
            have he := HE.out.symm
            rw [Bool.true_and] at he
            have q1 : decide (J.size ≤ 64) = false := he
            have q1' : decide ((J.size : Int) ≤ 64) = false := decide_eq_false (by have := of_decide_eq_false he; omega)
            clear he HE Hea
            go_wp2_with fail
            go_ret
            exact ⟨rfl, HG7.out⟩
    · have ht : decide (k < l.length) = false := decide_eq_false hlt
      have ht' : decide ((k : Int) < (l.length : Int)) = false := decide_eq_false (by omega)
      have HE := Lib.hid (HEnd.out k (.inr (by omega)) hkl HNs.out)
      have hJs : J.size ≤ 200 := by rw [← HJ.out.1]; have := pJ_size l k; omega
      have HE : Hid (goodB J = (B && decide (J.size ≤ 64))) := Lib.hid (by have h := HE.out; rw [HJ.out.1, HJ.out.2] at h; exact h)
      clear HJ HNs HEnd HV
      obtain ⟨A, hA⟩ : ∃ A, goodB J = A := ⟨_, rfl⟩
      rw [hA] at HE
      have HMk := Lib.hid (fun (y : World) (hg : Gr w y) => make1_any J y (by omega) (HT.out.gr hg))
      rw [hA] at HMk
      clear hA
      go_wp2_with fail
      refine (HMk.out wr HG.out).mono ?_
      rintro e w4 ⟨p4, n4, c4, rfl, hg4⟩
      obtain ⟨ia, hia⟩ : ∃ z, mkI A 1 = z := ⟨_, rfl⟩
      obtain ⟨ea, hea⟩ : ∃ z, mkE A = z := ⟨_, rfl⟩
      have Hea := Lib.hid hea
      rw [hia, hea]
      have HG4 := Lib.hid (HG.out.trans hg4)
      clear hg4 hia hea HMk HG
      go_upto_region 21 with fail
      have HG5 := Lib.hid (HG4.out.trans (Gr.alloc w4 (.cells #[.int .i64 ia, .int .i64 ia, .slice p4 n4 c4] 24)))
      generalize w4.alloc (.cells #[.int .i64 ia, .int .i64 ia, .slice p4 n4 c4] 24) = w5 at *
      clear HG4
      have HMk := Lib.hid (fun (y : World) (hg : Gr w y) => make1_any (⟨#[47]⟩ ++ raw) y (by rw [ByteArray.size_append]; have := HR.out; have : (⟨#[47]⟩ : ByteArray).size = 1 := rfl; omega) (HT.out.gr hg))
      rw [slash_bad] at HMk
      have hrs : raw.size ≤ 140737488355000 := HR.out
      obtain ⟨sr, hsr⟩ : ∃ z, (⟨#[47]⟩ : ByteArray) ++ raw = z := ⟨_, rfl⟩
      rw [hsr] at HMk
      go_wp2_with fail
      refine (HMk.out w5 HG5.out).mono ?_
      rintro e w6 ⟨p6, n6, c6, rfl, hg6⟩
      rw [show mkI false 1 = 0 from rfl, show mkE false = 140 from rfl]
      have HG6 := Lib.hid (HG5.out.trans hg6)
      clear hg6 HMk HG5 hsr
      go_upto_region 22 with fail
      have HG7 := Lib.hid (HG6.out.trans (Gr.alloc w6 (.cells #[.int .i64 0, .int .i64 0, .slice p6 n6 c6] 24)))
      generalize w6.alloc (.cells #[.int .i64 0, .int .i64 0, .slice p6 n6 c6] 24) = w7 at *
      clear HG6
      cases A with
      | true =>
        obtain rfl : (0 : Int) = ea := Hea.out
        have he := HE.out.symm
        rw [Bool.and_eq_true] at he
        obtain ⟨rfl, he⟩ := he
        have q1 : decide (J.size ≤ 64) = true := he
        have q1' : decide ((J.size : Int) ≤ 64) = true := decide_eq_true (by have := of_decide_eq_true he; omega)
        clear he HE Hea
        go_wp2_with fail
        go_ret
        exact ⟨rfl, HG7.out⟩
      | false =>
        obtain rfl : (140 : Int) = ea := Hea.out
        cases B with
        | false =>
          go_wp2_with fail
          go_ret
          exact ⟨rfl, HG7.out⟩
        | true =>
          have he := HE.out.symm
          rw [Bool.true_and] at he
          have q1 : decide (J.size ≤ 64) = false := he
          have q1' : decide ((J.size : Int) ≤ 64) = false := decide_eq_false (by have := of_decide_eq_false he; omega)
          clear he HE Hea
          go_wp2_with fail
          go_ret
          exact ⟨rfl, HG7.out⟩
end Go.Proofs.YtjnnhhengpinmaaGreatDoor
