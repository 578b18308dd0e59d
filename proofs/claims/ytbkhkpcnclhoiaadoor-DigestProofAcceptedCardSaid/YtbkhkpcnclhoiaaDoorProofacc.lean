/- The walk of the statement DigestProofAccepted: it answers true. -/
import Derived.Test.YtbkhkpcnclhoiaaDoorAppend
import Derived.Test.YtbkhkpcnclhoiaaDoorGapp
import Derived.Deep.RegionHeld3
import Derived.Deep.CutRange
namespace Go.Proofs.YtbkhkpcnclhoiaaDoor
open Go.RowKit Go.Shelf
attribute [local go_sem] gAt gUpon
attribute [local simp] Gr.refl Gr.alloc

/-- nothing is appended -/
theorem wpList_append_zero {P : Program} (w : World) {ops : Array Oper} {rest : List Oper} {o : Oper} {a : Act} {Q : Exit → Act → World → Prop} (hgd : o.guard = none) (s x : Operand) (t : TypeId)
    (ho : o.op = .call { callee := .builtin .append, args := #[s, x], argTypes := #[t, t] }) {e : TypeId} (i : TypeInfo) (ht : P.underlying t = some (.slice e)) (hi : P.info? e = some i) {base : Option Addr} {sLen sCap : Nat} (hle : sLen ≤ sCap)
    {p : Option Addr} {c : Nat} (hv : a.eval s = .slice base sLen sCap) (hx : a.eval x = .slice p 0 c) (hK : wpList P ops Q rest (a.put o.dst (.slice base sLen sCap)) w) : wpList P ops Q (o :: rest) a w := by
  refine wpList_plain hgd fun K hK' => ?_
  have hrun : (Builtin.append_ #[t, t] o.type #[.slice base sLen sCap, .slice p 0 c]).run P w = .ok (.slice base sLen sCap) w := by
    refine run_append_nothing w t t o.type e i ht hi base sLen sCap hle _ ⟨.inl ⟨e, ht⟩, fun w' => ?_, ?_, ?_, by simp, by simp⟩
    · rfl
    · cases p <;> simp [Builtin.firstCells, loadCells, loadCellsFrom]
    · cases p <;> simp [Builtin.firstCells, loadCells, loadCellsFrom]
  unfold Oper.wp
  simp [execOp, ho, resolve, invoke, builtin, hv, hx, hrun, Result.andThen]
  exact hK' _ _ hK

theorem binp_any (n : Nat) (hn : n ≤ 1000) (w : World) :
    Calls Tryd.prog 20 #[.int .i64 (n : Int)] w fun e w' => (∃ k : Nat, e = .returned (.int .i64 (k : Int)) ∧ n < 2 ^ k ∧ k ≤ n) ∧ w = w' := by
  go_enter Tryd.func20, Tryd.ntmps20
  go_wp2
  go_loop [0, 3] (fun t j => ∃ m k : Nat, t = .int .i64 (m : Int) ∧ j = .int .i64 (k : Int) ∧ k + m ≤ n ∧ Hid (n < 2 ^ k * (m + 1))) (fun t _ => (intOf t).toNat)
  case atStart => exact ⟨n, 0, rfl, rfl, by omega, Lib.hid (by simp)⟩
  case round =>
    obtain ⟨m, k, rfl, rfl, hkm, HK⟩ := hrel
    by_cases h0 : 0 < m
    · have H2 : Hid (n < 2 ^ (k + 1) * (m / 2 + 1)) := Lib.hid (by
        have h := HK.out
        rw [Nat.pow_succ, Nat.mul_assoc]
        refine Nat.lt_of_lt_of_le h (Nat.mul_le_mul_left _ ?_)
        omega)
      go_wp2
      go_round
      case rel => exact ⟨m / 2, k + 1, by go_num, by go_num, by omega, H2⟩
      case measure => simp [intOf]; omega
    · have hm : m = 0 := by omega
      subst hm
      have H2 : Hid (n < 2 ^ k) := Lib.hid (by have h := HK.out; simpa using h)
      go_wp2
      go_ret
      exact ⟨⟨k, rfl, H2.out, by omega⟩, rfl⟩

/-- the proof of an entry is accepted -/
theorem verD_ok (l : List ByteArray) (k : Nat) (s : ByteArray) (h : l[k]? = some s) : verD (rootD l) l.length k s (proofD l k) = true := by
  have hk : k < l.length := (List.getElem?_eq_some_iff.1 h).1
  unfold verD
  rw [decide_eq_true (show (0 : Int) ≤ (k : Int) by omega), decide_eq_true (show (k : Int) < (l.length : Int) by omega), allD_iff.2 (proof_all _ l k (Nat.le_refl _))]
  simp [proof_val _ l k s (Nat.le_refl _) h]
/-- another proof of the same entry is accepted only if it has the same length -/
theorem verD_len (l : List ByteArray) (k : Nat) (s : ByteArray) (q : List ByteArray) (h : l[k]? = some s) (hq : q.length ≠ (proofD l k).length) : verD (rootD l) l.length k s q = false := by
  unfold verD
  have : valR s q.reverse l.length k ≠ some (rootD l) := fun e => by
    have := valR_len e (proof_val _ l k s (Nat.le_refl _) h)
    simp at this
    exact hq this
  simp [this]
theorem verD_out (r : ByteArray) (n i : Int) (s : ByteArray) (q : List ByteArray) (h : i < 0 ∨ n ≤ i) : verD r n i s q = false := by
  unfold verD
  rcases h with h | h
  · rw [decide_eq_false (show ¬ 0 ≤ i by omega)]; simp
  · rw [decide_eq_false (show ¬ i < n by omega)]; simp

theorem sC_push' (l : List ByteArray) (x : ByteArray) : sC l ++ [.string x] = sC (l ++ [x]) := by simp [sC]
theorem strs_of {B n : Nat} {v : Value} {l : List ByteArray} {x : ByteArray} {w : World} (h : Own B 1 v n (sC l ++ [.string x]) w) : StrsAt v (l ++ [x]) w := by
  rw [sC_push'] at h; exact h.strs.2
theorem facts107 {wd W w5 : World} {v5 : Value} {nx : Nat} {xs : List Value} (hG : Gr wd W) (hr : w5.ownsRow W.heap.size 9 1 v5 (0 + nx) ([] ++ xs)) (hgr : W.grownBy w5 none) :
    Gr wd w5 ∧ Own wd.heap.size 1 v5 nx xs w5 ∧ Hid (∀ (b : Nat) (v : Value) (t : TypeId), W.heap[b]? = some (.cells #[v] t (0, 0)) → w5.heap[b]? = some (.cells #[v] t (0, 0))) := by
  rw [Nat.zero_add, List.nil_append] at hr
  exact ⟨Gr.trans hG (Chg.gr (Chg.of_grownBy hgr)), (Own.of_row hr).mono hG.size, fun b v t h => (Chg.gr (Chg.of_grownBy hgr)).block h⟩
theorem facts110 {wd W w6 : World} {v : Value} {n : Nat} {xs : List Value} (hG : Gr wd W) (hO : Own wd.heap.size 1 v n xs W) (hc : Chg v.ownBlock W w6) : Gr wd w6 :=
  gr_step (Gr.refl wd) hG hc (fun g hg => hO.ge hg)
theorem own_from {w : World} {B B' e s : Nat} {v : Value} {n : Nat} {xs : List Value} (h : w.ownsRow B e s v (0 + n) ([] ++ xs)) (hB : B' ≤ B) : Own B' s v n xs w := by
  rw [Nat.zero_add, List.nil_append] at h
  exact (Own.of_row h).mono hB
set_option maxRecDepth 100000 in
set_option maxHeartbeats 4000000 in
theorem proofacc_any (v : Value) (l : List ByteArray) (i : Int) (w : World) (hv : StrsIn v l w) (hi : -9223372036854775808 ≤ i ∧ i ≤ 9223372036854775807) (hT : Tab w) :
    Calls Tryd.prog 4 #[v, .int .i64 i] w fun e w' => e = .returned (.bool true) ∧ Gr w w' := by
  obtain ⟨i9, hi9, hz9, hsz9, hb9⟩ := info_parts info9
  obtain ⟨hi1, hi2⟩ := hi
  have HV := Lib.hid hv
  have HT := Lib.hid hT
  clear hv hT
  go_enter Tryd.func4, Tryd.ntmps4
  go_wp2_with fail
  refine (sane_any w HT.out).mono ?_
  rintro e w1 ⟨rfl, hg1⟩
  go_wp2_with fail
  refine (few_in v l 40 w1 (HV.out.gr hg1) (by decide)).mono ?_
  rintro e w2 ⟨u, rfl, ho, hg2, hz⟩
  have hMl := fewD_len l 40
  have hMs := fewD_all l 40
  generalize fewD l 40 = M at ho hz hMl hMs
  have hM : M.length ≤ 40 := by omega
  have HMs : Hid (∀ x ∈ M, x.size ≤ 140737488354000) := Lib.hid (fun x hx => by have := hMs x hx; omega)
  have HG2 := Lib.hid (hg1.trans hg2)
  have HU := Lib.hid ho.strs.2
  obtain ⟨pu, cu, hu⟩ := ho.slice
  have hpu : (M.length = 0 ∧ pu = none ∧ cu = 0) ∨ (0 < M.length ∧ M.length ≤ cu ∧ ∃ g off, pu = some ⟨g, off, none⟩ ∧ ∀ (j : Nat) x, M[j]? = some x → w2.cell? ⟨g, off + j, none⟩ = some (.string x)) := by
    rcases HU.out with ⟨h1, h2⟩ | ⟨g, off, cap, h1, h2, _, h4⟩
    · rw [hu] at h1
      injection h1 with e1 e2 e3
      exact .inl ⟨by rw [h2]; rfl, e1, e3⟩
    · by_cases h0 : M.length = 0
      · have h3 := hz h0
        rw [hu] at h3
        injection h3 with e1 e2 e3
        exact .inl ⟨h0, e1, e3⟩
      · rw [hu] at h1
        injection h1 with e1 e2 e3
        exact .inr ⟨by omega, by omega, g, off, e1, h4⟩
  subst hu
  obtain ⟨m, hm⟩ : ∃ m, M.length = m := ⟨_, rfl⟩
  have Hm := Lib.hid hm
  rw [hm] at hM HU hpu ⊢
  have HPu := Lib.hid hpu
  clear hm hg1 hg2 ho hMl hMs HV hz hpu
  have HR : Hid (∀ w', Gr w2 w' → Calls Tryd.prog 18 #[.slice pu m cu] w' fun e w'' => e = .returned (.string (rootD M)) ∧ Gr w' w'') := Lib.hid (fun w' hg => by
    have h := root_any (.slice pu m cu) M w' (HU.out.gr hg) (by rw [Hm.out]; omega) HMs.out (HT.out.gr (HG2.out.trans hg))
    exact h)
  have HP : Hid (∀ k : Nat, k < m → ∀ w', Gr w2 w' → Calls Tryd.prog 13 #[.slice pu m cu, .int .i64 (k : Int)] w' fun e w'' => ∃ p c X, e = .returned (.tuple #[.slice p X.length c, .int .i64 0]) ∧ StrsAt (.slice p X.length c) X w'' ∧
      (∀ b, m < 2 ^ b → X.length ≤ b) ∧ X.length ≤ 1000 ∧ (∀ s, M[k]? = some s → verD (rootD M) m k s X = true ∧ ∀ q : List ByteArray, q.length ≠ X.length → verD (rootD M) m k s q = false) ∧ Gr w' w'') := Lib.hid (fun k hk w' hg => by
    refine (proof_in (.slice pu m cu) M k w' (HU.out.gr hg) (by rw [Hm.out]; omega) (by rw [Hm.out]; exact hk) HMs.out (HT.out.gr (HG2.out.trans hg))).mono ?_
    rintro e w'' ⟨u, rfl, hO, hG⟩
    obtain ⟨p, c, rfl⟩ := hO.slice
    refine ⟨p, c, _, rfl, hO.strs.2, fun b h1 => ?_, ?_, fun s hs => ?_, hG⟩
    · exact proof_short b M k (by rw [Hm.out]; omega)
    · have := proof_short 6 M k (by rw [Hm.out]; omega); omega
    · have h1 := verD_ok M k s hs
      rw [Hm.out] at h1
      refine ⟨h1, fun q hq => ?_⟩
      have h2 := verD_len M k s q hs hq
      rw [Hm.out] at h2; exact h2)
  have HPo : Hid (i < 0 ∨ (m : Int) ≤ i → ∀ w', Gr w2 w' → Calls Tryd.prog 13 #[.slice pu m cu, .int .i64 i] w' fun e w'' => ∃ p c, e = .returned (.tuple #[.slice p 0 c, .int .i64 2]) ∧ Gr w' w'') := Lib.hid (fun ho w' hg => by
    refine (proof_any (.slice pu m cu) M i w' (HU.out.gr hg) (by rw [Hm.out]; omega) HMs.out (HT.out.gr (HG2.out.trans hg))).mono ?_
    rintro e w'' ⟨u, x, rfl, hx, hO, hG⟩
    rw [Hm.out, if_pos ho] at hx hO
    subst hx
    obtain ⟨p, c, rfl⟩ := hO.slice
    exact ⟨p, c, rfl, hG⟩)
  have HVf : Hid (∀ (k : Int) (s : ByteArray) (q : List ByteArray) u w', Gr w2 w' → s.size ≤ 140737488354000 → q.length ≤ 2000 → StrsAt u q w' → Calls Tryd.prog 21 #[.string (rootD M), .int .i64 (m : Int), .int .i64 k, .string s, u] w' fun e w'' => e = .returned (.bool (verD (rootD M) m k s q)) ∧ Gr w' w'') :=
    Lib.hid (fun k s q u w' hg hs hq hu => verify_any (rootD M) s m k u q w' hu (by omega) (by omega) hs (HT.out.gr (HG2.out.trans hg)))
  have hMk : Hid (∀ k, k < m → ∃ x, M[k]? = some x ∧ x.size ≤ 140737488354000) := Lib.hid (fun k hk => by
    have hk' : k < M.length := by rw [Hm.out]; exact hk
    exact ⟨M[k], List.getElem?_eq_getElem hk', HMs.out _ (List.getElem_mem hk')⟩)
  clear HU HMs
  go_wp2_with fail
  refine (HR.out _ (Gr.refl _)).mono ?_
  rintro e w3 ⟨rfl, hg3⟩
  generalize hRM : rootD M = R at *
  clear hRM
  go_wp2_with fail
  go_loopw [7] (fun v7 W => ∃ k : Nat, k ≤ m ∧ v7 = .int .i64 (k : Int) ∧ Hid (Gr w2 W)) (fun v7 _ => m - (intOf v7).toNat)
  case atStart => exact ⟨0, Nat.zero_le _, rfl, Lib.hid hg3⟩
  clear hg3
  case round =>
    obtain ⟨k, hk, rfl, HG⟩ := hrel
    by_cases hkm : k < m
    · have ht1 : decide (k < m) = true := decide_eq_true hkm
      obtain ⟨x, hx, hxs⟩ := hMk.out k hkm
      rcases HPu.out with ⟨hm0, -, -⟩ | ⟨-, hmc, g, off, rfl, hcell⟩
      · omega
      have hc2 := hcell k x hx
      have HX := Lib.hid hx
      have HC2 := Lib.hid hc2
      clear hcell hc2 hx
      go_wp2_with fail
      refine (HP.out k hkm _ HG.out).mono ?_
      rintro e w4 ⟨p4, c4, X, rfl, hX, hXl, hX1, hXv, hg4⟩
      have HG4 := Lib.hid (HG.out.trans hg4)
      have HX4 := Lib.hid hX
      have HXl := Lib.hid hXl
      have hxv := (hXv x HX.out).1
      have hcx := HG4.out.cell HC2.out
      have HVx0 := Lib.hid (HVf.out k x X (.slice p4 X.length c4) w4 HG4.out hxs (by omega) hX)
      rw [hxv] at HVx0
      clear hX hXl hXv hg4 HG hxv
      go_wp2_with fail
      refine (binp_any m (by omega) w4).mono ?_
      rintro e w5 ⟨⟨b, rfl, hb1, hb2⟩, rfl⟩
      have hb3 := HXl.out b hb1
      clear hb1
      obtain ⟨nx, hnx⟩ : ∃ nx, X.length = nx := ⟨_, rfl⟩
      rw [hnx] at hb3 hX1 HX4 HVx0 ⊢
      have hb4 : decide (b < nx) = false := decide_eq_false (by omega)
      clear hnx HXl HP HR HPo
      go_wp2_with fail
      refine HVx0.out.mono ?_
      rintro e w7 ⟨rfl, hg7⟩
      have HG7 := Lib.hid (HG4.out.trans hg7)
      clear hg7 HVx0
      go_wp2_with fail
      go_roundw
      case rel => exact ⟨k + 1, by omega, by go_num, HG7⟩
      case measure => simp [intOf]; omega
    · have ht1 : decide (k < m) = false := decide_eq_false hkm
      clear HR
      by_cases hio : i < 0 ∨ (m : Int) ≤ i
      · have HPo' := Lib.hid (HPo.out hio)
        have hve := verD_out R m i ⟨#[]⟩ [] hio
        have HV0 := Lib.hid (fun w' hg => HVf.out i ⟨#[]⟩ [] (.slice none 0 0) w' hg (by decide) (by decide) (.inl ⟨rfl, rfl⟩))
        rw [hve] at HV0
        clear HPo HP HVf hMk HPu hve
        by_cases h0 : i < 0
        · have ht2 : decide (0 ≤ i) = false := decide_eq_false (by omega)
          clear hio
          go_wp2_with fail
          refine (HPo'.out _ HG.out).mono ?_
          rintro e w4 ⟨p4, c4, rfl, hg4⟩
          have HG4 := Lib.hid (HG.out.trans hg4)
          clear hg4 HPo'
          go_wp2_with fail
          refine (HV0.out _ HG4.out).mono ?_
          rintro e w5 ⟨rfl, hg5⟩
          have HG5 := Lib.hid (HG2.out.trans (HG4.out.trans hg5))
          clear hg5 HV0
          go_wp2_with fail
          go_ret
          exact ⟨rfl, HG5.out⟩
        · have ht2 : decide (0 ≤ i) = true := decide_eq_true (by omega)
          have ht3 : decide (i < (m : Int)) = false := decide_eq_false (by omega)
          clear hio
          go_wp2_with fail
          refine (HPo'.out _ HG.out).mono ?_
          rintro e w4 ⟨p4, c4, rfl, hg4⟩
          have HG4 := Lib.hid (HG.out.trans hg4)
          clear hg4 HPo'
          go_wp2_with fail
          refine (HV0.out _ HG4.out).mono ?_
          rintro e w5 ⟨rfl, hg5⟩
          have HG5 := Lib.hid (HG2.out.trans (HG4.out.trans hg5))
          clear hg5 HV0
          go_wp2_with fail
          go_ret
          exact ⟨rfl, HG5.out⟩
      · obtain ⟨j, rfl⟩ := Int.eq_ofNat_of_zero_le (show 0 ≤ i by omega)
        have hjm : j < m := by omega
        clear hio HPo hi1 hi2
        have ht2 : decide (j < m) = true := decide_eq_true hjm
        obtain ⟨x, hx, hxs⟩ := hMk.out j hjm
        rcases HPu.out with ⟨hm0, -, -⟩ | ⟨-, hmc, g, off, rfl, hcell⟩
        · omega
        have HC2 := Lib.hid (hcell j x hx)
        have HX := Lib.hid hx
        clear hcell hx hMk HPu
        go_wp2_with fail
        refine (HP.out j hjm _ HG.out).mono ?_
        rintro e w4 ⟨p4, c4, X, rfl, hX, -, hX1, hXv, hg4⟩
        have HG4 := Lib.hid (HG.out.trans hg4)
        have HX4 := Lib.hid hX
        have hnv := (hXv x HX.out).2
        have HL : Hid (∀ u w', Gr w2 w' → StrsAt u (X ++ [R]) w' → Calls Tryd.prog 21 #[.string R, .int .i64 (m : Int), .int .i64 (j : Int), .string x, u] w' fun e w'' => e = .returned (.bool false) ∧ Gr w' w'') := Lib.hid (fun u w' hg hu => by
          have h := HVf.out j x (X ++ [R]) u w' hg hxs (by simp; omega) hu
          rw [hnv _ (by simp)] at h; exact h)
        have HSh : Hid (0 < X.length → ∀ u w', Gr w2 w' → StrsAt u (X.drop 1) w' → Calls Tryd.prog 21 #[.string R, .int .i64 (m : Int), .int .i64 (j : Int), .string x, u] w' fun e w'' => e = .returned (.bool false) ∧ Gr w' w'') := Lib.hid (fun h0 u w' hg hu => by
          have h := HVf.out j x (X.drop 1) u w' hg hxs (by simp; omega) hu
          rw [hnv _ (by simp; omega)] at h; exact h)
        have hcx := HG4.out.cell HC2.out
        obtain ⟨nx, hnx⟩ : ∃ nx, X.length = nx := ⟨_, rfl⟩
        have Hnx := Lib.hid hnx
        rw [hnx] at hX1 HX4 HSh ⊢
        clear hX hXv hg4 HG hnx hnv HP HVf
        go_upto_region 16 with fail
        have Hcx := Lib.hid hcx
        obtain ⟨wd, hwd⟩ : ∃ wd, wd = w4 := ⟨_, rfl⟩
        subst hwd
        go_cut [13] from 97 to 111 (fun v13 wx => v13 = .bool false ∧ Hid (Gr wd wx))
        case first =>
          rename_i JJ KK hJ hK
          by_cases hn0 : nx = 0
          · have hXn : X = [] := List.eq_nil_of_length_eq_zero (by rw [Hnx.out]; exact hn0)
            subst hn0 hXn
            go_region_held3 (fun w' => Hid (Gr wd w') ∧ w'.cell? ⟨g, off + j, none⟩ = some (.string x))
              ((refine keepS ?_ hcx; repeat (first | assumption | exact Gr.refl _ | (refine Gr.trans ?_ (Gr.alloc _ _)) | (refine Gr.trans ?_ (Gr.drew _)))))
              (first
                | (refine step_of_list (ops' := #[]) rfl rfl ?_
                   refine wpList_append_zero _ rfl (.tmp 105) (.tmp 106) 22 rfl i9 Tryd.underlying22 hi9 (Nat.le_refl 0) rfl rfl ?_
                   refine ⟨rfl, ?_⟩)
                | (refine step_of_list (ops' := #[]) rfl rfl ?_
                   refine wpList_append_Own rfl (.tmp 107) (.tmp 109) 22 rfl 9 i9 (.string ⟨#[]⟩) 1 16 Tryd.underlying22 hi9 hz9 hsz9 hb9 rfl Nat.one_pos rfl (own_row0 (B := wd.heap.size) (Nat.le_refl _)) ⟨_, 0, none⟩ 1 1 [.string R] rfl rfl (one_at (row_new2 _ _ _ _)) ?_ Nat.one_pos ?_ ?_ ?_ ?_
                   · (intro u hu; simp at hu; subst hu; rfl)
                   · (unfold maxLen; omega)
                   · omega
                   · exact (show Gr wd _ from (((Gr.alloc wd _).trans (Gr.alloc _ _)).trans (Gr.drew _))).size
                   intro v6 w6 hown6 hchg6 _
                   have hg6 := facts110 (((Gr.alloc wd _).trans (Gr.alloc _ _)).trans (Gr.drew _)) (own_row0 (B := wd.heap.size) (Nat.le_refl _)) hchg6
                   refine ⟨rfl, ?_⟩)
                | (refine step_of_list (ops' := #[]) rfl rfl ?_
                   refine wpList_append_Own rfl (.tmp 107) (.tmp 109) 22 rfl 9 i9 (.string ⟨#[]⟩) 1 16 Tryd.underlying22 hi9 hz9 hsz9 hb9 rfl Nat.one_pos rfl (own_row0 (B := wd.heap.size) (Nat.le_succ _)) ⟨_, 0, none⟩ 1 1 [.string R] rfl rfl (one_at (row_old2 _ _ _ _)) ?_ Nat.one_pos ?_ ?_ ?_ ?_
                   · (intro u hu; simp at hu; subst hu; rfl)
                   · (unfold maxLen; omega)
                   · omega
                   · exact (show Gr wd _ from (((Gr.alloc wd _).trans (Gr.alloc _ _)).trans (Gr.drew _))).size
                   intro v6 w6 hown6 hchg6 _
                   have hg6 := facts110 (((Gr.alloc wd _).trans (Gr.alloc _ _)).trans (Gr.drew _)) (own_row0 (B := wd.heap.size) (Nat.le_succ _)) hchg6
                   refine ⟨rfl, ?_⟩)
                | (go_at_call 21
                   refine (HL.out _ _ (HG4.out.trans hg6) (strs_of (l := []) hown6)).mono ?_
                   rintro e w7 ⟨rfl, hg7⟩
                   have hg67 := hg6.trans hg7))
            all_goals
              refine hK _ _ (Met.intro (hJ _ _ ?_))
              repeat apply Exists.intro
              refine ⟨?_, rfl⟩
              exact ⟨rfl, ‹Gr wd _›⟩
          · obtain ⟨g4, o4, rfl, -, hc41, hc42, -⟩ := HX4.out.cut (by omega)
            have hn1 : 0 < nx := by omega
            have hn1' : 0 < 0 + nx := by omega
            have HXc : Hid (∀ W, Gr wd W → ∀ (j : Nat) u, (sC X)[j]? = some u → W.cell? ((⟨g4, o4, none⟩ : Addr).add j) = some u) := Lib.hid (by
              intro W hW j' u hj
              rcases HX4.out with ⟨h, _⟩ | ⟨g', o', c', h, _, _, h3⟩
              · cases h
              · injection h with e1 e2 e3
                injection e1 with e1
                injection e1 with e4 e5
                subst e4 e5
                simp only [sC, List.getElem?_map, Option.map_eq_some_iff] at hj
                obtain ⟨y, hy, rfl⟩ := hj
                rw [Addr.add_mid]
                exact hW.cell (h3 j' y hy))
            have HXl : Hid ((sC X).length = nx * 1) := Lib.hid (by rw [sC_length, Hnx.out, Nat.mul_one])
            have HX1 : Hid (∀ u ∈ sC X, u.oneCell' = true) := Lib.hid (by intro u hu; simp [sC] at hu; obtain ⟨x, _, rfl⟩ := hu; rfl)
            go_region_held3 (fun w' => Hid (Gr wd w') ∧ w'.cell? ⟨g, off + j, none⟩ = some (.string x))
              ((refine keepS ?_ hcx; repeat (first | assumption | exact Gr.refl _ | (refine Gr.trans ?_ (Gr.alloc _ _)) | (refine Gr.trans ?_ (Gr.drew _)))))
              (first
                | (refine step_of_list (ops' := #[]) rfl rfl ?_
                   refine wpList_append_grows _ rfl (.tmp 105) (.tmp 106) 22 rfl 9 i9 (.string ⟨#[]⟩) 1 16 Tryd.underlying22 hi9 hz9 hsz9 hb9 rfl Nat.one_pos (some ⟨_, 0, none⟩) 0 0 [] rfl no_none rfl (fun _ _ _ _ h => no_cell h) ⟨g4, o4, none⟩ nx c4 (sC X) rfl HXl.out (HXc.out _ ((Gr.alloc wd _).trans (Gr.drew _))) HX1.out hn1' ?_ ?_ ?_
                   · (unfold maxLen; omega)
                   · omega
                   intro v5 w5 hr5 hgr5
                   obtain ⟨hgw5, hown5, hrow5⟩ := facts107 ((Gr.alloc wd _).trans (Gr.drew _)) hr5 hgr5
                   refine ⟨rfl, ?_⟩)
                | (refine step_of_list (ops' := #[]) rfl rfl ?_
                   refine wpList_append_grows _ rfl (.tmp 105) (.tmp 106) 22 rfl 9 i9 (.string ⟨#[]⟩) 1 16 Tryd.underlying22 hi9 hz9 hsz9 hb9 rfl Nat.one_pos (some ⟨_, 0, none⟩) 0 0 [] rfl no_none rfl (fun _ _ _ _ h => no_cell h) ⟨g4, o4, none⟩ nx c4 (sC X) rfl HXl.out (HXc.out _ (((Gr.alloc wd _).trans (Gr.alloc _ _)).trans (Gr.drew _))) HX1.out hn1' ?_ ?_ ?_
                   · (unfold maxLen; omega)
                   · omega
                   intro v5 w5 hr5 hgr5
                   obtain ⟨hgw5, hown5, hrow5⟩ := facts107 (((Gr.alloc wd _).trans (Gr.alloc _ _)).trans (Gr.drew _)) hr5 hgr5
                   refine ⟨rfl, ?_⟩)
                | (refine step_of_list (ops' := #[]) rfl rfl ?_
                   refine wpList_append_grows _ rfl (.tmp 105) (.tmp 106) 22 rfl 9 i9 (.string ⟨#[]⟩) 1 16 Tryd.underlying22 hi9 hz9 hsz9 hb9 rfl Nat.one_pos (some ⟨_, 0, none⟩) 0 0 [] rfl no_none rfl (fun _ _ _ _ h => no_cell h) ⟨g4, o4, none⟩ nx c4 (sC X) rfl HXl.out (HXc.out _ (((Gr.alloc wd _).trans (Gr.alloc _ _)).trans (Gr.drew _))) HX1.out hn1' ?_ ?_ ?_
                   · (unfold maxLen; omega)
                   · omega
                   intro v5 w5 hr5 hgr5
                   obtain ⟨hgw5, hown5, hrow5⟩ := facts107 (((Gr.alloc wd _).trans (Gr.alloc _ _)).trans (Gr.drew _)) hr5 hgr5
                   refine ⟨rfl, ?_⟩)
                | (refine step_of_list (ops' := #[]) rfl rfl ?_
                   refine wpList_append_Own rfl (.tmp 107) (.tmp 109) 22 rfl 9 i9 (.string ⟨#[]⟩) 1 16 Tryd.underlying22 hi9 hz9 hsz9 hb9 rfl Nat.one_pos rfl (hown5.gr (Gr.alloc _ _)) ⟨_, 0, none⟩ 1 1 [.string R] rfl rfl (one_at (heap_alloc_new w5 _)) ?_ Nat.one_pos ?_ ?_ ?_ ?_
                   · (intro u hu; simp at hu; subst hu; rfl)
                   · (unfold maxLen; omega)
                   · omega
                   · exact (show Gr wd _ from (hgw5.trans (Gr.alloc _ _))).size
                   intro v6 w6 hown6 hchg6 _
                   have hg6 := facts110 (hgw5.trans (Gr.alloc _ _)) (hown5.gr (Gr.alloc _ _)) hchg6
                   refine ⟨rfl, ?_⟩)
                | (refine step_of_list (ops' := #[]) rfl rfl ?_
                   refine wpList_append_Own rfl (.tmp 107) (.tmp 109) 22 rfl 9 i9 (.string ⟨#[]⟩) 1 16 Tryd.underlying22 hi9 hz9 hsz9 hb9 rfl Nat.one_pos rfl hown5 ⟨_, 0, none⟩ 1 1 [.string R] rfl rfl (one_at (hrow5.out _ _ _ (row_new2 _ _ _ _))) ?_ Nat.one_pos ?_ ?_ ?_ ?_
                   · (intro u hu; simp at hu; subst hu; rfl)
                   · (unfold maxLen; omega)
                   · omega
                   · exact (show Gr wd _ from hgw5).size
                   intro v6 w6 hown6 hchg6 _
                   have hg6 := facts110 hgw5 hown5 hchg6
                   refine ⟨rfl, ?_⟩)
                | (refine step_of_list (ops' := #[]) rfl rfl ?_
                   refine wpList_append_Own rfl (.tmp 107) (.tmp 109) 22 rfl 9 i9 (.string ⟨#[]⟩) 1 16 Tryd.underlying22 hi9 hz9 hsz9 hb9 rfl Nat.one_pos rfl hown5 ⟨_, 0, none⟩ 1 1 [.string R] rfl rfl (one_at (hrow5.out _ _ _ (row_old2 _ _ _ _))) ?_ Nat.one_pos ?_ ?_ ?_ ?_
                   · (intro u hu; simp at hu; subst hu; rfl)
                   · (unfold maxLen; omega)
                   · omega
                   · exact (show Gr wd _ from hgw5).size
                   intro v6 w6 hown6 hchg6 _
                   have hg6 := facts110 hgw5 hown5 hchg6
                   refine ⟨rfl, ?_⟩)
                | (go_at_call 21
                   refine (HL.out _ _ (HG4.out.trans hg6) (strs_of hown6)).mono ?_
                   rintro e w7 ⟨rfl, hg7⟩
                   have hg67 := hg6.trans hg7))
            all_goals
              refine hK _ _ (Met.intro (hJ _ _ ?_))
              repeat apply Exists.intro
              refine ⟨?_, rfl⟩
              exact ⟨rfl, ‹Gr wd _›⟩
        obtain ⟨rfl, hg7⟩ := hcut
        obtain ⟨w7, hw7⟩ : ∃ w7, w7 = wc := ⟨_, rfl⟩
        subst hw7
        have HG7 := Lib.hid (HG4.out.trans hg7.out)
        have HX7 := Lib.hid (HX4.out.gr hg7.out)
        have hcx7 := HG7.out.cell HC2.out
        clear hg7 HL HX4 HG4 hcx Hcx
        go_upto_region 17 with fail
        by_cases hn0 : nx = 0
        · subst hn0
          clear HSh HX7 Hnx
          refine region_grow 15 137 (by kernel_rfl) rfl (by kernel_rfl) rfl rfl ?_
          simp only [List.take_succ_cons, List.take_zero, List.drop_succ_cons, List.drop_zero]
          refine seg 14 rfl rfl rfl rfl ?_
          simp only [List.take_succ_cons, List.take_zero, List.drop_succ_cons, List.drop_zero]
          repeat (go_big_quiet_step (fail))
          refine wpQuiet_nil ?_
          intro _
          refine grow_skip rfl rfl rfl rfl ?_
          simp only [Act.put, List.setIfInBounds_toArray, List.set_cons_zero, List.set_cons_succ]
          refine grow_end0 rfl rfl ?_
          intro w8 hG8
          have HG8 : Hid (Gr w w8) := Lib.hid (HG2.out.trans (HG7.out.trans (Gr.trans (Gr.drew w7) hG8)))
          clear hG8
          go_wp2_with fail
          go_ret
          exact ⟨rfl, HG8.out⟩
        · have hn1 : 0 < nx := by omega
          have hn2 : 1 ≤ nx := hn1
          obtain ⟨g4, o4, rfl, hnX, hc41, hc42, hcut⟩ := HX7.out.cut hn1
          have hdr := (hcut 1 hn2).2
          by_cases hc1 : c4 = 1
          · subst hc1
            have hnn : nx = 1 := by omega
            subst hnn
            have hX1 : X.drop 1 = [] := List.drop_eq_nil_of_le (by rw [Hnx.out]; exact Nat.le_refl _)
            have HVx : Hid (∀ w', Gr w7.drew w' → Calls Tryd.prog 21 #[.string R, .int .i64 (m : Int), .int .i64 (j : Int), .string x, .slice (some ⟨g4, o4, none⟩) 0 0] w' fun e w'' => e = .returned (.bool false) ∧ Gr w' w'') := Lib.hid (fun w' hg =>
              HSh.out hn1 _ w' (HG7.out.trans (Gr.trans (Gr.drew w7) hg)) (by rw [hX1]; exact .inr ⟨g4, o4, 0, rfl, Nat.le_refl _, Nat.zero_le _, fun j x h => by simp at h⟩))
            clear HSh HX7 Hnx hcut hdr hX1 hnX
            have hS1 : ∀ n : GrS w7.drew, n.w.cell? ⟨g, off + j, none⟩ = some (.string x) := fun n => n.h.cell (w := w7.drew) hcx7
            clear hcx7
            refine region_grow 15 137 (by kernel_rfl) rfl (by kernel_rfl) rfl rfl ?_
            simp only [List.take_succ_cons, List.take_zero, List.drop_succ_cons, List.drop_zero]
            refine seg 14 rfl rfl rfl rfl ?_
            simp only [List.take_succ_cons, List.take_zero, List.drop_succ_cons, List.drop_zero]
            repeat (go_big_quiet_step (fail))
            refine wpQuiet_nil ?_
            intro _
            refine grow_det (v := .bool false) rfl rfl rfl rfl rfl ?_ ?_
            · intro w1 hG
              go_simp
              refine (HVx.out w1 hG).mono ?_
              rintro e w' ⟨rfl, hb⟩
              exact ⟨rfl, hb⟩
            simp only [Act.put, List.setIfInBounds_toArray, List.set_cons_zero, List.set_cons_succ]
            refine grow_end0 rfl rfl ?_
            intro w8 hG8
            have HG8 : Hid (Gr w w8) := Lib.hid (HG2.out.trans (HG7.out.trans (Gr.trans (Gr.drew w7) hG8)))
            clear hG8 hS1 HVx
            go_wp2_with fail
            go_ret
            exact ⟨rfl, HG8.out⟩
          · have hc1' : 1 < c4 := by omega
            have HVx : Hid (∀ w', Gr w7.drew w' → Calls Tryd.prog 21 #[.string R, .int .i64 (m : Int), .int .i64 (j : Int), .string x, .slice (some ⟨g4, o4 + 1, none⟩) (nx - 1) (c4 - 1)] w' fun e w'' => e = .returned (.bool false) ∧ Gr w' w'') := Lib.hid (fun w' hg =>
              HSh.out hn1 _ w' (HG7.out.trans (Gr.trans (Gr.drew w7) hg)) (hdr.gr (Gr.trans (Gr.drew w7) hg)))
            clear HSh HX7 Hnx hcut hdr hnX
            have hS1 : ∀ n : GrS w7.drew, n.w.cell? ⟨g, off + j, none⟩ = some (.string x) := fun n => n.h.cell (w := w7.drew) hcx7
            clear hcx7
            refine region_grow 15 137 (by kernel_rfl) rfl (by kernel_rfl) rfl rfl ?_
            simp only [List.take_succ_cons, List.take_zero, List.drop_succ_cons, List.drop_zero]
            refine seg 14 rfl rfl rfl rfl ?_
            simp only [List.take_succ_cons, List.take_zero, List.drop_succ_cons, List.drop_zero]
            repeat (go_big_quiet_step (fail))
            refine wpQuiet_nil ?_
            intro _
            refine grow_det (v := .bool false) rfl rfl rfl rfl rfl ?_ ?_
            · intro w1 hG
              go_simp
              refine (HVx.out w1 hG).mono ?_
              rintro e w' ⟨rfl, hb⟩
              exact ⟨rfl, hb⟩
            simp only [Act.put, List.setIfInBounds_toArray, List.set_cons_zero, List.set_cons_succ]
            refine grow_end0 rfl rfl ?_
            intro w8 hG8
            have HG8 : Hid (Gr w w8) := Lib.hid (HG2.out.trans (HG7.out.trans (Gr.trans (Gr.drew w7) hG8)))
            clear hG8 hS1 HVx
            go_wp2_with fail
            go_ret
            exact ⟨rfl, HG8.out⟩
end Go.Proofs.YtbkhkpcnclhoiaaDoor
