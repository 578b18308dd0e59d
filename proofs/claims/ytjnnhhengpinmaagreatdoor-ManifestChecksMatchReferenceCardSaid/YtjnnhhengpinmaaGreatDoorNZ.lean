/- The contract of the reference tree's Proof. -/
import Derived.Test.YtjnnhhengpinmaaGreatDoorProof
import Derived.Test.YtjnnhhengpinmaaGreatDoorNG
import Derived.Test.YtjnnhhengpinmaaGreatDoorNA
import Derived.Test.YtjnnhhengpinmaaGreatDoorNO
import Derived.Test.YtjnnhhengpinmaaGreatDoorNN
import Derived.Test.YtjnnhhengpinmaaGreatDoorNI
import Derived.Test.YtjnnhhengpinmaaGreatDoorRefR
namespace Go.Proofs.YtjnnhhengpinmaaGreatDoor
section
open Go.RowKit Go.Shelf
attribute [local go_sem] gAt gUpon
attribute [local simp] Gr.refl Gr.alloc

def OwnZ (B : Nat) (u : Value) (x : List ByteArray) (w : World) : Prop := Own B 1 u x.length (sC x) w
theorem OwnZ.gr {B : Nat} {u : Value} {x : List ByteArray} {w w' : World} (h : OwnZ B u x w) (hg : Gr w w') : OwnZ B u x w' := Own.gr h hg
theorem OwnZ.push {B : Nat} {u : Value} {x : List ByteArray} {y : ByteArray} {w : World} (h : Own B 1 u (x.length + 1) (sC x ++ [.string y]) w) : OwnZ B u (x ++ [y]) w := by
  unfold OwnZ
  rw [show sC x ++ [.string y] = sC (x ++ [y]) by simp [sC]] at h
  rw [List.length_append, List.length_singleton]; exact h

set_option maxRecDepth 100000 in
set_option maxHeartbeats 1000000 in
theorem proofR_aux : ∀ (N : Nat) (v : Value) (l : List ByteArray) (i : Nat) (w : World), l.length ≤ N → i < l.length → l.length ≤ 100000 → StrsAt v l w → (∀ x ∈ l, x.size ≤ 140737488353000) →
    Calls Tryz.prog 65 #[v, .int .i64 (i : Int)] w fun e w' => ∃ u, e = .returned (.tuple #[u, .int .i64 0]) ∧ OwnZ w.heap.size u (proofD l i) w' ∧ Gr w w' := by
  obtain ⟨i9, hi9, hz9, hsz9, hb9⟩ := info_parts info9
  intro N
  induction N with
  | zero => intro v l i w hN hi; omega
  | succ N ih =>
    intro v l i w hN hi hb hv hs
    have ht2 : decide (l.length ≤ i) = false := decide_eq_false (by omega)
    rcases hv with ⟨_, rfl⟩ | ⟨g, o, c, rfl, hc1, hc2, hcell⟩
    · cases hi
    by_cases h1 : l.length = 1
    · have HP := Lib.hid (proofD_one l i (by omega))
      have ht1 : ((l.length : Int) == 1) = true := by rw [beq_iff_eq]; omega
      have HO : Hid (OwnZ w.heap.size (.slice none 0 0) (proofD l i) w) := Lib.hid (by rw [HP.out]; exact Own.nil _ _ _)
      clear hcell ih h1 hN hs HP
      go_enter Tryz.func65, Tryz.ntmps65
      go_wp2_with fail
      go_ret2
      exact ⟨_, rfl, HO.out, Gr.refl _⟩
    · have hls := lp_spec l.length (by omega)
      have hlp := hls.1
      have hlp0 := lp_pos l.length
      have hcut := StrsAt.cut (p := some ⟨g, o, none⟩) (cap := c) (l := l) (w := w) (.inr ⟨g, o, c, rfl, hc1, hc2, hcell⟩) (by omega)
      obtain ⟨g', o', e', -, -, -, hcut⟩ := hcut
      injection e' with e'
      injection e' with e1 e2
      subst e1 e2
      have HCut := Lib.hid (hcut (lp l.length) (by omega))
      have HLf := Lib.hid (fun w => refLeft_any l.length (by omega) (by omega) w)
      have ht1 : ((l.length : Int) == 1) = false := by rw [beq_eq_false_iff_ne]; omega
      have hps := proofD_split l i (by omega)
      have hshort := proof_short 17 l i (by omega)
      by_cases hlt : i < lp l.length
      · rw [if_pos hlt] at hps
        have HPS := Lib.hid hps
        have HA1 := Lib.hid (ih _ (l.take (lp l.length)) i w (by rw [List.length_take]; omega) (by rw [List.length_take]; omega) (by rw [List.length_take]; omega) HCut.out.1 (fun x hx => hs x (List.mem_of_mem_take hx)))
        have HA2 : Hid (∀ w', Gr w w' → Calls Tryz.prog 57 #[.slice (some ⟨g, o + lp l.length, none⟩) (l.length - lp l.length) (c - lp l.length)] w' fun e w'' => e = .returned (.string (rootD (l.drop (lp l.length)))) ∧ Gr w' w'') := Lib.hid (fun w' hg =>
          rootR_any _ (l.drop (lp l.length)) w' (HCut.out.2.gr hg) (by rw [List.length_drop]; omega) (fun x hx => hs x (List.mem_of_mem_drop hx)))
        have hln : (proofD (l.take (lp l.length)) i).length ≤ 17 := by rw [hps, List.length_append, List.length_singleton] at hshort; omega
        clear hcut HCut hcell ih hs hls hN hps hshort
        generalize proofD l i = Pl at *
        generalize proofD (l.take (lp l.length)) i = X at *
        generalize rootD (l.drop (lp l.length)) = RB at *
        have hltd : decide (i < lp l.length) = true := decide_eq_true hlt
        have hltk : i < l.length := hi
        generalize lp l.length = K at *
        generalize l.length = n at *
        clear h1 hi
        go_enter Tryz.func65, Tryz.ntmps65
        go_wp2_with fail
        refine (HLf.out _).mono ?_
        rintro e w1 ⟨rfl, rfl⟩
        go_wp2_with fail
        refine HA1.out.mono ?_
        rintro e w2 ⟨u, rfl, hO, hg2⟩
        have HO2 := Lib.hid hO
        have HG2 := Lib.hid hg2
        clear hO hg2 HA1 HLf
        go_wp2_with fail
        refine (HA2.out _ HG2.out).mono ?_
        rintro e w3 ⟨rfl, hg3⟩
        have HO3 := Lib.hid (HO2.out.gr hg3)
        have HG3 := Lib.hid (HG2.out.trans hg3)
        clear hg3 HA2 HO2 HG2
        go_wp2_with ((with_reducible show wpList _ _ _ (⟨some 42, _, _, _, _, _⟩ :: _) _ _); refine wpList_append_Own rfl (.tmp 36) (.tmp 41) 25 rfl 9 i9 (.string ⟨#[]⟩) 1 16 Tryz.underlying25 hi9 hz9 hsz9 hb9 rfl (by decide) rfl (HO3.out.gr (Gr.alloc _ _)) ⟨w3.heap.size, 0, none⟩ 1 1 [.string RB] rfl rfl ?hnewsA ?h1cA (by decide) ?b1A ?b2A ?hBA ?_)
        case hnewsA => exact row_new _ _ _ rfl
        case h1cA => intro u hu; simp at hu; subst hu; rfl
        case b1A => unfold maxLen; omega
        case b2A => omega
        case hBA => have := HG3.out.size; simp; omega
        intro v4 w4 hown4 hchg4 _
        have HG4 : Hid (Gr w w4) := Lib.hid (gr_step HG3.out (Gr.alloc w3 _) hchg4 (fun g hg => Own.ge HO3.out hg))
        have HO4 : Hid (OwnZ w.heap.size v4 Pl w4) := Lib.hid (by rw [HPS.out]; exact OwnZ.push hown4)
        clear hown4 hchg4 HO3 HG3
        go_wp2_with fail
        go_ret2
        exact ⟨_, rfl, HO4.out, HG4.out⟩
      · rw [if_neg hlt] at hps
        have HPS := Lib.hid hps
        have HA1 := Lib.hid (ih _ (l.drop (lp l.length)) (i - lp l.length) w (by rw [List.length_drop]; omega) (by rw [List.length_drop]; omega) (by rw [List.length_drop]; omega) HCut.out.2 (fun x hx => hs x (List.mem_of_mem_drop hx)))
        rw [show ((i - lp l.length : Nat) : Int) = (i : Int) - (lp l.length : Int) by omega] at HA1
        have HA2 : Hid (∀ w', Gr w w' → Calls Tryz.prog 57 #[.slice (some ⟨g, o, none⟩) (lp l.length) c] w' fun e w'' => e = .returned (.string (rootD (l.take (lp l.length)))) ∧ Gr w' w'') := Lib.hid (fun w' hg => by
          have h := rootR_any _ (l.take (lp l.length)) w' (HCut.out.1.gr hg) (by rw [List.length_take]; omega) (fun x hx => hs x (List.mem_of_mem_take hx))
          exact h)
        have hln : (proofD (l.drop (lp l.length)) (i - lp l.length)).length ≤ 17 := by rw [hps, List.length_append, List.length_singleton] at hshort; omega
        clear hcut HCut hcell ih hs hls hN hps hshort
        generalize proofD l i = Pl at *
        generalize proofD (l.drop (lp l.length)) (i - lp l.length) = X at *
        generalize rootD (l.take (lp l.length)) = RB at *
        have hltd : decide (i < lp l.length) = false := decide_eq_false hlt
        have hltk : i < l.length := hi
        generalize lp l.length = K at *
        generalize l.length = n at *
        clear h1 hi
        go_enter Tryz.func65, Tryz.ntmps65
        go_wp2_with fail
        refine (HLf.out _).mono ?_
        rintro e w1 ⟨rfl, rfl⟩
        go_wp2_with fail
        refine HA1.out.mono ?_
        rintro e w2 ⟨u, rfl, hO, hg2⟩
        have HO2 := Lib.hid hO
        have HG2 := Lib.hid hg2
        clear hO hg2 HA1 HLf
        go_wp2_with fail
        refine (HA2.out _ HG2.out).mono ?_
        rintro e w3 ⟨rfl, hg3⟩
        have HO3 := Lib.hid (HO2.out.gr hg3)
        have HG3 := Lib.hid (HG2.out.trans hg3)
        clear hg3 HA2 HO2 HG2
        go_wp2_with ((with_reducible show wpList _ _ _ (⟨some 59, _, _, _, _, _⟩ :: _) _ _); refine wpList_append_Own rfl (.tmp 53) (.tmp 58) 25 rfl 9 i9 (.string ⟨#[]⟩) 1 16 Tryz.underlying25 hi9 hz9 hsz9 hb9 rfl (by decide) rfl (HO3.out.gr (Gr.alloc _ _)) ⟨w3.heap.size, 0, none⟩ 1 1 [.string RB] rfl rfl ?hnewsB ?h1cB (by decide) ?b1B ?b2B ?hBB ?_)
        case hnewsB => exact row_new _ _ _ rfl
        case h1cB => intro u hu; simp at hu; subst hu; rfl
        case b1B => unfold maxLen; omega
        case b2B => omega
        case hBB => have := HG3.out.size; simp; omega
        intro v4 w4 hown4 hchg4 _
        have HG4 : Hid (Gr w w4) := Lib.hid (gr_step HG3.out (Gr.alloc w3 _) hchg4 (fun g hg => Own.ge HO3.out hg))
        have HO4 : Hid (OwnZ w.heap.size v4 Pl w4) := Lib.hid (by rw [HPS.out]; exact OwnZ.push hown4)
        clear hown4 hchg4 HO3 HG3
        go_wp2_with fail
        go_ret2
        exact ⟨_, rfl, HO4.out, HG4.out⟩

theorem proofR_any (v : Value) (l : List ByteArray) (i : Int) (w : World) (hv : StrsAt v l w) (hl : l.length ≤ 100000) (hs : ∀ x ∈ l, x.size ≤ 140737488353000) :
    Calls Tryz.prog 65 #[v, .int .i64 i] w fun e w' => ∃ u, e = .returned (.tuple #[u, .int .i64 (if i < 0 ∨ (l.length : Int) ≤ i then 2 else 0)]) ∧
      OwnZ w.heap.size u (if i < 0 ∨ (l.length : Int) ≤ i then [] else proofD l i.toNat) w' ∧ Gr w w' := by
  by_cases h : i < 0 ∨ (l.length : Int) ≤ i
  · rw [if_pos h, if_pos h]
    obtain ⟨p, cap, rfl⟩ := hv.shape
    clear hv
    by_cases h0 : i < 0
    · have ht : decide (i < 0) = true := decide_eq_true h0
      clear h
      go_enter Tryz.func65, Tryz.ntmps65
      go_wp2_with fail
      go_ret2
      exact ⟨_, rfl, Own.nil _ _ _, Gr.refl _⟩
    · have ht : decide (i < 0) = false := decide_eq_false h0
      have ht2 : decide ((l.length : Int) ≤ i) = true := decide_eq_true (by omega)
      clear h
      go_enter Tryz.func65, Tryz.ntmps65
      go_wp2_with fail
      go_ret2
      exact ⟨_, rfl, Own.nil _ _ _, Gr.refl _⟩
  · rw [if_neg h, if_neg h]
    obtain ⟨j, rfl⟩ := Int.eq_ofNat_of_zero_le (show 0 ≤ i by omega)
    exact proofR_aux _ v l j w (Nat.le_refl _) (by omega) hl hv hs
end
section
open Go Go.RowKit Go.Shelf
attribute [local go_sem] gAt gUpon pUpon
attribute [local simp] Gr.refl Gr.alloc

set_option maxRecDepth 100000 in
set_option maxHeartbeats 4000000 in
theorem proveR_any (id ver : Int) (v : Value) (l : List En) (path : ByteArray) (w : World) (hv : Rws 4 enC v l w) (hl : l.length ≤ 9223372036854775806) (hp : ∀ x ∈ l, x.path.size ≤ 9223372036854775807) :
    Calls Tryz.prog 33 #[.agg #[.int .i64 id, .int .i64 ver, v], .string path] w (PvRes w l (prI id ver l path)) := by
  obtain ⟨pv, cv, rfl⟩ := hv.shape
  have HV := Lib.hid hv
  have HVa := Lib.hid (fun y (hg : Gr w y) => validR_any id ver _ l y (hv.gr hg) hl hp)
  obtain ⟨B, hB⟩ : ∃ B, validD id ver l = B := ⟨_, rfl⟩
  have HB := Lib.hid hB
  obtain ⟨RR, hRR⟩ : ∃ R, prI id ver l path = R := ⟨_, rfl⟩
  have HRR : Hid (RR = if B then idxP l path else none) := Lib.hid (by rw [← hRR]; unfold prI; rw [hB])
  rw [hRR]
  rw [hB] at HVa
  clear hv hp hB hRR
  obtain ⟨bp, hbp⟩ : ∃ b, w.heap.size = b := ⟨_, rfl⟩
  have h1 := heap_alloc_new w (.cells #[.int .i64 id, .int .i64 ver, .slice pv l.length cv] 24)
  have h2 := heap_alloc_new (w.alloc (.cells #[.int .i64 id, .int .i64 ver, .slice pv l.length cv] 24)) (.cells #[.string ⟨#[]⟩, .int .i64 0, .int .i64 0, .string ⟨#[]⟩] 28)
  rw [World.size_alloc] at h2
  rw [hbp] at h1 h2
  have h3 := (Gr.alloc (w.alloc (.cells #[.int .i64 id, .int .i64 ver, .slice pv l.length cv] 24)) (.cells #[.string ⟨#[]⟩, .int .i64 0, .int .i64 0, .string ⟨#[]⟩] 28)).block h1
  have hg0 := (Gr.alloc w (.cells #[.int .i64 id, .int .i64 ver, .slice pv l.length cv] 24)).trans (Gr.alloc _ (.cells #[.string ⟨#[]⟩, .int .i64 0, .int .i64 0, .string ⟨#[]⟩] 28))
  go_enter Tryz.func33, Tryz.ntmps33
  go_upto_region 1 with fail
  obtain ⟨bR, hbR⟩ : ∃ z, bp + 1 = z := ⟨_, rfl⟩
  rw [hbR] at h2
  simp only [hbR]
  have HA0 := Lib.hid h3
  have HR0 := Lib.hid h2
  have HG0 := Lib.hid hg0
  have Hbp : Hid (w.heap.size = bp ∧ bR = bp + 1) := Lib.hid ⟨hbp, hbR.symm⟩
  clear h1 h2 h3 hg0 hbR hbp
  generalize (w.alloc (.cells #[.int .i64 id, .int .i64 ver, .slice pv l.length cv] 24)).alloc (.cells #[.string ⟨#[]⟩, .int .i64 0, .int .i64 0, .string ⟨#[]⟩] 28) = w0 at *
  obtain ⟨k0, k1, k2⟩ := row3 HA0.out
  go_wp2_with fail
  clear k0 k1 k2
  refine (HVa.out w0 HG0.out).mono ?_
  rintro e wb ⟨rfl, hgb⟩
  have HGb := Lib.hid (HG0.out.trans hgb)
  have HAb := Lib.hid (hgb.block HA0.out)
  have HRb := Lib.hid (hgb.block HR0.out)
  clear hgb HG0 HA0 HR0 HVa
  cases B with
  | false =>
    obtain rfl : RR = none := HRR.out
    obtain ⟨k0, k1, k2⟩ := row3 HAb.out
    go_wp2_with fail
    clear k0 k1 k2
    go_loopw [9] (fun v9 W => v9 = .int .i64 0 ∧ W = wb) (fun _ _ => 0)
    case atStart => exact ⟨rfl, rfl⟩
    case round =>
      obtain ⟨rfl, rfl⟩ := hrel
      by_cases hl0 : 0 < l.length
      · have t1 : decide (0 < l.length) = true := decide_eq_true hl0
        have t1' : decide ((0 : Int) < (l.length : Int)) = true := decide_eq_true (by omega)
        obtain ⟨k0, k1, k2⟩ := row3 HAb.out
        obtain ⟨r0, r1, r2, r3⟩ := row4 HRb.out
        obtain ⟨f0, f1, f2, f3⟩ := frozen4 HRb.out
        go_wp2_with fail
        have hch : Chg (some bR) wr ((((wr.setCell ⟨bR, 0, none⟩ (.string ⟨#[]⟩)).setCell ⟨bR, 1, none⟩ (.int .i64 0)).setCell ⟨bR, 2, none⟩ (.int .i64 0)).setCell ⟨bR, 3, none⟩ (.string ⟨#[]⟩)) := setCells_chg bR [.string ⟨#[]⟩, .int .i64 0, .int .i64 0, .string ⟨#[]⟩] 0 wr
        have hrow := row_set4 (a' := .string ⟨#[]⟩) (b' := .int .i64 0) (c' := .int .i64 0) (d' := .string ⟨#[]⟩) HRb.out
        have hGx := gr_step HGb.out (Gr.refl _) hch (fun g e => by cases e; have := Hbp.out; omega)
        obtain ⟨m0, m1, m2, m3⟩ := row4 hrow
        refine bodyPost_ret (v := .tuple #[.agg #[.string ⟨#[]⟩, .int .i64 0, .int .i64 0, .string ⟨#[]⟩], .int .i64 0, .slice none 0 0, .int .i64 140]) ?_ rfl ⟨_, rfl, Own.nil _ _ _, hGx⟩
        simp [results, Tryz.results33, go_sem, m0, m1, m2, m3]
      · have t1 : decide (0 < l.length) = false := decide_eq_false hl0
        have t1' : decide ((0 : Int) < (l.length : Int)) = false := decide_eq_false (by omega)
        obtain ⟨k0, k1, k2⟩ := row3 HAb.out
        obtain ⟨r0, r1, r2, r3⟩ := row4 HRb.out
        obtain ⟨f0, f1, f2, f3⟩ := frozen4 HRb.out
        go_wp2_with fail
        have hch : Chg (some bR) wr ((((wr.setCell ⟨bR, 0, none⟩ (.string ⟨#[]⟩)).setCell ⟨bR, 1, none⟩ (.int .i64 0)).setCell ⟨bR, 2, none⟩ (.int .i64 0)).setCell ⟨bR, 3, none⟩ (.string ⟨#[]⟩)) := setCells_chg bR [.string ⟨#[]⟩, .int .i64 0, .int .i64 0, .string ⟨#[]⟩] 0 wr
        have hrow := row_set4 (a' := .string ⟨#[]⟩) (b' := .int .i64 0) (c' := .int .i64 0) (d' := .string ⟨#[]⟩) HRb.out
        have hGx := gr_step HGb.out (Gr.refl _) hch (fun g e => by cases e; have := Hbp.out; omega)
        obtain ⟨m0, m1, m2, m3⟩ := row4 hrow
        refine bodyPost_ret (v := .tuple #[.agg #[.string ⟨#[]⟩, .int .i64 0, .int .i64 0, .string ⟨#[]⟩], .int .i64 0, .slice none 0 0, .int .i64 140]) ?_ rfl ⟨_, rfl, Own.nil _ _ _, hGx⟩
        simp [results, Tryz.results33, go_sem, m0, m1, m2, m3]
  | true =>
  have HRR2 : Hid (RR = idxP l path) := Lib.hid HRR.out
  clear HRR
  obtain ⟨k0, k1, k2⟩ := row3 HAb.out
  go_wp2_with fail
  clear k0 k1 k2
  go_loopw [9, 10, 11, 12] (fun v9 _ _ _ W => ∃ i : Nat, i ≤ l.length ∧ v9 = .int .i64 (i : Int) ∧ W = wb ∧ Hid (∀ (j : Nat) (y : En), j < i → l[j]? = some y → y.path ≠ path)) (fun v9 _ _ _ _ => l.length - (intOf v9).toNat)
  case atStart => exact ⟨0, by omega, rfl, rfl, Lib.hid (fun j y h => absurd h (Nat.not_lt_zero _))⟩
  case round =>
    obtain ⟨i, hil, rfl, rfl, HNo⟩ := hrel
    by_cases hi : i < l.length
    · have t1 : decide (i < l.length) = true := decide_eq_true hi
      have t1' : decide ((i : Int) < (l.length : Int)) = true := decide_eq_true (by omega)
      obtain ⟨x, hx⟩ : ∃ x, l[i]? = some x := ⟨_, List.getElem?_eq_getElem hi⟩
      obtain ⟨ge, oe, rfl, hce⟩ := (HV.out.gr HGb.out).at2 rfl hx
      have e0 : wr.cell? ⟨ge, oe + i * 4, none⟩ = some (.string x.path) := hce 0 _ rfl
      have i0 : (0 : Int) ≤ (i : Int) := by omega
      have i1 : (i : Int) < (l.length : Int) := by omega
      obtain ⟨a0, a1, a2⟩ := row3 HAb.out
      clear hce
      by_cases hxp : x.path = path
      · have t2 : (x.path.toList == path.toList) = true := by rw [beq_str]; exact decide_eq_true hxp
        have HO : Hid (RR = some i) := Lib.hid (by rw [HRR2.out]; exact idx_yes hx hxp HNo.out)
        obtain rfl : RR = some i := HO.out
        have HX0 := Lib.hid hx
        clear hxp hx HRR2 HNo HO a0 a1 a2
        have hx := HX0.out
        obtain ⟨hH, hlen, -, hLo, -⟩ := valid_head HB.out
        have hxp : True := trivial
        have HLn := Lib.hid (linesR_any id ver _ l wr (HV.out.gr HGb.out) (by omega) hLo)
        obtain ⟨M, hM⟩ : ∃ M, l.map lineD = M := ⟨_, rfl⟩
        have hMl : M.length = l.length := by rw [← hM, List.length_map]
        have hMs : ∀ y ∈ M, y.size ≤ 140737488353000 := fun y hy => by
          rw [← hM] at hy
          obtain ⟨z, hz, rfl⟩ := List.mem_map.1 hy
          exact Nat.le_trans (lineD_size (hLo z hz)) (by decide)
        have hPR : prP l (some i) = rootD M :: proofD M i := by unfold prP; rw [hM]
        rw [hM] at HLn
        have HMs := Lib.hid hMs
        have HPR := Lib.hid hPR
        clear hM hMs hPR hLo hH
        obtain ⟨a0, a1, a2⟩ := row3 HAb.out
        go_wp2_with fail
        refine HLn.out.mono ?_
        rintro e wc ⟨u, rfl, hou, hgc⟩
        have HGc := Lib.hid (HGb.out.trans hgc)
        have HAc := Lib.hid (hgc.block HAb.out)
        have HRc := Lib.hid (hgc.block HRb.out)
        have HOu := Lib.hid hou
        obtain ⟨pu, cu, rfl⟩ := hou.strs.shape
        have HPf := Lib.hid (proofR_aux M.length _ M i wc (Nat.le_refl _) (by omega) (by omega) HOu.out.strs HMs.out)
        have HRt := Lib.hid (fun y (hg : Gr wc y) => rootR_any _ M y (HOu.out.strs.gr hg) (by omega) HMs.out)
        obtain ⟨PP, hPP⟩ : ∃ P, proofD M i = P := ⟨_, rfl⟩
        rw [hPP] at HPf
        have HPR : Hid (prP l (some i) = rootD M :: PP) := Lib.hid (by rw [← hPP]; exact HPR.out)
        have HPl : Hid (PP.length ≤ 6) := Lib.hid (by rw [← hPP]; exact proof_short 6 M i (by rw [hMl]; exact hlen))
        clear hPP
        have HMl := Lib.hid hMl
        clear hou hgc HGb HAb HRb HLn a0 a1 a2 hMl
        go_wp2_with fail
        refine HPf.out.mono ?_
        rintro e wd ⟨q, rfl, hoq, hgd⟩
        have HGd := Lib.hid (HGc.out.trans hgd)
        have HAd := Lib.hid (hgd.block HAc.out)
        have HRd := Lib.hid (hgd.block HRc.out)
        have HOq := Lib.hid hoq
        have HRt := Lib.hid (fun y (hg : Gr wd y) => HRt.out y (hgd.trans hg))
        obtain ⟨pq, cq, rfl⟩ : ∃ p c, q = .slice p PP.length c := by
          rcases hoq.2 with ⟨h1, h2⟩ | ⟨g, off, cap, h1, _⟩
          · exact ⟨none, 0, by rw [h1, h2]⟩
          · exact ⟨_, cap, h1⟩
        clear hgd hoq HGc HAc HRc HPf
        obtain ⟨g, off, heq, hlc, hcy⟩ := (HV.out.gr HGd.out).at_ hx
        obtain ⟨eg, eo⟩ : g = ge ∧ off = oe := by
          injection heq with h; injection h with h1 h2; exact ⟨h1.symm, h2.symm⟩
        subst eg eo
        clear heq
        have y0 := hcy 0 _ rfl
        have y1 := hcy 1 _ rfl
        have y2 := hcy 2 _ rfl
        have y3 := hcy 3 _ rfl
        rw [Nat.add_zero] at y0
        rw [← Nat.add_assoc] at y1 y2 y3
        have i0 : (0 : Int) ≤ (i : Int) := by omega
        have i1 : (i : Int) < (l.length : Int) := by omega
        have HX := Lib.hid hx
        have HXp := Lib.hid hxp
        have HGz := Lib.hid (Gr.drew wd)
        have hS0 : (fun y : World => y.cell? ⟨bp, 2, none⟩ = some (.slice (some ⟨g, off, none⟩) l.length cv) ∧ y.cell? ⟨g, off + i * 4, none⟩ = some (.string x.path) ∧ y.cell? ⟨g, off + i * 4 + 1, none⟩ = some (.int .i64 x.fmt) ∧ y.cell? ⟨g, off + i * 4 + 2, none⟩ = some (.int .i64 x.len) ∧ y.cell? ⟨g, off + i * 4 + 3, none⟩ = some (.string x.dig)) wd.drew := ⟨(row3 HAd.out).2.2, y0, y1, y2, y3⟩
        have HAz := Lib.hid (HGz.out.block HAd.out)
        have HRz := Lib.hid (HGz.out.block HRd.out)
        have HOz := Lib.hid (HOq.out.gr HGz.out)
        have HGw := Lib.hid (HGd.out.trans HGz.out)
        have hgb : g < bp := by
          have := World.block_lt_of_cell? wd _ y0
          obtain ⟨g', off', he, _, hcy'⟩ := HV.out.at_ hx
          injection he with e1; injection e1 with e1 e2
          subst e1
          have := World.block_lt_of_cell? w _ (hcy' 0 _ rfl)
          have := Hbp.out.1; simp at *; omega
        clear hcy y0 y1 y2 y3 hx hxp HAd HRd HOq HGd
        go_upto_region 8 with fail
        refine u_begin (fun y : World => y.cell? ⟨bp, 2, none⟩ = some (.slice (some ⟨g, off, none⟩) l.length cv) ∧ y.cell? ⟨g, off + i * 4, none⟩ = some (.string x.path) ∧ y.cell? ⟨g, off + i * 4 + 1, none⟩ = some (.int .i64 x.fmt) ∧ y.cell? ⟨g, off + i * 4 + 2, none⟩ = some (.int .i64 x.len) ∧ y.cell? ⟨g, off + i * 4 + 3, none⟩ = some (.string x.dig)) (fun _ => false) (by kernel_rfl) (by assumption) (fun hHeld => ?_)
        have HRt := Lib.hid (HRt.out _ HGz.out)
        clear HGz
        generalize wd.drew = wz at *
        refine u_take 0 (v := ?_) rfl rfl (by kernel_rfl) (by kernel_rfl) (by kernel_rfl) (by kernel_rfl) (fun _ _ _ h => h) (by rfl) (by assumption) ?_ ?_
        rotate_left
        · (intro w hSw; (try dsimp only at hSw); go_simp; try with_reducible rfl)
        try simp only [Act.put, List.setIfInBounds_toArray, List.set_cons_zero, List.set_cons_succ]
        refine u_take 1 (v := ?_) rfl rfl (by kernel_rfl) (by kernel_rfl) (by kernel_rfl) (by kernel_rfl) (fun _ _ _ h => h) (by rfl) (by assumption) ?_ ?_
        rotate_left
        · (intro w hSw; (try dsimp only at hSw); go_simp; try with_reducible rfl)
        try simp only [Act.put, List.setIfInBounds_toArray, List.set_cons_zero, List.set_cons_succ]
        refine u_take 2 (v := ?_) rfl rfl (by kernel_rfl) (by kernel_rfl) (by kernel_rfl) (by kernel_rfl) (fun _ _ _ h => h) (by rfl) (by assumption) ?_ ?_
        rotate_left
        · (intro w hSw; (try dsimp only at hSw); go_simp; try with_reducible rfl)
        try simp only [Act.put, List.setIfInBounds_toArray, List.set_cons_zero, List.set_cons_succ]
        refine u_take 3 (v := ?_) rfl rfl (by kernel_rfl) (by kernel_rfl) (by kernel_rfl) (by kernel_rfl) (fun _ _ _ h => h) (by rfl) (by assumption) ?_ ?_
        rotate_left
        · (intro w hSw; (try dsimp only at hSw); go_simp; try with_reducible rfl)
        try simp only [Act.put, List.setIfInBounds_toArray, List.set_cons_zero, List.set_cons_succ]
        refine u_take 4 (v := ?_) rfl rfl (by kernel_rfl) (by kernel_rfl) (by kernel_rfl) (by kernel_rfl) (fun _ _ _ h => h) (by rfl) (by assumption) ?_ ?_
        rotate_left
        · (intro w hSw; (try dsimp only at hSw); go_simp; try with_reducible rfl)
        try simp only [Act.put, List.setIfInBounds_toArray, List.set_cons_zero, List.set_cons_succ]
        refine u_take 5 (v := ?_) rfl rfl (by kernel_rfl) (by kernel_rfl) (by kernel_rfl) (by kernel_rfl) (fun _ _ _ h => h) (by rfl) (by assumption) ?_ ?_
        rotate_left
        · (intro w hSw; (try dsimp only at hSw); go_simp; try with_reducible rfl)
        try simp only [Act.put, List.setIfInBounds_toArray, List.set_cons_zero, List.set_cons_succ]
        refine u_take 6 (v := ?_) rfl rfl (by kernel_rfl) (by kernel_rfl) (by kernel_rfl) (by kernel_rfl) (fun _ _ _ h => h) (by rfl) (by assumption) ?_ ?_
        rotate_left
        · (intro w hSw; (try dsimp only at hSw); go_simp; try with_reducible rfl)
        try simp only [Act.put, List.setIfInBounds_toArray, List.set_cons_zero, List.set_cons_succ]
        refine u_take 9 (v := ?_) rfl rfl (by kernel_rfl) (by kernel_rfl) (by kernel_rfl) (by kernel_rfl) (fun _ _ _ h => h) (by rfl) (by assumption) ?_ ?_
        rotate_left
        · (intro w hSw; (try dsimp only at hSw); go_simp; try with_reducible rfl)
        try simp only [Act.put, List.setIfInBounds_toArray, List.set_cons_zero, List.set_cons_succ]
        refine u_step 7 (by kernel_rfl) rfl (by rfl) ?_
        go_simp
        refine HRt.out.mono ?_
        rintro e wy ⟨rfl, hgy⟩
        have HGy := Lib.hid (HGw.out.trans hgy)
        have HAy := Lib.hid (hgy.block HAz.out)
        have HRy := Lib.hid (hgy.block HRz.out)
        have HOy := Lib.hid (HOz.out.gr hgy)
        have hSy : (fun y : World => y.cell? ⟨bp, 2, none⟩ = some (.slice (some ⟨g, off, none⟩) l.length cv) ∧ y.cell? ⟨g, off + i * 4, none⟩ = some (.string x.path) ∧ y.cell? ⟨g, off + i * 4 + 1, none⟩ = some (.int .i64 x.fmt) ∧ y.cell? ⟨g, off + i * 4 + 2, none⟩ = some (.int .i64 x.len) ∧ y.cell? ⟨g, off + i * 4 + 3, none⟩ = some (.string x.dig)) wy :=
          ⟨hgy.cell hS0.1, hgy.cell hS0.2.1, hgy.cell hS0.2.2.1, hgy.cell hS0.2.2.2.1, hgy.cell hS0.2.2.2.2⟩
        clear hgy HGw HAz HRz HOz hS0 HRt hHeld
        refine .inl ⟨_, rfl, hSy, ?_⟩
        refine u_step 8 (by kernel_rfl) rfl (by rfl) ?_
        go_simp
        have HGe := Lib.hid (Gr.alloc wy (.cells #[.string (rootD M)] 9))
        have HNw : Hid (OwnL wy.heap.size [rootD M] (.slice (some ⟨wy.heap.size, 0, none⟩) 1 1) (wy.alloc (.cells #[.string (rootD M)] 9))) := Lib.hid (strs_new wy [rootD M] (by rw [List.length_singleton]; unfold maxLen; omega))
        have HAe := Lib.hid (HGe.out.block HAy.out)
        have HRe := Lib.hid (HGe.out.block HRy.out)
        have HOe := Lib.hid (HOy.out.gr HGe.out)
        have HGf := Lib.hid (HGy.out.trans HGe.out)
        have hSe : (fun y : World => y.cell? ⟨bp, 2, none⟩ = some (.slice (some ⟨g, off, none⟩) l.length cv) ∧ y.cell? ⟨g, off + i * 4, none⟩ = some (.string x.path) ∧ y.cell? ⟨g, off + i * 4 + 1, none⟩ = some (.int .i64 x.fmt) ∧ y.cell? ⟨g, off + i * 4 + 2, none⟩ = some (.int .i64 x.len) ∧ y.cell? ⟨g, off + i * 4 + 3, none⟩ = some (.string x.dig)) (wy.alloc (.cells #[.string (rootD M)] 9)) :=
          ⟨HGe.out.cell hSy.1, HGe.out.cell hSy.2.1, HGe.out.cell hSy.2.2.1, HGe.out.cell hSy.2.2.2.1, HGe.out.cell hSy.2.2.2.2⟩
        have hbn : bR < wy.heap.size := (Array.getElem?_eq_some_iff.1 HRy.out).1
        have HBn := Lib.hid HGy.out.size
        have Hbn := Lib.hid hbn
        have HSn : Hid (wy.heap.size ≤ (wy.alloc (.cells #[.string (rootD M)] 9)).heap.size) := Lib.hid HGe.out.size
        refine ⟨hSe, ?_⟩
        clear hSy HAy HRy HOy HGy HGe
        generalize wy.alloc (.cells #[.string (rootD M)] 9) = wf at *
        generalize wy.heap.size = bn at *
        refine u_one 10 (by kernel_rfl) rfl ?_
        refine append_strs rfl (.tmp 49) (.tmp 50) rfl (B := bn) (v := .slice (some ⟨bn, 0, none⟩) 1 1) (u := .slice pq PP.length cq) (L := [rootD M]) (M := PP) rfl HNw.out rfl HOe.out.strs.2 ?b1 ?b2 ?_
        case b1 => have := HPl.out; rw [List.length_singleton]; omega
        case b2 => exact HSn.out
        intro v9 w9 hown hchg
        have hb3 : bR = bp + 1 := Hbp.out.2
        have hS9 : (fun y : World => y.cell? ⟨bp, 2, none⟩ = some (.slice (some ⟨g, off, none⟩) l.length cv) ∧ y.cell? ⟨g, off + i * 4, none⟩ = some (.string x.path) ∧ y.cell? ⟨g, off + i * 4 + 1, none⟩ = some (.int .i64 x.fmt) ∧ y.cell? ⟨g, off + i * 4 + 2, none⟩ = some (.int .i64 x.len) ∧ y.cell? ⟨g, off + i * 4 + 3, none⟩ = some (.string x.dig)) w9 :=
          ⟨hchg.cell hSe.1 (by simp [Value.ownBlock]; omega), hchg.cell hSe.2.1 (by simp [Value.ownBlock]; omega), hchg.cell hSe.2.2.1 (by simp [Value.ownBlock]; omega), hchg.cell hSe.2.2.2.1 (by simp [Value.ownBlock]; omega), hchg.cell hSe.2.2.2.2 (by simp [Value.ownBlock]; omega)⟩
        have HR9 := Lib.hid (hchg.block HRe.out (by simp [Value.ownBlock]; omega))
        have HG9 : Hid (Gr w w9) := Lib.hid (gr_step HGf.out (Gr.refl _) hchg (fun g' e => by simp [Value.ownBlock] at e; have := HBn.out; omega))
        have HO9 := Lib.hid (hown.mono HBn.out)
        have HBx : Hid (∀ g', v9.ownBlock = some g' → bR < g') := Lib.hid (fun g' e => by have := Own.ge hown e; have := Hbn.out; omega)
        clear hown hchg hSe HRe HOe HGf HNw HSn HAe hb3
        refine ⟨fun _ => hS9, ?_⟩
        try simp only [Act.put, List.setIfInBounds_toArray]
        obtain ⟨r0, r1, r2, r3⟩ := row4 HR9.out
        obtain ⟨f0, f1, f2, f3⟩ := frozen4 HR9.out
        have hc3 : Chg (some bR) w9 (((w9.setCell ⟨bR, 0, none⟩ (.string x.path)).setCell ⟨bR, 1, none⟩ (.int .i64 x.fmt)).setCell ⟨bR, 2, none⟩ (.int .i64 x.len)) := setCells_chg bR [.string x.path, .int .i64 x.fmt, .int .i64 x.len] 0 w9
        have hc4 : Chg (some bR) w9 ((((w9.setCell ⟨bR, 0, none⟩ (.string x.path)).setCell ⟨bR, 1, none⟩ (.int .i64 x.fmt)).setCell ⟨bR, 2, none⟩ (.int .i64 x.len)).setCell ⟨bR, 3, none⟩ (.string x.dig)) := setCells_chg bR [.string x.path, .int .i64 x.fmt, .int .i64 x.len, .string x.dig] 0 w9
        have hrow := row_set4 (a' := .string x.path) (b' := .int .i64 x.fmt) (c' := .int .i64 x.len) (d' := .string x.dig) HR9.out
        have HG0 : Hid (Gr w ((((w9.setCell ⟨bR, 0, none⟩ (.string x.path)).setCell ⟨bR, 1, none⟩ (.int .i64 x.fmt)).setCell ⟨bR, 2, none⟩ (.int .i64 x.len)).setCell ⟨bR, 3, none⟩ (.string x.dig))) := Lib.hid (gr_step HG9.out (Gr.refl _) hc4 (fun g' e => by cases e; have := Hbp.out; omega))
        have HO0 := Lib.hid (OwnL.keepC HO9.out hc4 HBx.out)
        have HRow := Lib.hid hrow
        have HC3 := Lib.hid hc3
        have HC4 := Lib.hid hc4
        have HS9 := Lib.hid hS9
        have Hbb : Hid (bR = bp + 1 ∧ g < bp) := Lib.hid ⟨Hbp.out.2, hgb⟩
        clear hc3 hc4 hrow HG9 HO9 HR9
        refine u_step 11 (by kernel_rfl) rfl (by rfl) ?_
        go_simp
        clear r0 r1 r2 r3 f0 f1 f2 f3 hS9 hgb
        have hS0 : (fun y : World => y.cell? ⟨bp, 2, none⟩ = some (.slice (some ⟨g, off, none⟩) l.length cv) ∧ y.cell? ⟨g, off + i * 4, none⟩ = some (.string x.path) ∧ y.cell? ⟨g, off + i * 4 + 1, none⟩ = some (.int .i64 x.fmt) ∧ y.cell? ⟨g, off + i * 4 + 2, none⟩ = some (.int .i64 x.len) ∧ y.cell? ⟨g, off + i * 4 + 3, none⟩ = some (.string x.dig)) ((((w9.setCell ⟨bR, 0, none⟩ (.string x.path)).setCell ⟨bR, 1, none⟩ (.int .i64 x.fmt)).setCell ⟨bR, 2, none⟩ (.int .i64 x.len)).setCell ⟨bR, 3, none⟩ (.string x.dig)) :=
          ⟨HC4.out.cell HS9.out.1 (by simp; have := Hbb.out; omega), HC4.out.cell HS9.out.2.1 (by simp; have := Hbb.out; omega), HC4.out.cell HS9.out.2.2.1 (by simp; have := Hbb.out; omega), HC4.out.cell HS9.out.2.2.2.1 (by simp; have := Hbb.out; omega), HC4.out.cell HS9.out.2.2.2.2 (by simp; have := Hbb.out; omega)⟩
        refine ⟨⟨HC3.out.cell HS9.out.1 (by simp; have := Hbb.out; omega), hS0.2⟩, ?_⟩
        generalize (((w9.setCell ⟨bR, 0, none⟩ (.string x.path)).setCell ⟨bR, 1, none⟩ (.int .i64 x.fmt)).setCell ⟨bR, 2, none⟩ (.int .i64 x.len)).setCell ⟨bR, 3, none⟩ (.string x.dig) = w0 at *
        refine u_take 12 (v := ?_) rfl rfl (by kernel_rfl) (by kernel_rfl) (by kernel_rfl) (by kernel_rfl) (fun _ _ _ h => h) (by rfl) (by assumption) ?_ ?_
        rotate_left
        · (intro w hSw; (try dsimp only at hSw); go_simp; try with_reducible rfl)
        try simp only [Act.put, List.setIfInBounds_toArray, List.set_cons_zero, List.set_cons_succ]
        refine u_take 13 (v := ?_) rfl rfl (by kernel_rfl) (by kernel_rfl) (by kernel_rfl) (by kernel_rfl) (fun _ _ _ h => h) (by rfl) (by assumption) ?_ ?_
        rotate_left
        · (intro w hSw; (try dsimp only at hSw); go_simp; try with_reducible rfl)
        try simp only [Act.put, List.setIfInBounds_toArray, List.set_cons_zero, List.set_cons_succ]
        refine u_take 14 (v := ?_) rfl rfl (by kernel_rfl) (by kernel_rfl) (by kernel_rfl) (by kernel_rfl) (fun _ _ _ h => h) (by rfl) (by assumption) ?_ ?_
        rotate_left
        · (intro w hSw; (try dsimp only at hSw); go_simp; try with_reducible rfl)
        try simp only [Act.put, List.setIfInBounds_toArray, List.set_cons_zero, List.set_cons_succ]
        refine u_done (by kernel_rfl) ?_ _
        go_wp2_with fail
        obtain ⟨m0, m1, m2, m3⟩ := row4 HRow.out
        refine bodyPost_ret (v := .tuple #[enV (prE l (some i)), .int .i64 (i : Int), v9, .int .i64 0]) ?_ rfl ⟨v9, rfl, by rw [HPR.out]; exact HO0.out, HG0.out⟩
        have he : enV (prE l (some i)) = .agg #[.string x.path, .int .i64 x.fmt, .int .i64 x.len, .string x.dig] := by
          unfold prE
          simp only
          rw [getD_at HX.out]; rfl
        rw [he]
        simp [results, Tryz.results33, go_sem, m0, m1, m2, m3]
      · have t2 : (x.path.toList == path.toList) = false := by rw [beq_str]; exact decide_eq_false hxp
        have HNo2 : Hid (∀ (j : Nat) (y : En), j < i + 1 → l[j]? = some y → y.path ≠ path) := Lib.hid (fun j y hj hy => by
          by_cases h : j < i
          · exact HNo.out j y h hy
          · obtain rfl : j = i := by omega
            rw [hx] at hy; cases hy; exact hxp)
        clear hxp hx HNo
        go_wp2_with fail
        clear a0 a1 a2 e0
        go_roundw
        case rel => exact ⟨i + 1, by omega, by go_num, trivial, HNo2⟩
        case measure => simp [intOf]; omega
    · have t1 : decide (i < l.length) = false := decide_eq_false hi
      have t1' : decide ((i : Int) < (l.length : Int)) = false := decide_eq_false (by omega)
      obtain rfl : RR = none := by rw [HRR2.out]; exact idx_no (fun j y hy => HNo.out j y (by have := (List.getElem?_eq_some_iff.1 hy).1; omega) hy)
      obtain ⟨k0, k1, k2⟩ := row3 HAb.out
      obtain ⟨r0, r1, r2, r3⟩ := row4 HRb.out
      obtain ⟨f0, f1, f2, f3⟩ := frozen4 HRb.out
      go_wp2_with fail
      have hch : Chg (some bR) wr ((((wr.setCell ⟨bR, 0, none⟩ (.string ⟨#[]⟩)).setCell ⟨bR, 1, none⟩ (.int .i64 0)).setCell ⟨bR, 2, none⟩ (.int .i64 0)).setCell ⟨bR, 3, none⟩ (.string ⟨#[]⟩)) := setCells_chg bR [.string ⟨#[]⟩, .int .i64 0, .int .i64 0, .string ⟨#[]⟩] 0 wr
      have hrow := row_set4 (a' := .string ⟨#[]⟩) (b' := .int .i64 0) (c' := .int .i64 0) (d' := .string ⟨#[]⟩) HRb.out
      have hGx := gr_step HGb.out (Gr.refl _) hch (fun g e => by cases e; have := Hbp.out; omega)
      obtain ⟨m0, m1, m2, m3⟩ := row4 hrow
      refine bodyPost_ret (v := .tuple #[.agg #[.string ⟨#[]⟩, .int .i64 0, .int .i64 0, .string ⟨#[]⟩], .int .i64 0, .slice none 0 0, .int .i64 140]) ?_ rfl ⟨_, rfl, Own.nil _ _ _, hGx⟩
      simp [results, Tryz.results33, go_sem, m0, m1, m2, m3]
end
section
open Go Go.RowKit Go.Shelf
attribute [local go_sem] gAt gUpon
attribute [local simp] Gr.refl Gr.alloc

set_option maxRecDepth 100000 in
theorem digestsR_any (v : Value) (l : List ByteArray) (w : World) (hv : StrsAt v l w) (hl : l.length ≤ 1000000) :
    Calls Tryz.prog 104 #[v] w fun e w' => e = .returned (.bool (allD l)) ∧ Gr w w' := by
  obtain ⟨p, c, rfl⟩ := hv.shape
  have HV := Lib.hid hv
  obtain ⟨B, hB⟩ : ∃ B, allD l = B := ⟨_, rfl⟩
  rw [hB]
  have HB := Lib.hid hB
  clear hv hB
  go_enter Tryz.func104, Tryz.ntmps104
  go_wp2_with fail
  go_loopw [3] (fun v3 W => ∃ k : Nat, k ≤ l.length ∧ v3 = .int .i64 (k : Int) ∧ Hid (Gr w W) ∧ Hid (allD (l.take k) = true)) (fun v3 _ => l.length - (intOf v3).toNat)
  case atStart => exact ⟨0, Nat.zero_le _, rfl, Lib.hid (Gr.refl _), Lib.hid rfl⟩
  case round =>
    obtain ⟨k, hk, rfl, HG, HA⟩ := hrel
    by_cases hlt : k < l.length
    · have ht : decide (k < l.length) = true := decide_eq_true hlt
      have ht' : decide ((k : Int) < (l.length : Int)) = true := decide_eq_true (by omega)
      obtain ⟨x, hx⟩ : ∃ x, l[k]? = some x := ⟨_, List.getElem?_eq_getElem hlt⟩
      obtain ⟨g, off, rfl, hc⟩ : ∃ g off, p = some ⟨g, off, none⟩ ∧ wr.cell? ⟨g, off + k, none⟩ = some (.string x) := by
        rcases HV.out.gr HG.out with ⟨he, h0⟩ | ⟨g, off, cap, he, _, _, hc⟩
        · rw [h0] at hx; exact absurd hx (by simp)
        · injection he with e1 e2 e3
          exact ⟨g, off, e1, hc k x hx⟩
      have i0 : (0 : Int) ≤ (k : Int) := by omega
      have i1 : (k : Int) < (l.length : Int) := by omega
      have HX := Lib.hid hx
      clear hx
      by_cases h32 : x.size = 32
      · have t2 : ((x.size : Int) != 32) = false := by rw [h32]; rfl
        have HA2 := Lib.hid (allD_take HX.out h32 HA.out)
        clear h32
        go_wp2_with fail
        go_roundw
        case rel => exact ⟨k + 1, by omega, by go_num, HG, HA2⟩
        case measure => simp [intOf]; omega
      · have t2 : ((x.size : Int) != 32) = true := by rw [bne_iff_ne]; omega
        obtain rfl : B = false := by rw [← HB.out]; exact allD_false HX.out h32
        go_wp2_with fail
        go_ret
        exact ⟨rfl, HG.out⟩
    · have ht : decide (k < l.length) = false := decide_eq_false hlt
      have ht' : decide ((k : Int) < (l.length : Int)) = false := decide_eq_false (by omega)
      obtain rfl : B = true := by
        rw [← HB.out]
        have h := HA.out
        rw [List.take_of_length_le (by omega)] at h; exact h
      go_wp2_with fail
      go_ret
      exact ⟨rfl, HG.out⟩
/-- what value gives -/
def VlRes (s : ByteArray) (P : List ByteArray) (N I : Nat) (w : World) (e : Ending) (w' : World) : Prop :=
  ∃ z b, e = .returned (.tuple #[.string z, .bool b]) ∧ z.size ≤ 32 ∧ (if b = true then valR s P.reverse N I = some z else valR s P.reverse N I = none) ∧ Gr w w'
set_option maxRecDepth 100000 in
set_option maxHeartbeats 4000000 in
theorem valueR_any (s : ByteArray) (hs : s.size ≤ 1000000) : ∀ (n : Nat) (P : List ByteArray) (N I : Nat) (v : Value) (w : World), P.length = n → n ≤ 1000000 → StrsAt v P w → (∀ x ∈ P, x.size = 32) → I < N → N ≤ 9223372036854775807 →
    Calls Tryz.prog 105 #[.int .i64 (N : Int), .int .i64 (I : Int), .string s, v] w (VlRes s P N I w) := by
  intro n
  induction n with
  | zero =>
    intro P N I v w hPn hn hv hPs hIN hN
    have hP : P = [] := List.eq_nil_of_length_eq_zero hPn
    obtain ⟨p, c, rfl⟩ := hv.shape
    rw [hPn]
    subst hP
    by_cases h1 : N = 1
    · have t1 : ((N : Int) == 1) = true := by rw [beq_iff_eq]; omega
      have HLf := Lib.hid (leafR_any s w (by omega))
      have HR : Hid (valR s [] N I = some (leafD s)) := Lib.hid (by rw [valR, if_pos h1])
      have hsz := leafD_size s
      obtain ⟨LF, hLF⟩ : ∃ z, leafD s = z := ⟨_, rfl⟩
      rw [hLF] at HLf HR hsz
      clear h1 hLF hPn hv hPs
      go_enter Tryz.func105, Tryz.ntmps105
      go_wp2_with fail
      refine HLf.out.mono ?_
      rintro e w1 ⟨rfl, hg⟩
      have HG := Lib.hid hg
      clear hg HLf
      go_wp2_with fail
      go_ret2
      exact ⟨LF, true, rfl, by omega, HR.out, HG.out⟩
    · have t1 : ((N : Int) == 1) = false := by rw [beq_eq_false_iff_ne]; omega
      have HR : Hid (valR s [] N I = none) := Lib.hid (by rw [valR, if_neg h1])
      clear h1 hPn hv hPs
      go_enter Tryz.func105, Tryz.ntmps105
      go_wp2_with fail
      go_ret2
      exact ⟨⟨#[]⟩, false, rfl, by decide, HR.out, Gr.refl _⟩
  | succ n ih =>
    intro P N I v w hPn hn hv hPs hIN hN
    obtain ⟨Q, x, rfl⟩ : ∃ Q x, P = Q ++ [x] := by
      rcases snoc_cases P with rfl | h
      · simp at hPn
      · exact h
    obtain ⟨g, off, c4, rfl, hcap, hcm, hc⟩ := hv.shape_snoc
    have hQn : Q.length = n := by simpa using hPn
    have hcx : w.cell? ⟨g, off + n, none⟩ = some (.string x) := hc _ _ (by rw [← hQn]; simp)
    have HSQ : Hid (StrsAt (.slice (some ⟨g, off, none⟩) n c4) Q w) := Lib.hid (.inr ⟨g, off, c4, by rw [hQn], by omega, hcm, fun j y hj => hc j y (by rw [List.getElem?_append_left (List.getElem?_eq_some_iff.1 hj).1]; exact hj)⟩)
    have HPQ : Hid (∀ y ∈ Q, y.size = 32) := Lib.hid (fun y hy => hPs y (by simp [hy]))
    have hxs : x.size = 32 := hPs x (by simp)
    have hrev : (Q ++ [x]).reverse = x :: Q.reverse := by rw [List.reverse_append, List.reverse_singleton, List.singleton_append]
    rw [hQn] at hcap ⊢
    by_cases h1 : N = 1
    · have t1 : ((N : Int) == 1) = true := by rw [beq_iff_eq]; omega
      have HLf := Lib.hid (leafR_any s w (by omega))
      have HR : Hid (valR s (Q ++ [x]).reverse N I = none) := Lib.hid (by rw [hrev, valR, if_pos h1])
      have hsz := leafD_size s
      obtain ⟨LF, hLF⟩ : ∃ z, leafD s = z := ⟨_, rfl⟩
      rw [hLF] at HLf hsz
      have t2 : decide ((n : Int) < 0) = false := decide_eq_false (by omega)
      clear h1 hLF hPn hv hPs ih HSQ HPQ hrev hQn hc hcx
      go_enter Tryz.func105, Tryz.ntmps105
      go_wp2_with fail
      refine HLf.out.mono ?_
      rintro e w1 ⟨rfl, hg⟩
      have HG := Lib.hid hg
      clear hg HLf
      go_wp2_with fail
      go_ret2
      exact ⟨LF, false, rfl, by omega, HR.out, HG.out⟩
    have t1 : ((N : Int) == 1) = false := by rw [beq_eq_false_iff_ne]; omega
    have t2 : decide ((n : Int) < 0) = false := decide_eq_false (by omega)
    have HLf0 := fun w => refLeft_any N (by omega) hN w
    have hK1 := (lp_spec N (by omega)).1
    have hK0 := lp_pos N
    have hWl : I < lp N → valR s (Q ++ [x]).reverse N I = (valR s Q.reverse (lp N) I).map (nodeD · x) := fun h => by
      rw [hrev, valR, if_neg h1, if_pos h]
    have hWh : ¬ I < lp N → valR s (Q ++ [x]).reverse N I = (valR s Q.reverse (N - lp N) (I - lp N)).map (nodeD x ·) := fun h => by
      rw [hrev, valR, if_neg h1, if_neg h]
    generalize lp N = K at HLf0 hK1 hK0 hWl hWh
    have HLf := Lib.hid HLf0
    have HWl := Lib.hid hWl
    have HWh := Lib.hid hWh
    have HQn := Lib.hid hQn
    have Hih := Lib.hid ih
    clear HLf0 hWl hWh hQn ih hc hv hPs hPn hrev h1
    by_cases hIK : I < K
    · have ht2 : decide (I < K) = true := decide_eq_true hIK
      have ht2' : decide ((I : Int) < (K : Int)) = true := decide_eq_true (by omega)
      have Hrec := Lib.hid (Hih.out Q K I (.slice (some ⟨g, off, none⟩) n c4) w HQn.out (by omega) HSQ.out HPQ.out hIK (by omega))
      have HW := Lib.hid (HWl.out hIK)
      clear Hih HWl HWh HSQ HPQ
      go_enter Tryz.func105, Tryz.ntmps105
      go_wp2_with fail
      refine (HLf.out _).mono ?_
      rintro e wl ⟨rfl, rfl⟩
      clear HLf
      go_wp2_with fail
      refine Hrec.out.mono ?_
      rintro e w4 ⟨z, b, rfl, hz, hb, hg⟩
      have HG4 := Lib.hid hg
      have Hb := Lib.hid hb
      have hcx4 := hg.cell hcx
      have HNd := Lib.hid (nodeR_any z x w4 (by omega))
      have hsz := nodeD_size z x
      obtain ⟨ND, hND⟩ : ∃ q, nodeD z x = q := ⟨_, rfl⟩
      rw [hND] at HNd hsz
      have HND := Lib.hid hND
      clear hg hb hcx hND Hrec
      go_wp2_with fail
      refine HNd.out.mono ?_
      rintro e w5 ⟨rfl, hg5⟩
      have HG5 := Lib.hid (HG4.out.trans hg5)
      clear hg5 hcx4 HNd HG4
      go_wp2_with fail
      go_ret2
      refine ⟨ND, b, rfl, by omega, ?_, HG5.out⟩
      have hbb := Hb.out
      rw [HW.out]
      cases b with
      | true => rw [if_pos rfl] at hbb ⊢; rw [hbb, Option.map_some, HND.out]
      | false => rw [if_neg (by decide)] at hbb ⊢; rw [hbb]; rfl
    · have ht2 : decide (I < K) = false := decide_eq_false hIK
      have ht2' : decide ((I : Int) < (K : Int)) = false := decide_eq_false (by omega)
      have hrec := Hih.out Q (N - K) (I - K) (.slice (some ⟨g, off, none⟩) n c4) w HQn.out (by omega) HSQ.out HPQ.out (by omega) (by omega)
      rw [show ((N - K : Nat) : Int) = (N : Int) - (K : Int) by omega, show ((I - K : Nat) : Int) = (I : Int) - (K : Int) by omega] at hrec
      have Hrec := Lib.hid hrec
      have HW := Lib.hid (HWh.out hIK)
      clear Hih HWl HWh HSQ HPQ hrec
      go_enter Tryz.func105, Tryz.ntmps105
      go_wp2_with fail
      refine (HLf.out _).mono ?_
      rintro e wl ⟨rfl, rfl⟩
      clear HLf
      go_wp2_with fail
      refine Hrec.out.mono ?_
      rintro e w4 ⟨z, b, rfl, hz, hb, hg⟩
      have HG4 := Lib.hid hg
      have Hb := Lib.hid hb
      have hcx4 := hg.cell hcx
      have HNd := Lib.hid (nodeR_any x z w4 (by omega))
      have hsz := nodeD_size x z
      obtain ⟨ND, hND⟩ : ∃ q, nodeD x z = q := ⟨_, rfl⟩
      rw [hND] at HNd hsz
      have HND := Lib.hid hND
      clear hg hb hcx hND Hrec
      go_wp2_with fail
      refine HNd.out.mono ?_
      rintro e w5 ⟨rfl, hg5⟩
      have HG5 := Lib.hid (HG4.out.trans hg5)
      clear hg5 hcx4 HNd HG4
      go_wp2_with fail
      go_ret2
      refine ⟨ND, b, rfl, by omega, ?_, HG5.out⟩
      have hbb := Hb.out
      rw [HW.out]
      cases b with
      | true => rw [if_pos rfl] at hbb ⊢; rw [hbb, Option.map_some, HND.out]
      | false => rw [if_neg (by decide)] at hbb ⊢; rw [hbb]; rfl
set_option maxRecDepth 100000 in
set_option maxHeartbeats 2000000 in
theorem verify2_any (root : ByteArray) (n i : Int) (s : ByteArray) (v : Value) (l : List ByteArray) (w : World) (hv : StrsAt v l w) (hl : l.length ≤ 1000000) (hn : n ≤ 9223372036854775807) (hs : s.size ≤ 1000000) :
    Calls Tryz.prog 68 #[.string root, .int .i64 n, .int .i64 i, .string s, v] w fun e w' => e = .returned (.bool (verD root n i s l)) ∧ Gr w w' := by
  have HDg := Lib.hid (digestsR_any v l w hv hl)
  have HV := Lib.hid hv
  obtain ⟨B, hB⟩ : ∃ B, verD root n i s l = B := ⟨_, rfl⟩
  rw [hB]
  have HB : Hid ((decide (0 ≤ i) && decide (i < n) && allD l && decide (valR s l.reverse n.toNat i.toNat = some root)) = B) := Lib.hid hB
  obtain ⟨D, hD⟩ : ∃ D, allD l = D := ⟨_, rfl⟩
  rw [hD] at HDg HB
  have HD := Lib.hid hD
  clear hB hv hD
  go_enter Tryz.func68, Tryz.ntmps68
  go_wp2_with fail
  refine HDg.out.mono ?_
  rintro e w1 ⟨rfl, hg⟩
  have HG := Lib.hid hg
  clear hg HDg
  by_cases h0 : i < 0
  · have t0 : decide (i < 0) = true := decide_eq_true h0
    obtain rfl : B = false := by rw [← HB.out, decide_eq_false (show ¬ 0 ≤ i by omega)]; simp
    clear h0
    go_wp2_with fail
    go_ret
    exact ⟨rfl, HG.out⟩
  have t0 : decide (i < 0) = false := decide_eq_false h0
  by_cases h1 : n ≤ i
  · have t1 : decide (n ≤ i) = true := decide_eq_true h1
    obtain rfl : B = false := by rw [← HB.out, decide_eq_false (show ¬ i < n by omega)]; simp
    clear h0 h1
    go_wp2_with fail
    go_ret
    exact ⟨rfl, HG.out⟩
  have t1 : decide (n ≤ i) = false := decide_eq_false h1
  cases D with
  | false =>
    obtain rfl : B = false := by rw [← HB.out]; simp
    clear h0 h1
    go_wp2_with fail
    go_ret
    exact ⟨rfl, HG.out⟩
  | true =>
  obtain ⟨N, rfl⟩ : ∃ N : Nat, n = (N : Int) := ⟨n.toNat, by omega⟩
  obtain ⟨K, rfl⟩ : ∃ K : Nat, i = (K : Int) := ⟨i.toNat, by omega⟩
  have HVl := Lib.hid (valueR_any s hs l.length l N K v w1 rfl hl (HV.out.gr HG.out) (allD_iff.1 HD.out) (by omega) (by omega))
  have HB2 : Hid (decide (valR s l.reverse N K = some root) = B) := Lib.hid (by
    have := HB.out
    rw [decide_eq_true (show (0 : Int) ≤ (K : Int) by omega), decide_eq_true (show (K : Int) < (N : Int) by omega)] at this
    simpa using this)
  have t1n : decide (N ≤ K) = false := decide_eq_false (by omega)
  clear h0 h1 HB
  go_wp2_with fail
  refine HVl.out.mono ?_
  rintro e w2 ⟨z, b, rfl, -, hb, hg⟩
  have HG2 := Lib.hid (HG.out.trans hg)
  have Hb := Lib.hid hb
  clear hb hg HG HVl
  cases b with
  | false =>
    obtain rfl : B = false := by
      have := Hb.out
      rw [if_neg (by decide)] at this
      rw [← HB2.out, this]; simp
    go_wp2_with fail
    go_ret
    exact ⟨rfl, HG2.out⟩
  | true =>
    have hb := Hb.out
    rw [if_pos rfl] at hb
    have t2 : (z.toList == root.toList) = B := by
      rw [beq_str, ← HB2.out, hb]
      simp
    clear hb
    go_wp2_with fail
    go_ret
    exact ⟨rfl, HG2.out⟩
end
section
open Go Go.RowKit Go.Shelf
attribute [local go_sem] gAt gUpon
attribute [local simp] Gr.refl Gr.alloc

set_option maxRecDepth 100000 in
set_option maxHeartbeats 4000000 in
theorem verifyMR_any (root : ByteArray) (id ver n i : Int) (x : En) (v : Value) (l : List ByteArray) (w : World) (hv : StrsAt v l w) (hl : l.length ≤ 1000000) (hx : x.path.size ≤ 9223372036854775807) (hs : ∀ y ∈ l, y.size ≤ 1000) :
    Calls Tryz.prog 35 #[.string root, .int .i64 id, .int .i64 ver, .int .i64 n, .int .i64 i, .agg #[.string x.path, .int .i64 x.fmt, .int .i64 x.len, .string x.dig], v] w fun e w' => e = .returned (.bool (verM root id ver n i x l)) ∧ Gr w w' := by
  obtain ⟨p, c, rfl⟩ := hv.shape
  have HV := Lib.hid hv
  have HS := Lib.hid hs
  obtain ⟨B, hB⟩ : ∃ B, verM root id ver n i x l = B := ⟨_, rfl⟩
  rw [hB]
  have HB : Hid ((headB id ver n && (entB x && (decide (l.length ≠ 0) && (decide (root = boundD id ver n (l.getD 0 ⟨#[]⟩)) && verD (l.getD 0 ⟨#[]⟩) n i (lineD x) (l.drop 1))))) = B) := Lib.hid hB
  have HEn : Hid (∀ y, _) := Lib.hid (fun y => entryR_any x y hx)
  obtain ⟨W1, hW1⟩ : ∃ B, withinB id 1 1000000 = B := ⟨_, rfl⟩
  obtain ⟨W2, hW2⟩ : ∃ B, withinB ver 1 1000000 = B := ⟨_, rfl⟩
  obtain ⟨W3, hW3⟩ : ∃ B, withinB n 1 64 = B := ⟨_, rfl⟩
  obtain ⟨B2, hB2⟩ : ∃ B, entB x = B := ⟨_, rfl⟩
  have HW1 : Hid (∀ y, _) := Lib.hid (fun y => withinR_any id 1 1000000 y)
  have HW2 : Hid (∀ y, _) := Lib.hid (fun y => withinR_any ver 1 1000000 y)
  have HW3 : Hid (∀ y, _) := Lib.hid (fun y => withinR_any n 1 64 y)
  rw [hW1] at HW1
  rw [hW2] at HW2
  rw [hW3] at HW3
  have HHd : Hid (headB id ver n = (W1 && (W2 && W3))) := Lib.hid (by unfold headB; rw [hW1, hW2, hW3])
  have HN3 : Hid (W3 = true → n ≤ 64) := Lib.hid (fun h => by rw [← hW3] at h; exact (withinB_iff.1 h).2)
  have HB2 := Lib.hid hB2
  rw [hB2] at HEn HB
  rw [HHd.out] at HB
  obtain ⟨pa, f, m, d⟩ := x
  simp only at HEn ⊢
  obtain ⟨bb, hbb⟩ : ∃ b, w.heap.size = b := ⟨_, rfl⟩
  have hrow := heap_alloc_new w (.cells #[.string pa, .int .i64 f, .int .i64 m, .string d] 28)
  rw [hbb] at hrow
  have HA := Lib.hid hrow
  have HGA := Lib.hid (Gr.alloc w (.cells #[.string pa, .int .i64 f, .int .i64 m, .string d] 28))
  clear hv hs hB hW1 hW2 hW3 hB2 hrow hx
  go_enter Tryz.func35, Tryz.ntmps35
  go_upto_region 1 with fail
  clear hbb
  generalize w.alloc (.cells #[.string pa, .int .i64 f, .int .i64 m, .string d] 28) = wa at HA HGA ⊢
  obtain ⟨a0, a1, a2, a3⟩ := row4 HA.out
  go_wp2_with fail
  refine (HW1.out _).mono ?_
  rintro e w1 ⟨rfl, rfl⟩
  clear HW1
  cases W1 with
  | false =>
    obtain rfl : B = false := by rw [← HB.out]; rfl
    clear HW2 HW3
    go_wp2_with fail
    go_ret
    exact ⟨rfl, HGA.out⟩
  | true =>
  go_wp2_with fail
  refine (HW2.out _).mono ?_
  rintro e w1 ⟨rfl, rfl⟩
  cases W2 with
  | false =>
    obtain rfl : B = false := by rw [← HB.out]; rfl
    clear HW2 HW3
    go_wp2_with fail
    go_ret
    exact ⟨rfl, HGA.out⟩
  | true =>
  go_wp2_with fail
  refine (HW3.out _).mono ?_
  rintro e w1 ⟨rfl, rfl⟩
  cases W3 with
  | false =>
    obtain rfl : B = false := by rw [← HB.out]; rfl
    clear HW2 HW3
    go_wp2_with fail
    go_ret
    exact ⟨rfl, HGA.out⟩
  | true =>
  clear HW2 HW3
  have hn64 := HN3.out rfl
  go_wp2_with fail
  refine (HEn.out _).mono ?_
  rintro e w1 ⟨rfl, hg1⟩
  have HG1 := Lib.hid (HGA.out.trans hg1)
  have HA1 := Lib.hid (hg1.block HA.out)
  clear hg1 HGA HA HEn a0 a1 a2 a3
  cases B2 with
  | false =>
    obtain rfl : B = false := by rw [← HB.out]; rfl
    go_wp2_with fail
    go_ret
    exact ⟨rfl, HG1.out⟩
  | true =>
  by_cases h0 : l.length = 0
  · have t0 : ((l.length : Int) == 0) = true := by rw [h0]; rfl
    obtain rfl : B = false := by rw [← HB.out, decide_eq_false (show ¬ l.length ≠ 0 by omega)]; rfl
    clear h0
    go_wp2_with fail
    go_ret
    exact ⟨rfl, HG1.out⟩
  have t0 : ((l.length : Int) == 0) = false := by rw [beq_eq_false_iff_ne]; omega
  have HHo := Lib.hid (head_ok HHd.out)
  obtain ⟨g, off, hp, hcell, hcut⟩ : ∃ g off, p = some ⟨g, off, none⟩ ∧ (∀ (j : Nat) y, l[j]? = some y → w.cell? ⟨g, off + j, none⟩ = some (.string y)) ∧ (l.length ≤ c ∧ ∃ o1, StrsAt (.slice (some ⟨g, o1, none⟩) (l.length - 1) (c - 1)) (l.drop 1) w ∧ ((c = 1 ∧ o1 = off) ∨ (c ≠ 1 ∧ o1 = off + 1))) := by
    rcases HV.out with ⟨_, e0⟩ | ⟨g, off, cap, he, b1, b2, hc⟩
    · rw [e0] at h0; simp at h0
    · injection he with e1 e2 e3
      subst e1 e3
      refine ⟨g, off, rfl, hc, b1, ?_⟩
      by_cases hck : c = 1
      · refine ⟨off, .inr ⟨g, off, c - 1, by rw [List.length_drop], by rw [List.length_drop]; omega, by omega, fun j x hj => ?_⟩, .inl ⟨hck, rfl⟩⟩
        have := (List.getElem?_eq_some_iff.1 hj).1
        rw [List.length_drop] at this; omega
      · refine ⟨off + 1, .inr ⟨g, off + 1, c - 1, by rw [List.length_drop], by rw [List.length_drop]; omega, by omega, fun j x hj => ?_⟩, .inr ⟨hck, rfl⟩⟩
        rw [List.getElem?_drop] at hj
        rw [Nat.add_assoc]; exact hc _ x hj
  subst hp
  obtain ⟨hlc, o1, hD, ho1⟩ := hcut
  obtain ⟨q0, hq0⟩ : ∃ z, l[0]? = some z := ⟨_, List.getElem?_eq_getElem (by omega)⟩
  have hc0 : w.cell? ⟨g, off, none⟩ = some (.string q0) := hcell 0 _ hq0
  have hg0 : l.getD 0 ⟨#[]⟩ = q0 := by rw [List.getD_eq_getElem?_getD, hq0]; rfl
  have hqs := HS.out q0 (List.mem_of_getElem? hq0)
  rw [hg0] at HB
  have HLk := ent_line HB2.out
  have hls := line_small HB2.out
  have HLn := Lib.hid (fun (y : World) => lineR_any ⟨pa, f, m, d⟩ HLk y)
  have HVf := Lib.hid (fun (y : World) (hg : Gr w y) => verify2_any q0 n i (lineD ⟨pa, f, m, d⟩) _ (l.drop 1) y (hD.gr hg) (by rw [List.length_drop]; omega) (by omega) (by omega))
  have HHr := Lib.hid (fun (y : World) => headR_any id ver n HHo.out y)
  have hhs := hdB_size id ver n
  have HBd : Hid (boundD id ver n q0 = nodeD (leafD (hdB id ver n)) q0) := Lib.hid rfl
  rw [HBd.out] at HB
  obtain ⟨VD, hVD⟩ : ∃ z, verD q0 n i (lineD ⟨pa, f, m, d⟩) (l.drop 1) = z := ⟨_, rfl⟩
  rw [hVD] at HVf HB
  obtain ⟨LN, hLN⟩ : ∃ z, lineD ⟨pa, f, m, d⟩ = z := ⟨_, rfl⟩
  rw [hLN] at HLn HVf
  obtain ⟨HD, hHD⟩ : ∃ z, hdB id ver n = z := ⟨_, rfl⟩
  rw [hHD] at HHr hhs HB
  have HLf := Lib.hid (fun (y : World) => leafR_any HD y (by omega))
  obtain ⟨LF, hLF⟩ : ∃ z, leafD HD = z := ⟨_, rfl⟩
  have hFs : LF.size = 32 := by rw [← hLF]; exact leafD_size _
  rw [hLF] at HLf HB
  have HNd := Lib.hid (fun (y : World) => nodeR_any LF q0 y (by omega))
  obtain ⟨ND, hND⟩ : ∃ z, nodeD LF q0 = z := ⟨_, rfl⟩
  rw [hND] at HNd HB
  have Ho1 := Lib.hid ho1
  have HC := Lib.hid hc0
  have HBB : Hid ((decide (root = ND) && VD) = B) := Lib.hid (by
    have := HB.out
    rw [decide_eq_true h0] at this
    simpa using this)
  simp only at HLn
  clear hVD hLN hHD hLF hND hD ho1 hc0 hcell hq0 hg0 HB HBd HHd HN3 HLk hls hhs hFs hqs HV HS
  obtain ⟨mm, hmm⟩ : ∃ z, l.length = z := ⟨_, rfl⟩
  rw [hmm] at HVf hlc t0 h0 ⊢
  clear hmm
  have i2 : (0 : Int) < (mm : Int) := by omega
  have i3 : (1 : Int) ≤ (mm : Int) := by omega
  have i4 : (mm : Int) ≤ (c : Int) := by omega
  have C0 : ∀ q : GrS w1.drew, q.w.cell? ⟨g, off, none⟩ = some (.string q0) := fun q => q.h.cell (w := w1.drew) (HG1.out.cell HC.out)
  by_cases hrt : root = ND
  · have t1 : (root.toList == ND.toList) = true := by rw [beq_str]; exact decide_eq_true hrt
    obtain rfl : B = VD := by rw [← HBB.out, decide_eq_true hrt, Bool.true_and]
    clear hrt
    go_upto_region 3 with fail
    refine region_grow 11 59 (by kernel_rfl) rfl (by kernel_rfl) rfl rfl ?_
    simp only [List.take_succ_cons, List.take_zero, List.drop_succ_cons, List.drop_zero]
    refine seg 4 rfl rfl rfl rfl ?_
    simp only [List.take_succ_cons, List.take_zero, List.drop_succ_cons, List.drop_zero]
    repeat (go_big_quiet_step (fail))
    refine wpQuiet_nil ?_
    intro _
    refine grow_det (v := .string HD) rfl rfl rfl rfl rfl ?_ ?_
    · intro w1 hG
      go_simp
      refine (HHr.out w1).mono ?_
      rintro e w' ⟨rfl, hb⟩
      exact ⟨rfl, hb⟩
    simp only [Act.put, List.setIfInBounds_toArray, List.set_cons_zero, List.set_cons_succ]
    refine grow_det (v := .string LF) rfl rfl rfl rfl rfl ?_ ?_
    · intro w1 hG
      go_simp
      refine (HLf.out w1).mono ?_
      rintro e w' ⟨rfl, hb⟩
      exact ⟨rfl, hb⟩
    simp only [Act.put, List.setIfInBounds_toArray, List.set_cons_zero, List.set_cons_succ]
    refine seg 3 rfl rfl rfl rfl ?_
    simp only [List.take_succ_cons, List.take_zero, List.drop_succ_cons, List.drop_zero]
    repeat (go_big_quiet_step (fail))
    refine wpQuiet_nil ?_
    intro _
    refine grow_det (v := .string ND) rfl rfl rfl rfl rfl ?_ ?_
    · intro w1 hG
      go_simp
      refine (HNd.out w1).mono ?_
      rintro e w' ⟨rfl, hb⟩
      exact ⟨rfl, hb⟩
    simp only [Act.put, List.setIfInBounds_toArray, List.set_cons_zero, List.set_cons_succ]
    refine seg 1 rfl rfl rfl rfl ?_
    simp only [List.take_succ_cons, List.take_zero, List.drop_succ_cons, List.drop_zero]
    repeat (go_big_quiet_step (fail))
    refine wpQuiet_nil ?_
    intro _
    refine grow_end0 rfl rfl ?_
    intro w2 hG
    have HG2 := Lib.hid (HG1.out.trans ((Gr.drew w1).trans hG))
    have HA2 := Lib.hid (((Gr.drew w1).trans hG).block HA1.out)
    clear hG C0 HG1 HA1
    have C1 : ∀ q : GrS w2.drew, q.w.cell? ⟨g, off, none⟩ = some (.string q0) := fun q => q.h.cell (w := w2.drew) (HG2.out.cell HC.out)
    have S0 : ∀ q : GrS w2.drew, q.w.cell? ⟨bb, 0, none⟩ = some (.string pa) := fun q => q.h.cell (w := w2.drew) (row4 HA2.out).1
    have S1 : ∀ q : GrS w2.drew, q.w.cell? ⟨bb, 1, none⟩ = some (.int .i64 f) := fun q => q.h.cell (w := w2.drew) (row4 HA2.out).2.1
    have S2 : ∀ q : GrS w2.drew, q.w.cell? ⟨bb, 2, none⟩ = some (.int .i64 m) := fun q => q.h.cell (w := w2.drew) (row4 HA2.out).2.2.1
    have S3 : ∀ q : GrS w2.drew, q.w.cell? ⟨bb, 3, none⟩ = some (.string d) := fun q => q.h.cell (w := w2.drew) (row4 HA2.out).2.2.2
    go_upto_region 5 with fail
    refine region_grow 10 59 (by kernel_rfl) rfl (by kernel_rfl) rfl rfl ?_
    simp only [List.take_succ_cons, List.take_zero, List.drop_succ_cons, List.drop_zero]
    refine seg 6 rfl rfl rfl rfl ?_
    simp only [List.take_succ_cons, List.take_zero, List.drop_succ_cons, List.drop_zero]
    repeat (go_big_quiet_step (fail))
    refine wpQuiet_nil ?_
    intro _
    refine grow_det (v := .string LN) rfl rfl rfl rfl rfl ?_ ?_
    · intro w1 hG
      go_simp
      refine (HLn.out w1).mono ?_
      rintro e w' ⟨rfl, hb⟩
      exact ⟨rfl, hb⟩
    simp only [Act.put, List.setIfInBounds_toArray, List.set_cons_zero, List.set_cons_succ]
    refine seg 1 rfl rfl rfl rfl ?_
    simp only [List.take_succ_cons, List.take_zero, List.drop_succ_cons, List.drop_zero]
    repeat (go_big_quiet_step (fail))
    refine wpQuiet_nil ?_
    intro _
    refine grow_det (v := .slice (some ⟨g, o1, none⟩) (mm - 1) (c - 1)) rfl rfl rfl rfl rfl ?_ ?_
    · intro w1 hG
      rcases Ho1.out with ⟨h1, h2⟩ | ⟨h1, h2⟩
      · rw [h2]
        go_simp
      · rw [h2]
        go_simp
    simp only [Act.put, List.setIfInBounds_toArray, List.set_cons_zero, List.set_cons_succ]
    refine grow_det (v := .bool B) rfl rfl rfl rfl rfl ?_ ?_
    · intro w1 hG
      go_simp
      refine (HVf.out w1 (HG2.out.trans ((Gr.drew w2).trans hG))).mono ?_
      rintro e w' ⟨rfl, hb⟩
      exact ⟨rfl, hb⟩
    simp only [Act.put, List.setIfInBounds_toArray, List.set_cons_zero, List.set_cons_succ]
    refine grow_end0 rfl rfl ?_
    intro w3 hG
    have HG3 := Lib.hid (HG2.out.trans ((Gr.drew w2).trans hG))
    clear hG C1 S0 S1 S2 S3
    go_wp2_with fail
    go_ret
    exact ⟨rfl, HG3.out⟩
  · have t1 : (root.toList == ND.toList) = false := by rw [beq_str]; exact decide_eq_false hrt
    obtain rfl : B = false := by rw [← HBB.out, decide_eq_false hrt, Bool.false_and]
    clear hrt
    go_upto_region 3 with fail
    refine region_grow 11 59 (by kernel_rfl) rfl (by kernel_rfl) rfl rfl ?_
    simp only [List.take_succ_cons, List.take_zero, List.drop_succ_cons, List.drop_zero]
    refine seg 4 rfl rfl rfl rfl ?_
    simp only [List.take_succ_cons, List.take_zero, List.drop_succ_cons, List.drop_zero]
    repeat (go_big_quiet_step (fail))
    refine wpQuiet_nil ?_
    intro _
    refine grow_det (v := .string HD) rfl rfl rfl rfl rfl ?_ ?_
    · intro w1 hG
      go_simp
      refine (HHr.out w1).mono ?_
      rintro e w' ⟨rfl, hb⟩
      exact ⟨rfl, hb⟩
    simp only [Act.put, List.setIfInBounds_toArray, List.set_cons_zero, List.set_cons_succ]
    refine grow_det (v := .string LF) rfl rfl rfl rfl rfl ?_ ?_
    · intro w1 hG
      go_simp
      refine (HLf.out w1).mono ?_
      rintro e w' ⟨rfl, hb⟩
      exact ⟨rfl, hb⟩
    simp only [Act.put, List.setIfInBounds_toArray, List.set_cons_zero, List.set_cons_succ]
    refine seg 3 rfl rfl rfl rfl ?_
    simp only [List.take_succ_cons, List.take_zero, List.drop_succ_cons, List.drop_zero]
    repeat (go_big_quiet_step (fail))
    refine wpQuiet_nil ?_
    intro _
    refine grow_det (v := .string ND) rfl rfl rfl rfl rfl ?_ ?_
    · intro w1 hG
      go_simp
      refine (HNd.out w1).mono ?_
      rintro e w' ⟨rfl, hb⟩
      exact ⟨rfl, hb⟩
    simp only [Act.put, List.setIfInBounds_toArray, List.set_cons_zero, List.set_cons_succ]
    refine seg 1 rfl rfl rfl rfl ?_
    simp only [List.take_succ_cons, List.take_zero, List.drop_succ_cons, List.drop_zero]
    repeat (go_big_quiet_step (fail))
    refine wpQuiet_nil ?_
    intro _
    refine grow_end0 rfl rfl ?_
    intro w2 hG
    have HG2 := Lib.hid (HG1.out.trans ((Gr.drew w1).trans hG))
    clear hG C0 HG1 HA1
    go_wp2_with fail
    go_ret
    exact ⟨rfl, HG2.out⟩
end
end Go.Proofs.YtjnnhhengpinmaaGreatDoor
