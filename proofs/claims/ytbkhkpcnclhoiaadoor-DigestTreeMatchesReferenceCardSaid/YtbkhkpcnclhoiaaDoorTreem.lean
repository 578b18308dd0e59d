/- The walk of the statement DigestTreeMatchesReference: it answers true. -/
import Derived.Test.YtbkhkpcnclhoiaaDoorAppend
import Derived.Test.YtbkhkpcnclhoiaaDoorRefD
import Derived.Test.YtbkhkpcnclhoiaaDoorHeads
namespace Go.Proofs.YtbkhkpcnclhoiaaDoor
open Go.RowKit Go.Shelf
attribute [local go_sem] gAt gUpon
attribute [local simp] Gr.refl Gr.alloc

set_option maxRecDepth 100000 in
set_option maxHeartbeats 1000000 in
theorem treem_any (v : Value) (l : List ByteArray) (i m : Int) (w : World) (hv : StrsIn v l w) (hi : -9223372036854775808 ≤ i ∧ i ≤ 9223372036854775807) (hm : -9223372036854775808 ≤ m ∧ m ≤ 9223372036854775807) (hT : Tab w) :
    Calls Tryd.prog 3 #[v, .int .i64 i, .int .i64 m] w fun e w' => e = .returned (.bool true) ∧ Gr w w' := by
  have HV := Lib.hid hv
  have HT := Lib.hid hT
  clear hv hT hi hm
  go_enter Tryd.func3, Tryd.ntmps3
  go_wp2_with fail
  refine (sane_any w HT.out).mono ?_
  rintro e w1 ⟨rfl, hg1⟩
  go_wp2_with fail
  refine (few_in v l 40 w1 (HV.out.gr hg1) (by decide)).mono ?_
  rintro e w2 ⟨u, rfl, ho, hg2, -⟩
  have hMl := fewD_len l 40
  have hMs := fewD_all l 40
  generalize fewD l 40 = M at ho hMl hMs
  have hM : M.length ≤ 40 := by omega
  have HG2 := Lib.hid (hg1.trans hg2)
  have HU := Lib.hid ho.strs.2
  have HP : Hid (∀ w', Gr w2 w' → Calls Tryd.prog 13 #[u, .int .i64 i] w' fun e w'' => ∃ p, e = .returned (.tuple #[p, .int .i64 (if i < 0 ∨ (M.length : Int) ≤ i then 2 else 0)]) ∧ StrsAt p (if i < 0 ∨ (M.length : Int) ≤ i then [] else proofD M i.toNat) w'' ∧ Gr w' w'') := Lib.hid (fun w' hg => by
    refine (proof_any u M i w' (HU.out.gr hg) (by omega) (fun x hx => by have := hMs x hx; omega) (HT.out.gr (HG2.out.trans hg))).mono ?_
    rintro e w'' ⟨p, x, rfl, rfl, hO, hG⟩
    exact ⟨p, rfl, hO.strs.2, hG⟩)
  have HQ : Hid (∀ w', Gr w2 w' → Calls Tryd.prog 14 #[u, .int .i64 i] w' fun e w'' => ∃ p, e = .returned (.tuple #[p, .int .i64 (if i < 0 ∨ (M.length : Int) ≤ i then 2 else 0)]) ∧ StrsAt p (if i < 0 ∨ (M.length : Int) ≤ i then [] else proofD M i.toNat) w'' ∧ Gr w' w'') := Lib.hid (fun w' hg => by
    refine (proofR_any u M i w' (HU.out.gr hg) (by omega) (fun x hx => by have := hMs x hx; omega)).mono ?_
    rintro e w'' ⟨p, rfl, hO, hG⟩
    exact ⟨p, rfl, (Own.strs hO).2, hG⟩)
  have HX : Hid (∀ w', Gr w2 w' → Calls Tryd.prog 15 #[u, .int .i64 m] w' fun e w'' => ∃ p, e = .returned (.tuple #[p, .int .i64 (if m < 0 ∨ (M.length : Int) < m then 2 else 0)]) ∧ StrsAt p (if m ≤ 0 ∨ (M.length : Int) < m then [] else extD M m.toNat true) w'' ∧ Gr w' w'') := Lib.hid (fun w' hg => by
    refine (ext_any u M m w' (HU.out.gr hg) (by omega) (fun x hx => by have := hMs x hx; omega) (HT.out.gr (HG2.out.trans hg))).mono ?_
    rintro e w'' ⟨p, x, rfl, rfl, hO, hG⟩
    exact ⟨p, rfl, hO.strs.2, hG⟩)
  have HY : Hid (∀ w', Gr w2 w' → Calls Tryd.prog 16 #[u, .int .i64 m] w' fun e w'' => ∃ p, e = .returned (.tuple #[p, .int .i64 (if m < 0 ∨ (M.length : Int) < m then 2 else 0)]) ∧ StrsAt p (if m ≤ 0 ∨ (M.length : Int) < m then [] else extD M m.toNat true) w'' ∧ Gr w' w'') := Lib.hid (fun w' hg => by
    refine (extR_any u M m w' (HU.out.gr hg) (by omega) (fun x hx => by have := hMs x hx; omega)).mono ?_
    rintro e w'' ⟨p, rfl, hO, hG⟩
    exact ⟨p, rfl, (Own.strs hO).2, hG⟩)
  have HR : Hid (∀ w', Gr w2 w' → Calls Tryd.prog 18 #[u] w' fun e w'' => e = .returned (.string (rootD M)) ∧ Gr w' w'') := Lib.hid (fun w' hg => root_any u M w' (HU.out.gr hg) (by omega) (fun x hx => by have := hMs x hx; omega) (HT.out.gr (HG2.out.trans hg)))
  have HS : Hid (∀ w', Gr w2 w' → Calls Tryd.prog 19 #[u] w' fun e w'' => e = .returned (.string (rootD M)) ∧ Gr w' w'') := Lib.hid (fun w' hg => rootR_any u M w' (HU.out.gr hg) (by omega) (fun x hx => by have := hMs x hx; omega))
  have hL1 : (if i < 0 ∨ (M.length : Int) ≤ i then [] else proofD M i.toNat).length ≤ 1000 := by
    split
    · simp
    · have := proof_short 6 M i.toNat (by omega); omega
  have hL2 : (if m ≤ 0 ∨ (M.length : Int) < m then [] else extD M m.toNat true).length ≤ 1000 := by
    split
    · simp
    · have := ext_short 6 M m.toNat true (by omega) (by omega); omega
  generalize (if i < 0 ∨ (M.length : Int) ≤ i then [] else proofD M i.toNat) = X at *
  generalize (if m ≤ 0 ∨ (M.length : Int) < m then [] else extD M m.toNat true) = Y at *
  generalize (if i < 0 ∨ (M.length : Int) ≤ i then (2 : Int) else 0) = c1 at *
  generalize (if m < 0 ∨ (M.length : Int) < m then (2 : Int) else 0) = c2 at *
  generalize rootD M = R at *
  clear HU ho hMl hMs hM hg1 hg2 HV
  go_wp2_with fail
  refine (HP.out _ (Gr.refl _)).mono ?_
  rintro e w3 ⟨p3, rfl, hs3, hg⟩
  have HG3 := Lib.hid hg
  have HS3 := Lib.hid hs3
  clear hg hs3 HP
  go_wp2_with fail
  refine (HQ.out _ HG3.out).mono ?_
  rintro e w4 ⟨p4, rfl, hs4, hg⟩
  have HG4 := Lib.hid (HG3.out.trans hg)
  have HS34 := Lib.hid (HS3.out.gr hg)
  have HS4 := Lib.hid hs4
  clear hg hs4 HQ HS3 HG3
  go_wp2_with fail
  refine (HX.out _ HG4.out).mono ?_
  rintro e w5 ⟨p5, rfl, hs5, hg⟩
  have HG5 := Lib.hid (HG4.out.trans hg)
  have HS35 := Lib.hid (HS34.out.gr hg)
  have HS45 := Lib.hid (HS4.out.gr hg)
  have HS5 := Lib.hid hs5
  clear hg hs5 HX HS34 HS4 HG4
  go_wp2_with fail
  refine (HY.out _ HG5.out).mono ?_
  rintro e w6 ⟨p6, rfl, hs6, hg⟩
  have HG6 := Lib.hid (HG5.out.trans hg)
  have HS36 := Lib.hid (HS35.out.gr hg)
  have HS46 := Lib.hid (HS45.out.gr hg)
  have HS56 := Lib.hid (HS5.out.gr hg)
  have HS6 := Lib.hid hs6
  clear hg hs6 HY HS35 HS45 HS5 HG5
  have HM1 := Lib.hid (same_any p3 p4 X X w6 HS36.out HS46.out hL1 hL1)
  rw [decide_eq_true rfl] at HM1
  go_wp2_with fail
  refine HM1.out.mono ?_
  rintro e w7 ⟨rfl, hg⟩
  have HG7 := Lib.hid (HG6.out.trans hg)
  have HM2 := Lib.hid (same_any p5 p6 Y Y w7 (HS56.out.gr hg) (HS6.out.gr hg) hL2 hL2)
  rw [decide_eq_true rfl] at HM2
  clear hg HM1 HS36 HS46 HS56 HS6 HG6
  go_wp2_with fail
  refine HM2.out.mono ?_
  rintro e w8 ⟨rfl, hg⟩
  have HG8 := Lib.hid (HG7.out.trans hg)
  clear hg HM2 HG7
  go_wp2_with fail
  refine (HR.out _ HG8.out).mono ?_
  rintro e w9 ⟨rfl, hg⟩
  have HG9 := Lib.hid (HG8.out.trans hg)
  clear hg HR HG8
  go_wp2_with fail
  refine (HS.out _ HG9.out).mono ?_
  rintro e w10 ⟨rfl, hg⟩
  have HG10 := Lib.hid (HG2.out.trans (HG9.out.trans hg))
  clear hg HS HG9
  go_wp2_with fail
  go_ret
  exact ⟨rfl, HG10.out⟩
end Go.Proofs.YtbkhkpcnclhoiaaDoor
