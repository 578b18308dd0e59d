/- The walk of the statement DigestSumMatchesReference: it answers true. -/
import Derived.Test.YtbkhkpcnclhoiaaDoorAppend
import Derived.Test.YtbkhkpcnclhoiaaDoorRefC
namespace Go.Proofs.YtbkhkpcnclhoiaaDoor
open Go.RowKit Go.Shelf
attribute [local go_sem] gAt gUpon
attribute [local simp] Gr.refl Gr.alloc

set_option maxRecDepth 100000 in
set_option maxHeartbeats 1000000 in
theorem summ_any (s t : ByteArray) (w : World) (hs : s.size ≤ 9223372036854775807) (ht : t.size ≤ 9223372036854775807) (hT : Tab w) :
    Calls Tryd.prog 9 #[.string s, .string t] w fun e w' => e = .returned (.bool true) ∧ Gr w w' := by
  have HT := Lib.hid hT
  have hmn : min (s.size : Int) 500 = ((min s.size 500 : Nat) : Int) := by omega
  have hmt : min (t.size : Int) 500 = ((min t.size 500 : Nat) : Int) := by omega
  clear hT
  go_enter Tryd.func9, Tryd.ntmps9
  go_wp2_with fail
  refine (sane_any w HT.out).mono ?_
  rintro e w1 ⟨rfl, hg1⟩
  have HG1 := Lib.hid hg1
  clear hg1
  have HA : Hid ((s.extract 0 (min s.size 500)).size ≤ 500) := Lib.hid (by rw [show s.extract 0 (min s.size 500) = cutD s 500 from rfl, cutD_size]; omega)
  have HB : Hid ((t.extract 0 (min t.size 500)).size ≤ 500) := Lib.hid (by rw [show t.extract 0 (min t.size 500) = cutD t 500 from rfl, cutD_size]; omega)
  go_upto_region 4 with fail
  generalize s.extract 0 (min s.size 500) = a at HA ⊢
  generalize t.extract 0 (min t.size 500) = b at HB ⊢
  clear hmn hmt hs ht
  have hA := HA.out
  have hB := HB.out
  have H1 : Hid (∀ w', Gr w w' → Calls Tryd.prog 27 #[.string a] w' fun e w'' => e = .returned (.string (sha a)) ∧ Gr w' w'') := Lib.hid (fun w' hg => sum_any a w' (by omega) (HT.out.gr hg))
  have H2 : Hid (∀ w', Calls Tryd.prog 30 #[.string a] w' fun e w'' => e = .returned (.string (sha a)) ∧ Gr w' w'') := Lib.hid (fun w' => sumR_any a w' (by omega))
  have H3 : Hid (∀ w', Gr w w' → Calls Tryd.prog 26 #[.string b] w' fun e w'' => e = .returned (.string (leafD b)) ∧ Gr w' w'') := Lib.hid (fun w' hg => leaf_any b w' (by omega) (HT.out.gr hg))
  have H4 : Hid (∀ w', Calls Tryd.prog 31 #[.string b] w' fun e w'' => e = .returned (.string (leafD b)) ∧ Gr w' w'') := Lib.hid (fun w' => leafR_any b w' (by omega))
  have H5 : Hid (∀ w', Gr w w' → Calls Tryd.prog 29 #[.string a, .string b] w' fun e w'' => e = .returned (.string (nodeD a b)) ∧ Gr w' w'') := Lib.hid (fun w' hg => node_any a b w' (by omega) (HT.out.gr hg))
  have H6 : Hid (∀ w', Calls Tryd.prog 32 #[.string a, .string b] w' fun e w'' => e = .returned (.string (nodeD a b)) ∧ Gr w' w'') := Lib.hid (fun w' => nodeR_any a b w' (by omega))
  have H7 : Hid (∀ w', Gr w w' → Calls Tryd.prog 33 #[.string b, .string a] w' fun e w'' => e = .returned (.string (chainD b a)) ∧ Gr w' w'') := Lib.hid (fun w' hg => chain_any b a w' (by omega) (HT.out.gr hg))
  have H8 : Hid (∀ w', Calls Tryd.prog 34 #[.string b, .string a] w' fun e w'' => e = .returned (.string (chainD b a)) ∧ Gr w' w'') := Lib.hid (fun w' => chainR_any b a w' (by omega))
  generalize sha a = x1 at *
  generalize leafD b = x2 at *
  generalize nodeD a b = x3 at *
  generalize chainD b a = x4 at *
  clear hA hB
  go_wp2_with fail
  refine (H1.out _ HG1.out).mono ?_
  rintro e w2 ⟨rfl, hg⟩
  have HG2 := Lib.hid (HG1.out.trans hg)
  clear hg HG1
  go_wp2_with fail
  refine (H2.out _).mono ?_
  rintro e w3 ⟨rfl, hg⟩
  have HG3 := Lib.hid (HG2.out.trans hg)
  clear hg HG2
  go_wp2_with fail
  refine (H3.out _ HG3.out).mono ?_
  rintro e w4 ⟨rfl, hg⟩
  have HG4 := Lib.hid (HG3.out.trans hg)
  clear hg HG3
  go_wp2_with fail
  refine (H4.out _).mono ?_
  rintro e w5 ⟨rfl, hg⟩
  have HG5 := Lib.hid (HG4.out.trans hg)
  clear hg HG4
  go_wp2_with fail
  refine (H5.out _ HG5.out).mono ?_
  rintro e w6 ⟨rfl, hg⟩
  have HG6 := Lib.hid (HG5.out.trans hg)
  clear hg HG5
  go_wp2_with fail
  refine (H6.out _).mono ?_
  rintro e w7 ⟨rfl, hg⟩
  have HG7 := Lib.hid (HG6.out.trans hg)
  clear hg HG6
  go_wp2_with fail
  refine (H7.out _ HG7.out).mono ?_
  rintro e w8 ⟨rfl, hg⟩
  have HG8 := Lib.hid (HG7.out.trans hg)
  clear hg HG7
  go_wp2_with fail
  refine (H8.out _).mono ?_
  rintro e w9 ⟨rfl, hg⟩
  have HG9 := Lib.hid (HG8.out.trans hg)
  clear hg HG8
  go_wp2_with fail
  go_ret
  exact ⟨rfl, HG9.out⟩
end Go.Proofs.YtbkhkpcnclhoiaaDoor
