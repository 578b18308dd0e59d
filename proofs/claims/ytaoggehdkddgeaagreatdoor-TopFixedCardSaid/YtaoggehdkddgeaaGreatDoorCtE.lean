/- strings.Trim by a set of ASCII letters; content's check of a raster. -/
import Derived.Test.YtaoggehdkddgeaaGreatDoorGMG
namespace Go.Proofs.YtaoggehdkddgeaaGreatDoor
open Go Go.RowKit Go.Shelf
attribute [local go_sem] gAt gUpon
attribute [local simp] Gr.refl Gr.alloc

def szOf : Value → Nat
  | .string s => s.size
  | _ => 0
/-- where the set lies -/
def SetAt (cs : List UInt8) (b : Nat) (w : World) : Prop := w.heap[b]? = some (.cells (Lib.setCells cs) 247 (0, 0))
theorem set_has {cs : List UInt8} {b : Nat} {w : World} (h : SetAt cs b w) (x : UInt8) : Calls Tryz.prog 204 #[.pointer (some ⟨b, 0, none⟩), .int .u8 (x.toNat : Int)] w fun e w' => e = .returned (.bool (cs.contains x)) ∧ w' = w :=
  Tryz.asciiSet_contains b x (cs.contains x) w (by rw [cell_of_row _ _ _ _ _ _ h]; exact Lib.setCells_at cs x)
/-- all of a string's bytes are in the set -/
def inB (cs : List UInt8) (s : ByteArray) : Bool := s.data.toList.all fun x => cs.contains x
theorem inB_of {cs : List UInt8} {s : ByteArray} : inB cs s = true ↔ ∀ (j : Nat) (h : j < s.size), cs.contains (s[j]'h) = true := by
  unfold inB
  rw [List.all_eq_true]
  constructor
  · intro h j hj
    exact h _ (by have : s[j]'hj ∈ s.data := Array.getElem_mem hj; simpa using this)
  · intro h x hx
    obtain ⟨j, hj, rfl⟩ := List.getElem_of_mem hx
    have hj' : j < s.size := by simpa using hj
    have h3 : cs.contains (s.data[j]'hj') = true := h j hj'
    simpa using h3
theorem ext_get (s : ByteArray) (a b j : Nat) (h : j < (s.extract a b).size) (h2 : a + j < s.size) : (s.extract a b)[j]'h = s[a + j]'h2 := by
  have : (s.extract a b).data[j]'h = s.data[a + j]'h2 := by
    simp only [ByteArray.data_extract]
    rw [Array.getElem_extract]
  exact this
theorem ext_ext (s : ByteArray) (a b c d : Nat) : (s.extract a b).extract c d = s.extract (a + c) (min (a + d) b) := by
  apply ByteArray.ext
  simp only [ByteArray.data_extract, Array.extract_extract]
/-- what is left when letters of the set are taken away behind -/
def RT (cs : List UInt8) (s : ByteArray) (k : Nat) : Prop := k ≤ s.size ∧ ∀ (j : Nat) (h : j < s.size), k ≤ j → cs.contains (s[j]'h) = true
theorem trimR_any (cs : List UInt8) (s : ByteArray) (b : Nat) (w : World) (hb : SetAt cs b w) (hs : s.size ≤ 9223372036854775807) :
    Calls Tryz.prog 169 #[.string s, .pointer (some ⟨b, 0, none⟩)] w fun e w' => (∃ k, e = .returned (.string (s.extract 0 k)) ∧ RT cs s k ∧ (k = 0 ∨ ∃ (j : Nat) (h : j < s.size), k = j + 1 ∧ cs.contains (s[j]'h) = false)) ∧ w = w' := by
  have HB := Lib.hid hb
  have H0 : Hid (RT cs s s.size) := Lib.hid ⟨Nat.le_refl _, fun j h h2 => by omega⟩
  have hfull : s = s.extract 0 s.size := by
    apply ByteArray.ext
    rw [ByteArray.data_extract]
    apply Array.ext
    · simp
    · intro i h1 h2; simp
  have HFull := Lib.hid hfull
  clear hb hfull
  go_enter Tryz.func169, Tryz.ntmps169
  go_wp2_with fail
  go_loop [0] (fun v0 => ∃ (k : Nat) (S : ByteArray), v0 = .string S ∧ Hid (S = s.extract 0 k) ∧ S.size = k ∧ k ≤ s.size ∧ Hid (RT cs s k)) (fun v0 => szOf v0)
  case atStart => exact ⟨s.size, s, rfl, HFull, rfl, Nat.le_refl _, H0⟩
  case round =>
    obtain ⟨k, S, rfl, HS, hsz, hks, HR⟩ := hrel
    by_cases h0 : k = 0
    · subst h0
      have tk : decide ((0 : Int) < (S.size : Int)) = false := decide_eq_false (by omega)
      have tk' : decide (0 < S.size) = false := decide_eq_false (by omega)
      go_wp2_with fail
      go_ret
      exact ⟨⟨0, by rw [← HS.out]; rfl, HR.out, .inl rfl⟩, rfl⟩
    · obtain ⟨j, rfl⟩ : ∃ j, k = j + 1 := ⟨k - 1, by omega⟩
      have tk : decide ((0 : Int) < (S.size : Int)) = true := decide_eq_true (by omega)
      have tk' : decide (0 < S.size) = true := decide_eq_true (by omega)
      have ew : IntKind.i64.wrap ((S.size : Int) - 1) = (j : Int) := by rw [IntWalk.i64_in _ (by omega)]; omega
      have hjS : j < S.size := by omega
      have hjs : j < s.size := by omega
      have hx : S[j]'hjS = s[j]'hjs := by
        have h1 := HS.out
        subst h1
        rw [ext_get _ _ _ _ _ (by omega)]
        congr 1; omega
      have HC := Lib.hid (set_has HB.out (S[j]'hjS))
      have Hx := Lib.hid hx
      obtain ⟨bb, hbb⟩ : ∃ bb, cs.contains (S[j]'hjS) = bb := ⟨_, rfl⟩
      rw [hbb] at HC
      have Hbb := Lib.hid hbb
      have hjle : j ≤ S.size := by omega
      clear hx hbb
      cases bb with
      | false =>
        go_wp2_with fail
        refine HC.out.mono ?_
        rintro e w1 ⟨rfl, rfl⟩
        clear HC
        go_wp2_with fail
        go_ret
        exact ⟨⟨j + 1, by rw [← HS.out]; rfl, HR.out, .inr ⟨j, hjs, rfl, by rw [← Hx.out]; exact Hbb.out⟩⟩, rfl⟩
      | true =>
        have HS2 : Hid (S.extract 0 j = s.extract 0 j) := Lib.hid (by rw [HS.out, ext_ext]; congr 1 <;> omega)
        have HR2 : Hid (RT cs s j) := Lib.hid ⟨by omega, fun i h h2 => by
          by_cases hi : i = j
          · subst hi; rw [← Hx.out]; exact Hbb.out
          · exact HR.out.2 i h (by omega)⟩
        have hs2 : (S.extract 0 j).size = j := by rw [ByteArray.size_extract]; omega
        go_wp2_with fail
        refine HC.out.mono ?_
        rintro e w1 ⟨rfl, rfl⟩
        clear HC
        go_wp2_with fail
        go_round
        case rel => exact ⟨j, _, rfl, HS2, hs2, by omega, HR2⟩
        case measure => simp only [szOf]; omega
/-- what is left when letters of the set are taken away in front -/
def LT (cs : List UInt8) (s : ByteArray) (k : Nat) : Prop := k ≤ s.size ∧ ∀ (j : Nat) (h : j < s.size), j < k → cs.contains (s[j]'h) = true
theorem trimL_any (cs : List UInt8) (s : ByteArray) (b : Nat) (w : World) (hb : SetAt cs b w) (hs : s.size ≤ 9223372036854775807) :
    Calls Tryz.prog 168 #[.string s, .pointer (some ⟨b, 0, none⟩)] w fun e w' => (∃ k, e = .returned (.string (s.extract k s.size)) ∧ LT cs s k ∧ (k = s.size ∨ ∃ (h : k < s.size), cs.contains (s[k]'h) = false)) ∧ w = w' := by
  have HB := Lib.hid hb
  have H0 : Hid (LT cs s 0) := Lib.hid ⟨Nat.zero_le _, fun j h h2 => by omega⟩
  have hfull : s = s.extract 0 s.size := by
    apply ByteArray.ext
    rw [ByteArray.data_extract]
    apply Array.ext
    · simp
    · intro i h1 h2; simp
  have HFull := Lib.hid hfull
  clear hb hfull
  go_enter Tryz.func168, Tryz.ntmps168
  go_wp2_with fail
  go_loop [0] (fun v0 => ∃ (k : Nat) (S : ByteArray), v0 = .string S ∧ Hid (S = s.extract k s.size) ∧ S.size = s.size - k ∧ k ≤ s.size ∧ Hid (LT cs s k)) (fun v0 => szOf v0)
  case atStart => exact ⟨0, s, rfl, HFull, by omega, Nat.zero_le _, H0⟩
  case round =>
    obtain ⟨k, S, rfl, HS, hsz, hks, HR⟩ := hrel
    by_cases h0 : k = s.size
    · have tk : decide ((0 : Int) < (S.size : Int)) = false := decide_eq_false (by omega)
      have tk' : decide (0 < S.size) = false := decide_eq_false (by omega)
      go_wp2_with fail
      go_ret
      exact ⟨⟨k, by rw [← HS.out]; rfl, HR.out, .inl h0⟩, rfl⟩
    · have tk : decide ((0 : Int) < (S.size : Int)) = true := decide_eq_true (by omega)
      have tk' : decide (0 < S.size) = true := decide_eq_true (by omega)
      have hjS : 0 < S.size := by omega
      have hjs : k < s.size := by omega
      have hx : S[0]'hjS = s[k]'hjs := by
        have h1 := HS.out
        subst h1
        rw [ext_get _ _ _ _ _ (by omega)]
        congr 1
      have HC := Lib.hid (set_has HB.out (S[0]'hjS))
      have Hx := Lib.hid hx
      obtain ⟨bb, hbb⟩ : ∃ bb, cs.contains (S[0]'hjS) = bb := ⟨_, rfl⟩
      rw [hbb] at HC
      have Hbb := Lib.hid hbb
      have hjle : 1 ≤ S.size := by omega
      clear hx hbb
      cases bb with
      | false =>
        go_wp2_with fail
        refine HC.out.mono ?_
        rintro e w1 ⟨rfl, rfl⟩
        clear HC
        go_wp2_with fail
        go_ret
        exact ⟨⟨k, by rw [← HS.out]; rfl, HR.out, .inr ⟨hjs, by rw [← Hx.out]; exact Hbb.out⟩⟩, rfl⟩
      | true =>
        have HS2 : Hid (S.extract 1 (s.size - k) = s.extract (k + 1) s.size) := Lib.hid (by
          rw [HS.out, ext_ext]; congr 1; omega)
        have HR2 : Hid (LT cs s (k + 1)) := Lib.hid ⟨by omega, fun i h h2 => by
          by_cases hi : i = k
          · subst hi; rw [← Hx.out]; exact Hbb.out
          · exact HR.out.2 i h (by omega)⟩
        have hs2 : (S.extract 1 (s.size - k)).size = s.size - (k + 1) := by rw [ByteArray.size_extract]; omega
        go_wp2_with fail
        refine HC.out.mono ?_
        rintro e w1 ⟨rfl, rfl⟩
        clear HC
        go_wp2_with fail
        go_round
        case rel => exact ⟨k + 1, _, rfl, HS2, hs2, by omega, HR2⟩
        case measure => simp only [szOf]; omega
/-- trimmed by a set, a string is empty exactly if all of its letters are in the set -/
theorem trim_set (cs : ByteArray) (s : ByteArray) (w : World) (hs : s.size ≤ 9223372036854775807) (hc2 : 2 ≤ cs.size) (hc3 : cs.size < 4294967281) (hasc : ∀ (j : Nat) b, cs.data.toList[j]? = some b → b.toNat < 128) :
    Calls Tryz.prog 118 #[.string s, .string cs] w fun e w' => (∃ r : ByteArray, e = .returned (.string r) ∧ (r.size = 0 ↔ inB cs.data.toList s = true)) ∧ Gr w w' := by
  by_cases h0 : s.size = 0
  · have he : s = ⟨#[]⟩ := ByteArray.ext (Array.eq_empty_of_size_eq_zero h0)
    subst he
    go_enter Tryz.func118, Tryz.ntmps118
    go_wp2_with fail
    go_ret
    exact ⟨⟨_, rfl, ⟨fun _ => rfl, fun _ => rfl⟩⟩, Gr.refl _⟩
  · have hz : ∀ w, (zeroValue 247).run Tryz.prog w = .ok (.agg (Array.replicate 256 (.bool false))) w := by
      intro w
      kernel_rfl
    have HM := Lib.hid (fun x => Tryz.strings_makeASCIISet hz cs x hc3 hasc)
    have t1 : s.toList.isEmpty = false := by
      rw [List.isEmpty_eq_false_iff]
      intro h
      have : s.toList.length = 0 := by rw [h]; rfl
      rw [ByteArray.toList_eq] at this
      simp at this
      exact h0 (by rw [this]; rfl)
    have t2 : cs.toList.isEmpty = false := by
      rw [List.isEmpty_eq_false_iff]
      intro h
      have : cs.toList.length = 0 := by rw [h]; rfl
      rw [ByteArray.toList_eq] at this
      simp at this
      have h3 : cs.size = 0 := by rw [this]; rfl
      omega
    have t3 : ((cs.size : Int) == 1) = false := by rw [beq_eq_false_iff_ne]; omega
    have t4 : ¬ (cs.size : Int) = 1 := by omega
    go_enter Tryz.func118, Tryz.ntmps118
    go_wp2_with fail
    refine (HM.out _).mono ?_
    rintro e w1 ⟨rfl, hw1⟩
    have HG1 : Hid (Gr w w1) := Lib.hid (by rw [hw1]; exact Gr.alloc _ _)
    clear hw1
    have hsz := Lib.setCells_size cs.data.toList
    have h1c := Lib.setCells_one cs.data.toList
    obtain ⟨C, hC⟩ : ∃ C, Lib.setCells cs.data.toList = C := ⟨_, rfl⟩
    rw [hC] at hsz h1c ⊢
    have HC := Lib.hid hC
    clear hC hz HM
    have ht134 : (Tryz.prog.info? 247).map (·.size) = some 256 := by kernel_rfl
    have HT : Hid ((Tryz.prog.info? 247).map (·.size) = some C.size) := Lib.hid (by rw [hsz]; exact ht134)
    have H1 := Lib.hid h1c
    have HSz := Lib.hid hsz
    clear ht134 h1c hsz
    go_upto_region 6 with ((with_reducible show wpList _ _ _ (⟨none, .store 247 _ _, _, _, _, _⟩ :: _) _ _); refine wpList_store_row rfl 247 (.tmp 5) (.tmp 32) rfl w1.heap.size C rfl rfl 247 _ (heap_alloc_new _ _) HT.out ?_ H1.out ?_; (rw [HSz.out]; kernel_rfl); simp only [Act.put])
    refine wp_gen (newBlk_set w1 _ C 247) ?_
    rintro wA ⟨hgA, hrA, -⟩
    have HSA : Hid (SetAt cs.data.toList w1.heap.size wA) := Lib.hid (by unfold SetAt; rw [HC.out]; exact hrA)
    have HGA := Lib.hid (HG1.out.trans hgA)
    have HR := Lib.hid (trimR_any cs.data.toList s w1.heap.size wA HSA.out hs)
    clear hgA hrA HG1 HT H1 HSz HC
    go_wp2_with fail
    refine HR.out.mono ?_
    rintro e w2 ⟨⟨k, rfl, hk1, hk2⟩, rfl⟩
    have hks : (s.extract 0 k).size = k := by rw [ByteArray.size_extract]; have := hk1.1; omega
    have HL := Lib.hid (trimL_any cs.data.toList (s.extract 0 k) w1.heap.size wA HSA.out (by have := hk1.1; omega))
    have HK1 := Lib.hid hk1
    have HK2 := Lib.hid hk2
    have HKs := Lib.hid hks
    clear HR hk1 hk2 hks
    go_wp2_with fail
    refine HL.out.mono ?_
    rintro e w2 ⟨⟨j, rfl, hj1, hj2⟩, rfl⟩
    have HF : Hid (((s.extract 0 k).extract j (s.extract 0 k).size).size = 0 ↔ inB cs.data.toList s = true) := Lib.hid (by
      have hks := HKs.out
      have hk1 := HK1.out
      have hk2 := HK2.out
      rw [inB_of, ByteArray.size_extract, Nat.min_self, hks]
      constructor
      · intro h i hi
        have hjk : j = k := by have := hj1.1; omega
        by_cases hik : i < k
        · have := hj1.2 i (by omega) (by omega)
          rw [ext_get _ _ _ _ _ (by omega)] at this
          rw [← this]; congr 1; congr 1; omega
        · exact hk1.2 i hi (by omega)
      · intro h
        rcases hj2 with hj2 | ⟨hj3, hj4⟩
        · omega
        · exfalso
          rw [ext_get _ _ _ _ _ (by have := hk1.1; omega)] at hj4
          rw [h _ (by have := hk1.1; omega)] at hj4; cases hj4)
    clear hj1 hj2 HL HK1 HK2 HKs
    generalize (s.extract 0 k).extract j (s.extract 0 k).size = r at HF ⊢
    go_wp2_with fail
    go_ret
    exact ⟨⟨_, rfl, HF.out⟩, HGA.out⟩
end Go.Proofs.YtaoggehdkddgeaaGreatDoor
