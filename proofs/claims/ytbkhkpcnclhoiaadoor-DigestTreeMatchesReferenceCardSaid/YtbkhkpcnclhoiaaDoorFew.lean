/- The contract of the statements' helper few: at most n strings, each cut to 60 bytes. -/
import Derived.Test.YtbkhkpcnclhoiaaDoorVExtB
namespace Go.Proofs.YtbkhkpcnclhoiaaDoor
open Go.RowKit Go.Shelf
attribute [local go_sem] gAt gUpon
attribute [local simp] Gr.refl Gr.alloc

/-- a string cut to n bytes -/
def cutD (s : ByteArray) (n : Nat) : ByteArray := s.extract 0 (min s.size n)
def fewD (l : List ByteArray) (n : Nat) : List ByteArray := (l.take n).map fun s => cutD s 60
theorem cutD_size (s : ByteArray) (n : Nat) : (cutD s n).size = min s.size n := by
  unfold cutD; rw [ByteArray.size_extract]; omega
theorem fewD_len (l : List ByteArray) (n : Nat) : (fewD l n).length = min n l.length := by simp [fewD]
theorem fewD_all (l : List ByteArray) (n : Nat) : ∀ x ∈ fewD l n, x.size ≤ 60 := by
  intro x hx
  obtain ⟨y, _, rfl⟩ := List.mem_map.1 hx
  rw [cutD_size]; omega

set_option maxRecDepth 100000 in
set_option maxHeartbeats 1000000 in
theorem few_any (v : Value) (l : List ByteArray) (n : Nat) (w : World) (hv : StrsAt v l w) (hn : n ≤ 1000) :
    Calls Tryd.prog 12 #[v, .int .i64 (n : Int)] w fun e w' => ∃ u, e = .returned u ∧ Own w.heap.size 1 u (fewD l n).length (sC (fewD l n)) w' ∧ Gr w w' ∧ ((fewD l n).length = 0 → u = .slice none 0 0) := by
  obtain ⟨i9, hi9, hz9, hsz9, hb9⟩ := info_parts info9
  obtain ⟨p, cap, rfl⟩ := hv.shape
  have HV := Lib.hid hv
  have hcm : l.length ≤ 9223372036854775807 := by
    rcases hv with ⟨_, rfl⟩ | ⟨g, off, cap', _, h1, h2, _⟩
    · simp
    · unfold maxLen at h2; omega
  clear hv
  go_enter Tryd.func12, Tryd.ntmps12
  go_wp2_with fail
  go_loopw [5, 6] (fun v5 v6 W => ∃ (k : Nat) (V5 : Value), k ≤ n ∧ k ≤ l.length ∧ v6 = .int .i64 (k : Int) ∧ V5 = v5 ∧ Hid (k = 0 → V5 = .slice none 0 0) ∧ Hid (Own w.heap.size 1 V5 k (sC (fewD l k)) W) ∧ Hid (Gr w W)) (fun _ v6 _ => l.length - (intOf v6).toNat)
  case atStart => exact ⟨0, _, Nat.zero_le _, Nat.zero_le _, rfl, rfl, Lib.hid (fun _ => rfl), Lib.hid (Own.nil _ _ _), Lib.hid (Gr.refl _)⟩
  case round =>
    obtain ⟨k, v5, hkn, hkl, rfl, rfl, HZ, HO, HG⟩ := hrel
    by_cases hlt : k < l.length
    · have ht : decide (k < l.length) = true := decide_eq_true hlt
      by_cases hln : k < n
      · have ht2 : decide (k < n) = true := decide_eq_true hln
        obtain ⟨x, hx⟩ : ∃ x, l[k]? = some x := ⟨_, List.getElem?_eq_getElem hlt⟩
        obtain ⟨g, off, cap', he, hc4⟩ : ∃ g off cap', Value.slice p l.length cap = .slice (some ⟨g, off, none⟩) l.length cap' ∧ ∀ (j : Nat) x, l[j]? = some x → wr.cell? ⟨g, off + j, none⟩ = some (.string x) := by
          rcases HV.out with ⟨_, rfl⟩ | ⟨g, off, cap', h1, _, _, h2⟩
          · simp at hlt
          · exact ⟨g, off, cap', h1, fun j x hj => HG.out.cell (h2 j x hj)⟩
        injection he with he1 _ he2
        subst he1 he2
        have hcell := hc4 k x hx
        have HX := Lib.hid hx
        clear hc4 hx HV
        have hS1 : ∀ n : GrS wr.drew, n.w.cell? ⟨g, off + k, none⟩ = some (.string x) := fun n => n.h.cell (w := wr.drew) hcell
        have hmn : min (x.size : Int) 60 = ((min x.size 60 : Nat) : Int) := by omega
        go_upto_region 5 with fail
        refine region_grow 13 33 (by kernel_rfl) rfl (by kernel_rfl) rfl rfl ?_
        simp only [List.take_succ_cons, List.take_zero, List.drop_succ_cons, List.drop_zero]
        refine seg 10 rfl rfl rfl rfl ?_
        simp only [List.take_succ_cons, List.take_zero, List.drop_succ_cons, List.drop_zero]
        repeat (go_big_quiet_step (fail))
        refine wpQuiet_nil ?_
        intro _
        refine grow_det (v := .int .i64 ((min x.size 60 : Nat) : Int)) rfl rfl rfl rfl rfl ?_ ?_
        · intro w1 hG
          go_simp
        simp only [Act.put, List.setIfInBounds_toArray, List.set_cons_zero, List.set_cons_succ]
        refine seg 1 rfl rfl rfl rfl ?_
        simp only [List.take_succ_cons, List.take_zero, List.drop_succ_cons, List.drop_zero]
        repeat (go_big_quiet_step (fail))
        refine wpQuiet_nil ?_
        intro _
        refine grow_open (NewRow [.string (cutD x 60)] 9) rfl rfl rfl rfl (stb_row _ _) (fun w1 hG => ?_) ?_
        · go_simp
          exact newRow_alloc _ _ _ rfl
        refine grow_end1 rfl rfl (by decide) ?_
        rintro w8 u hG8 ⟨b2, rfl, hb2⟩
        simp only [Act.put, List.setIfInBounds_toArray, List.set_cons_zero, List.set_cons_succ]
        have hg78 : Gr wr w8 := Gr.trans (Gr.drew wr) hG8
        go_wp2_with ((with_reducible show wpList _ _ _ (⟨some 31, _, _, _, _, _⟩ :: _) _ _); refine wpList_append_Own rfl (.tmp 18) (.tmp 30) 22 rfl 9 i9 (.string ⟨#[]⟩) 1 16 Tryd.underlying22 hi9 hz9 hsz9 hb9 rfl (by decide) rfl (HO.out.gr hg78) ⟨b2, 0, none⟩ 1 1 [.string (cutD x 60)] rfl rfl ?hnewsD ?h1cD (by decide) ?b1D ?b2D ?hBD ?_)
        case hnewsD => exact fun j u hj => match j, hj with
          | 0, hj => one_row hb2 0 u hj
        case h1cD => rfl
        case b1D => unfold maxLen; omega
        case b2D => omega
        case hBD => have := HG.out.size; have := hg78.size; omega
        intro v7 w7 hown hchg _
        have HG7 : Hid (Gr w w7) := Lib.hid (gr_step HG.out hg78 hchg (fun g hg => HO.out.ge hg))
        have HO7 : Hid (Own w.heap.size 1 v7 (k + 1) (sC (fewD l (k + 1))) w7) := Lib.hid (by
          have h := hown
          rw [sC_push] at h
          have e : fewD l k ++ [cutD x 60] = fewD l (k + 1) := by
            unfold fewD; rw [List.take_add_one, HX.out]; simp
          rw [e] at h; exact h)
        clear hown hchg HO HG hS1 hcell hb2 hG8
        go_wp2_with fail
        go_roundw
        case rel => exact ⟨k + 1, _, by omega, by omega, by go_num, rfl, Lib.hid (fun e => by omega), HO7, HG7⟩
        case measure => simp [intOf]; omega
      · have ht2 : decide (k < n) = false := decide_eq_false hln
        have hkn' : k = n := by omega
        have HE : Hid ((fewD l n).length = k) := Lib.hid (by rw [fewD_len]; omega)
        have HO2 : Hid (Own w.heap.size 1 v5 k (sC (fewD l n)) wr) := Lib.hid (by rw [← hkn']; exact HO.out)
        clear hkn' HO
        go_wp2_with fail
        go_ret
        exact ⟨_, rfl, by rw [HE.out]; exact HO2.out, HG.out, fun e => HZ.out (by rw [HE.out] at e; exact e)⟩
    · have ht : decide (k < l.length) = false := decide_eq_false hlt
      have HE : Hid ((fewD l n).length = k) := Lib.hid (by rw [fewD_len]; omega)
      have HO2 : Hid (Own w.heap.size 1 v5 k (sC (fewD l n)) wr) := Lib.hid (by
        have e : fewD l n = fewD l k := by
          unfold fewD; rw [List.take_of_length_le (by omega), List.take_of_length_le (by omega)]
        rw [e]; exact HO.out)
      clear HO
      go_wp2_with fail
      go_ret
      exact ⟨_, rfl, by rw [HE.out]; exact HO2.out, HG.out, fun e => HZ.out (by rw [HE.out] at e; exact e)⟩

/-- v is a slice of strings that came in and holds l -/
def StrsIn (v : Value) (l : List ByteArray) (w : World) : Prop := StrsAt v l w ∨ (l = [] ∧ ∃ p cap, v = .slice p 0 cap)
theorem StrsIn.gr {v : Value} {l : List ByteArray} {w x : World} (h : StrsIn v l w) (hg : Gr w x) : StrsIn v l x := by
  rcases h with h | h
  · exact .inl (h.gr hg)
  · exact .inr h
theorem few_nil (p : Option Addr) (cap n : Nat) (w : World) :
    Calls Tryd.prog 12 #[.slice p 0 cap, .int .i64 (n : Int)] w fun e w' => e = .returned (.slice none 0 0) ∧ w = w' := by
  go_enter Tryd.func12, Tryd.ntmps12
  go_wp2_with fail
  go_loopw [5, 6] (fun v5 v6 W => v6 = .int .i64 0 ∧ v5 = .slice none 0 0 ∧ W = w) (fun _ _ _ => 0)
  case atStart => exact ⟨rfl, rfl, rfl⟩
  case round =>
    obtain ⟨rfl, rfl, rfl⟩ := hrel
    go_wp2_with fail
    go_ret
    exact ⟨rfl, rfl⟩
theorem few_in (v : Value) (l : List ByteArray) (n : Nat) (w : World) (hv : StrsIn v l w) (hn : n ≤ 1000) :
    Calls Tryd.prog 12 #[v, .int .i64 (n : Int)] w fun e w' => ∃ u, e = .returned u ∧ Own w.heap.size 1 u (fewD l n).length (sC (fewD l n)) w' ∧ Gr w w' ∧ ((fewD l n).length = 0 → u = .slice none 0 0) := by
  rcases hv with hv | ⟨rfl, p, cap, rfl⟩
  · exact few_any v l n w hv hn
  · refine (few_nil p cap n w).mono ?_
    rintro e w' ⟨rfl, rfl⟩
    have : fewD [] n = [] := by simp [fewD]
    rw [this]
    exact ⟨_, rfl, Own.nil _ _ _, Gr.refl _, fun _ => rfl⟩
end Go.Proofs.YtbkhkpcnclhoiaaDoor
