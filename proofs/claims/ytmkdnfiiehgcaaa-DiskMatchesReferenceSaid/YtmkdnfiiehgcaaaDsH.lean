/- The order of a crash: the library's Values, Collect, Sorted, Compact, DeleteFunc over the numbers that survive. -/
import Derived.Test.YtmkdnfiiehgcaaaDsG
import Derived.Test.YtmkdnfiiehgcaaaShelf
namespace Go.Proofs.Ytmkdnfiiehgcaaa
open Go.RowKit Go.Shelf Go.Sort

theorem values_any (p : Option Addr) (n c : Nat) (w : World) : Calls Try.prog 40 #[.slice p n c] w fun e w' =>
    e = .returned (.func (.func 47) #[] #[.pointer (some ⟨w.heap.size, 0, none⟩)]) ∧ w.alloc (.cells #[.slice p n c] 37) = w' := by
  go_enter Try.func40, Try.ntmps40
  go_wp2
  go_ret
  exact ⟨rfl, rfl⟩
theorem collect_any (Bs : Nat) (v : Value) (zs : List Int) (hmax : zs.length ≤ 1000000) (w : World) (hBs : Bs < w.heap.size) (hc : w.cell? ⟨Bs, 0, none⟩ = some v) (hz : IntsBelow w.heap.size v zs w) :
    Calls Try.prog 45 #[.func (.func 47) #[] #[.pointer (some ⟨Bs, 0, none⟩)]] w fun e W' => ∃ u, e = .returned u ∧ Own w.heap.size 1 u zs.length (iC zs) W' ∧ Gr w W' := by
  have HA := Lib.hid (appendSeq_any Bs v zs hmax w hBs hc hz)
  clear hc hz
  go_enter Try.func45, Try.ntmps45
  go_wp2_with fail
  refine HA.out.mono ?_
  rintro e w1 ⟨u, rfl, hr, hb⟩
  have HO : Hid (Own w.heap.size 1 u zs.length (iC zs) w1) := Lib.hid (Own.of_row hr)
  have HG : Hid (Gr w w1) := Lib.hid hb
  clear hr hb HA
  go_wp2_with fail
  go_ret
  exact ⟨_, rfl, HO.out, HG.out⟩
def sortI (zs : List Int) : List Int := zs.mergeSort fun x y => decide (x ≤ y)
theorem sortI_length (zs : List Int) : (sortI zs).length = zs.length := List.length_mergeSort _
theorem sort_any {B n : Nat} {u : Value} {zs : List Int} {w : World} (h : Own B 1 u n (iC zs) w) (hn : n ≤ 1000000) :
    Calls Try.prog 46 #[u] w fun e w' => e = .returned (.tuple #[]) ∧ Own B 1 u n (iC (sortI zs)) w' ∧ Chg u.ownBlock w w' := by
  have hl := h.1
  rw [iC_length, Nat.mul_one] at hl
  by_cases h0 : n = 0
  · subst h0
    have hz : zs = [] := List.eq_nil_of_length_eq_zero hl
    subst hz
    obtain ⟨p, c, rfl⟩ := h.slice2
    refine (Try.slices_Sort_int_none p c w).mono ?_
    rintro e w' ⟨rfl, rfl⟩
    have e : sortI [] = [] := List.eq_nil_of_length_eq_zero (sortI_length [])
    rw [e]
    exact ⟨rfl, h, Chg.of_gr (Gr.refl _)⟩
  · rcases h.2 with ⟨_, h1⟩ | ⟨g, off, cap, rfl, hB, hc, hm, hx, hw⟩
    · exact absurd h1 h0
    · have hg : g < w.heap.size := isSome_lt (hw 0 (by omega)).1
      have hs := Try.slices_Sort_int g off cap zs w (own_holds h) hg (by omega)
      rw [hl] at hs
      refine hs.mono ?_
      rintro e w' ⟨rfl, q, os, rfl⟩
      have := own_row_put (q := q) (os := os) h (ys := sortI zs) (by rw [sortI_length]; exact hl)
      exact ⟨rfl, this.1, this.2⟩
theorem sorted_any (Bs : Nat) (v : Value) (zs : List Int) (hmax : zs.length ≤ 1000000) (w : World) (hBs : Bs < w.heap.size) (hc : w.cell? ⟨Bs, 0, none⟩ = some v) (hz : IntsBelow w.heap.size v zs w) :
    Calls Try.prog 39 #[.func (.func 47) #[] #[.pointer (some ⟨Bs, 0, none⟩)]] w fun e W' => ∃ u, e = .returned u ∧ Own w.heap.size 1 u zs.length (iC (sortI zs)) W' ∧ Gr w W' := by
  have HA := Lib.hid (collect_any Bs v zs hmax w hBs hc hz)
  clear hc hz
  go_enter Try.func39, Try.ntmps39
  go_wp2_with fail
  refine HA.out.mono ?_
  rintro e w1 ⟨u, rfl, hO, hg⟩
  have HS := Lib.hid (sort_any hO hmax)
  have HU : Hid (∀ g, u.ownBlock = some g → w.heap.size ≤ g) := Lib.hid (fun g hg => by
    rcases hO.2 with ⟨rfl, _⟩ | ⟨g', off, cap, rfl, hB, _⟩
    · simp [Value.ownBlock] at hg
    · simp [Value.ownBlock] at hg; subst hg; exact hB)
  have HG := Lib.hid hg
  clear hO hg HA
  go_wp2_with fail
  refine HS.out.mono ?_
  rintro e w2 ⟨rfl, hO2, hc2⟩
  have HO2 := Lib.hid hO2
  have HG2 : Hid (Gr w w2) := Lib.hid (Below.trans HG.out (hc2.below HU.out HG.out.size))
  clear hO2 hc2 HS HG
  go_wp2_with fail
  go_ret
  exact ⟨_, rfl, HO2.out, HG2.out⟩
theorem compact_len (zs : List Int) : (Go.Lib.compact zs).length ≤ zs.length := Go.Lib.compact_length_le zs
theorem compact_any {B n : Nat} {u : Value} {zs : List Int} {w : World} (h : Own B 1 u n (iC zs) w) (hn : n ≤ 1000000) :
    Calls Try.prog 38 #[u] w fun e w' => ∃ u', e = .returned u' ∧ Own B 1 u' (Go.Lib.compact zs).length (iC (Go.Lib.compact zs)) w' ∧ Chg u.ownBlock w w' ∧ ∀ g, u'.ownBlock = some g → u.ownBlock = some g := by
  have hl := h.1
  rw [iC_length, Nat.mul_one] at hl
  by_cases h0 : n = 0
  · subst h0
    have hz : zs = [] := List.eq_nil_of_length_eq_zero hl
    subst hz
    obtain ⟨p, c, rfl⟩ := h.slice2
    refine (Try.slices_Compact_int_empty p c w).mono ?_
    rintro e w' ⟨rfl, rfl⟩
    have e : Go.Lib.compact ([] : List Int) = [] := List.eq_nil_of_length_eq_zero (Nat.le_zero.mp (compact_len []))
    rw [e]
    exact ⟨_, rfl, h, Chg.of_gr (Gr.refl _), fun g hg => hg⟩
  · rcases h.2 with ⟨_, h1⟩ | ⟨g, off, cap, rfl, hB, hc, hm, hx, hw⟩
    · exact absurd h1 h0
    · have hs := Try.slices_Compact_int g off cap zs w (own_holds h) (by omega) (by omega)
      rw [hl] at hs
      refine hs.mono ?_
      rintro e w' ⟨rfl, q, rfl⟩
      have hcl := compact_len zs
      have := own_row_put (q := q) (os := #[]) h (ys := Go.Lib.compact zs ++ List.replicate (n - (Go.Lib.compact zs).length) 0) (by simp; omega)
      rw [grow_empty] at this
      obtain ⟨h1, h2⟩ := this
      have h3 := own_first h1 (m := (Go.Lib.compact zs).length) (by omega)
      have e : (iC (Go.Lib.compact zs ++ List.replicate (n - (Go.Lib.compact zs).length) 0)).take (Go.Lib.compact zs).length = iC (Go.Lib.compact zs) := by
        simp [iC]
      rw [e] at h3
      exact ⟨_, rfl, h3, h2, fun g' hg => hg⟩
end Go.Proofs.Ytmkdnfiiehgcaaa
