/- The contract of the reference tree's Root. -/
import Derived.Test.YtjnnhhengpinmaaGreatDoorRoot
import Derived.Test.YtjnnhhengpinmaaGreatDoorRefC
namespace Go.Proofs.YtjnnhhengpinmaaGreatDoor
open Go.RowKit Go.Shelf
attribute [local go_sem] gAt gUpon
attribute [local simp] Gr.refl Gr.alloc

theorem StrsAt.cut {p : Option Addr} {n cap : Nat} {l : List ByteArray} {w : World} (h : StrsAt (.slice p n cap) l w) (hn : 0 < n) :
    ∃ g off, p = some ⟨g, off, none⟩ ∧ n = l.length ∧ n ≤ cap ∧ cap ≤ maxLen ∧ ∀ k, k ≤ n → StrsAt (.slice (some ⟨g, off, none⟩) k cap) (l.take k) w ∧ StrsAt (.slice (some ⟨g, off + k, none⟩) (n - k) (cap - k)) (l.drop k) w := by
  rcases h with ⟨h, rfl⟩ | ⟨g, off, cap', h, h1, h2, h3⟩
  · injection h; omega
  · injection h with e1 e2 e3
    subst e1 e3 e2
    refine ⟨g, off, rfl, rfl, h1, h2, fun k hk => ⟨.inr ⟨g, off, cap, by rw [List.length_take, Nat.min_eq_left hk], by rw [List.length_take]; omega, h2, ?_⟩, .inr ⟨g, off + k, cap - k, by rw [List.length_drop], by rw [List.length_drop]; omega, by omega, ?_⟩⟩⟩
    · intro j x hj
      rw [List.getElem?_take] at hj
      split at hj
      · exact h3 j x hj
      · cases hj
    · intro j x hj
      rw [List.getElem?_drop] at hj
      rw [Nat.add_assoc]; exact h3 _ x hj

set_option maxRecDepth 100000 in
set_option maxHeartbeats 1000000 in
theorem rootR_aux : ∀ (N : Nat) (v : Value) (l : List ByteArray) (w : World), l.length ≤ N → l.length ≤ 100000 → StrsAt v l w → (∀ x ∈ l, x.size ≤ 140737488353000) →
    Calls Tryz.prog 57 #[v] w fun e w' => e = .returned (.string (rootD l)) ∧ Gr w w' := by
  intro N
  induction N with
  | zero =>
    intro v l w hN _ hv _
    obtain ⟨p, cap, rfl⟩ := hv.shape
    have hl : l = [] := List.eq_nil_of_length_eq_zero (by omega)
    subst hl
    have HS := Lib.hid (sumR_any ⟨#[]⟩ w (by decide))
    clear hv hN
    go_enter Tryz.func57, Tryz.ntmps57
    go_wp2_with fail
    refine HS.out.mono ?_
    rintro e w1 ⟨rfl, hg⟩
    have HG := Lib.hid hg
    clear hg HS
    go_wp2_with fail
    go_ret
    exact ⟨rfl, HG.out⟩
  | succ N ih =>
    intro v l w hN hb hv hs
    by_cases h0 : l.length = 0
    · obtain ⟨p, cap, rfl⟩ := hv.shape
      have hl : l = [] := List.eq_nil_of_length_eq_zero h0
      subst hl
      have HS := Lib.hid (sumR_any ⟨#[]⟩ w (by decide))
      clear hv hN ih h0
      go_enter Tryz.func57, Tryz.ntmps57
      go_wp2_with fail
      refine HS.out.mono ?_
      rintro e w1 ⟨rfl, hg⟩
      have HG := Lib.hid hg
      clear hg HS
      go_wp2_with fail
      go_ret
      exact ⟨rfl, HG.out⟩
    rcases hv with ⟨_, rfl⟩ | ⟨g, o, c, rfl, hc1, hc2, hcell⟩
    · exact (h0 rfl).elim
    by_cases h1 : l.length = 1
    · obtain ⟨x, rfl⟩ := List.length_eq_one_iff.1 h1
      have hcx : w.cell? ⟨g, o, none⟩ = some (.string x) := hcell 0 x rfl
      have HL := Lib.hid (leafR_any x w (hs x (by simp)))
      have HR := Lib.hid (rootD_one x)
      clear hcell ih h0 h1 hN hs hb
      go_enter Tryz.func57, Tryz.ntmps57
      go_wp2_with fail
      refine HL.out.mono ?_
      rintro e w1 ⟨rfl, hg⟩
      have HG := Lib.hid hg
      clear hg HL
      go_wp2_with fail
      go_ret
      exact ⟨by rw [HR.out]; rfl, HG.out⟩
    · have hls := lp_spec l.length (by omega)
      have hlp := hls.1
      have hlp0 := lp_pos l.length
      have hcut := StrsAt.cut (p := some ⟨g, o, none⟩) (cap := c) (l := l) (w := w) (.inr ⟨g, o, c, rfl, hc1, hc2, hcell⟩) (by omega)
      obtain ⟨g', o', e', -, -, -, hcut⟩ := hcut
      injection e' with e'
      injection e' with e1 e2
      subst e1 e2
      have HCut := Lib.hid (hcut (lp l.length) (by omega))
      have HLf := Lib.hid (fun w => refLeft_any l.length (by omega) (by omega) w)
      have HA1 : Hid (∀ w', Gr w.drew w' → Calls Tryz.prog 57 #[.slice (some ⟨g, o, none⟩) (lp l.length) c] w' fun e w'' => e = .returned (.string (rootD (l.take (lp l.length)))) ∧ Gr w' w'') := Lib.hid (fun w' hg =>
        ih _ (l.take (lp l.length)) w' (by rw [List.length_take]; omega) (by rw [List.length_take]; omega) (HCut.out.1.gr (Gr.trans (Gr.drew w) hg)) (fun x hx => hs x (List.mem_of_mem_take hx)))
      have HA2 : Hid (∀ w', Gr w.drew w' → Calls Tryz.prog 57 #[.slice (some ⟨g, o + lp l.length, none⟩) (l.length - lp l.length) (c - lp l.length)] w' fun e w'' => e = .returned (.string (rootD (l.drop (lp l.length)))) ∧ Gr w' w'') := Lib.hid (fun w' hg =>
        ih _ (l.drop (lp l.length)) w' (by rw [List.length_drop]; omega) (by rw [List.length_drop]; omega) (HCut.out.2.gr (Gr.trans (Gr.drew w) hg)) (fun x hx => hs x (List.mem_of_mem_drop hx)))
      have HA3 : Hid (∀ w', Gr w.drew w' → Calls Tryz.prog 55 #[.string (rootD (l.take (lp l.length))), .string (rootD (l.drop (lp l.length)))] w' fun e w'' => e = .returned (.string (rootD l)) ∧ Gr w' w'') := Lib.hid (fun w' hg => by
        rw [rootD_split l (by omega)]; exact nodeR_any _ _ w' (by rw [rootD_size, rootD_size]; omega))
      have ht0 : ((l.length : Int) == 0) = false := by rw [beq_eq_false_iff_ne]; omega
      have ht1 : ((l.length : Int) == 1) = false := by rw [beq_eq_false_iff_ne]; omega
      clear hcut HCut hcell ih hs hls hN
      generalize rootD l = R at *
      generalize rootD (l.take (lp l.length)) = RA at *
      generalize rootD (l.drop (lp l.length)) = RB at *
      generalize lp l.length = K at *
      generalize l.length = n at *
      clear h0 h1
      go_enter Tryz.func57, Tryz.ntmps57
      go_wp2_with fail
      refine (HLf.out _).mono ?_
      rintro e w1 ⟨rfl, rfl⟩
      go_upto_region 6 with fail
      refine region_grow 9 27 (by kernel_rfl) rfl (by kernel_rfl) rfl rfl ?_
      simp only [List.take_succ_cons, List.take_zero, List.drop_succ_cons, List.drop_zero]
      refine seg 3 rfl rfl rfl rfl ?_
      simp only [List.take_succ_cons, List.take_zero, List.drop_succ_cons, List.drop_zero]
      repeat (go_big_quiet_step (fail))
      refine wpQuiet_nil ?_
      intro _
      refine grow_det (v := .string RA) rfl rfl rfl rfl rfl ?_ ?_
      · intro w1 hG
        go_simp
        refine (HA1.out w1 hG).mono ?_
        rintro e w' ⟨rfl, hb⟩
        exact ⟨rfl, hb⟩
      simp only [Act.put, List.setIfInBounds_toArray, List.set_cons_zero, List.set_cons_succ]
      refine seg 3 rfl rfl rfl rfl ?_
      simp only [List.take_succ_cons, List.take_zero, List.drop_succ_cons, List.drop_zero]
      repeat (go_big_quiet_step (fail))
      refine wpQuiet_nil ?_
      intro _
      refine grow_det (v := .string RB) rfl rfl rfl rfl rfl ?_ ?_
      · intro w1 hG
        go_simp
        refine (HA2.out w1 hG).mono ?_
        rintro e w' ⟨rfl, hb⟩
        exact ⟨rfl, hb⟩
      simp only [Act.put, List.setIfInBounds_toArray, List.set_cons_zero, List.set_cons_succ]
      refine grow_det (v := .string R) rfl rfl rfl rfl rfl ?_ ?_
      · intro w1 hG
        go_simp
        refine (HA3.out w1 hG).mono ?_
        rintro e w' ⟨rfl, hb⟩
        exact ⟨rfl, hb⟩
      simp only [Act.put, List.setIfInBounds_toArray, List.set_cons_zero, List.set_cons_succ]
      refine grow_end0 rfl rfl ?_
      intro w2 hG
      have HG : Hid (Gr w w2) := Lib.hid (Gr.trans (Gr.drew w) hG)
      clear hG HA1 HA2 HA3 HLf
      go_wp2_with fail
      go_ret
      exact ⟨rfl, HG.out⟩
theorem rootR_any (v : Value) (l : List ByteArray) (w : World) (hv : StrsAt v l w) (hl : l.length ≤ 100000) (hs : ∀ x ∈ l, x.size ≤ 140737488353000) :
    Calls Tryz.prog 57 #[v] w fun e w' => e = .returned (.string (rootD l)) ∧ Gr w w' := rootR_aux _ v l w (Nat.le_refl _) hl hv hs

end Go.Proofs.YtjnnhhengpinmaaGreatDoor
