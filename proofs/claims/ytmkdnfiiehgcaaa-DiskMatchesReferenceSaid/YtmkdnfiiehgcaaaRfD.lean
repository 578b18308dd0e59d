/- The reference's disk: Sync, Read, has. -/
import Derived.Test.YtmkdnfiiehgcaaaRfC
namespace Go.Proofs.Ytmkdnfiiehgcaaa
open Go Go.RowKit
attribute [local go_sem] gAt gUpon
attribute [local simp] Gr.refl Gr.alloc

theorem rsync_any {S : Nat → Prop} {gx n : Nat} {d : Dk} {w : World} (h : RefAt S gx n d w) (hi : d.inv n) (hn1 : 1 ≤ n) (hn : n ≤ 4194304) (hp : d.pend.length ≤ 1000000) (hS : ∀ k, S k → k < w.heap.size) :
    Calls Try.prog 31 #[.pointer (some ⟨gx, 0, none⟩)] w fun e w' => e = .returned (.int .i64 (syncD d).1) ∧ RefAt (Sx S w w') gx n (syncD d).2 w' ∧ Chs S w w' := by
  have HD := Lib.hid h
  have HV := Lib.hid (visible_any h hi hn1 hn hp)
  obtain ⟨v0, v1, s0, h0, h1, hrow, o0, o1⟩ := h
  obtain ⟨q0, q1, q2, q3, qf⟩ := cells4 hrow
  have hgx : gx < w.heap.size := hS _ s0
  by_cases hoff : d.off = true
  · have e1 : syncD d = (251, d) := sync_off hoff
    rw [e1]
    rw [hoff] at q2
    clear h0 h1 hrow o0 o1 e1 hoff qf q0 q1 q3
    go_enter Try.func31, Try.ntmps31
    go_wp2_with fail
    go_ret
    exact ⟨rfl, HD.out.mono (fun k hk => .inl hk), Chs.refl _ _⟩
  · have hoff' : d.off = false := by simpa using hoff
    have e1 : syncD d = (0, settleD d d.vis) := sync_on hoff'
    rw [e1]
    rw [hoff'] at q2
    have HB := Lib.hid hrow
    have Hoff := Lib.hid hoff'
    clear h0 h1 hrow o0 o1 e1 hoff hoff' qf q0 q1 q3
    go_enter Try.func31, Try.ntmps31
    go_wp2_with fail
    refine HV.out.mono ?_
    rintro e w2 ⟨v, rfl, ho2, hg2⟩
    obtain ⟨p2, c2, rfl⟩ := ho2.slice2
    have hb2 := hg2.block HB.out
    obtain ⟨r0, r1, r2, r3, rf⟩ := cells4 hb2
    have rf0 := rf 0
    have rf1 := rf 1
    have HF : Hid (RefAt (Sx S w ((w2.setCell ⟨gx, 0, none⟩ (.slice p2 n c2)).setCell ⟨gx, 1, none⟩ (.slice none 0 0))) gx n (settleD d d.vis) ((w2.setCell ⟨gx, 0, none⟩ (.slice p2 n c2)).setCell ⟨gx, 1, none⟩ (.slice none 0 0)) ∧ Chs S w ((w2.setCell ⟨gx, 0, none⟩ (.slice p2 n c2)).setCell ⟨gx, 1, none⟩ (.slice none 0 0))) := Lib.hid (by
      have hc : Chs (fun j => j = gx) w2 ((w2.setCell ⟨gx, 0, none⟩ (.slice p2 n c2)).setCell ⟨gx, 1, none⟩ (.slice none 0 0)) := (chs_setCell (S := fun j => j = gx) w2 rfl 0 _).trans (chs_setCell (S := fun j => j = gx) _ rfl 1 _) (fun _ _ h => h)
      have hge : ∀ g, (Value.slice p2 n c2).ownBlock = some g → w.heap.size ≤ g ∧ g < w2.heap.size := fun g hg => by
        refine ⟨own_geJ ho2 hg, ?_⟩
        rcases ho2.2 with ⟨_, h0⟩ | ⟨g', off, cap, he, hB, hn', hcm, hx, hw⟩
        · omega
        · injection he with e1 e2 e3
          rw [e1] at hg
          simp [Value.ownBlock] at hg
          subst hg
          exact isSome_lt (hw 0 (by omega)).1
      refine ⟨⟨_, _, .inl s0, fun g hg => ⟨.inr ⟨(hge g hg).1, ?_⟩, by have := (hge g hg).1; omega⟩, fun g hg => by simp [Value.ownBlock] at hg, row4_set _ (row4_set w2 hb2 _) _, (ho2.mono (Nat.zero_le _)).keepS hc (fun g hg e => by have := (hge g hg).1; omega), Own.nil _ _ _⟩, (Chs.of_gr hg2).trans (hc.mono (S' := S) (fun j e => e ▸ s0)) (fun _ _ h => h)⟩
      rw [World.size_setCell, World.size_setCell]; exact (hge g hg).2)
    clear ho2 hg2 hb2 r2 r3 rf HV HD
    go_wp2_with fail
    go_ret
    exact ⟨rfl, HF.out⟩
set_option maxHeartbeats 1000000 in
theorem rread_any {S : Nat → Prop} {gx n : Nat} {d : Dk} {w : World} (o m : Int) (h : RefAt S gx n d w) (hi : d.inv n) (hn1 : 1 ≤ n) (hn : n ≤ 4194304) (hp : d.pend.length ≤ 1000000) (hob : -9223372036854775808 ≤ o ∧ o ≤ 9223372036854775807) :
    Calls Try.prog 20 #[.pointer (some ⟨gx, 0, none⟩), .int .i64 o, .int .i64 m] w fun e w' => e = .returned (.tuple #[.string (readD d n o m).1, .int .i64 (readD d n o m).2]) ∧ Gr w w' := by
  have HV := Lib.hid (visible_any h hi hn1 hn hp)
  obtain ⟨v0, v1, s0, h0, h1, hrow, o0, o1⟩ := h
  obtain ⟨p0, c0, rfl⟩ := o0.slice2
  obtain ⟨q0, q1, q2, q3, qf⟩ := cells4 hrow
  by_cases hoff : d.off = true
  · have e1 : readD d n o m = (⟨#[]⟩, 251) := read_off hoff
    rw [e1]
    rw [hoff] at q2
    clear h0 h1 hrow o0 o1 e1 hoff qf q0 q1 q3 HV
    go_enter Try.func20, Try.ntmps20
    go_wp2_with fail
    go_ret2
    exact ⟨rfl, Gr.refl _⟩
  · have hoff' : d.off = false := by simpa using hoff
    rw [hoff'] at q2
    by_cases hins : insideD n o m = false
    · have e1 : readD d n o m = (⟨#[]⟩, 250) := by unfold readD; rw [if_neg hoff, if_pos hins]
      have hno : o < 0 ∨ (0 ≤ o ∧ m < 0) ∨ (0 ≤ o ∧ 0 ≤ m ∧ (n : Int) < o) ∨ (0 ≤ o ∧ 0 ≤ m ∧ o ≤ n ∧ (n : Int) - o < m) := by
        unfold insideD at hins
        simp only [Bool.and_eq_false_iff, decide_eq_false_iff_not] at hins
        omega
      rw [e1]
      clear h0 h1 hrow o0 o1 e1 hoff hoff' qf q1 q3 hins HV
      rcases hno with h | ⟨ha, h⟩ | ⟨ha, hb, h⟩ | ⟨ha, hb, hc, h⟩
      · have t1 : decide (o < 0) = true := decide_eq_true h
        clear h
        go_enter Try.func20, Try.ntmps20
        go_wp2_with fail
        go_ret2
        exact ⟨rfl, Gr.refl _⟩
      · have t1 : decide (o < 0) = false := decide_eq_false (by omega)
        have t2 : decide (m < 0) = true := decide_eq_true h
        clear h ha
        go_enter Try.func20, Try.ntmps20
        go_wp2_with fail
        go_ret2
        exact ⟨rfl, Gr.refl _⟩
      · have t1 : decide (o < 0) = false := decide_eq_false (by omega)
        have t2 : decide (m < 0) = false := decide_eq_false (by omega)
        have t3 : decide ((n : Int) < o) = true := decide_eq_true h
        clear h ha hb
        go_enter Try.func20, Try.ntmps20
        go_wp2_with fail
        go_ret2
        exact ⟨rfl, Gr.refl _⟩
      · have t1 : decide (o < 0) = false := decide_eq_false (by omega)
        have t2 : decide (m < 0) = false := decide_eq_false (by omega)
        have t3 : decide ((n : Int) < o) = false := decide_eq_false (by omega)
        have ew : IntKind.i64.wrap ((n : Int) - o) = (n : Int) - o := IntWalk.i64_in _ (by omega)
        have t4 : decide ((n : Int) - o < m) = true := decide_eq_true h
        clear h ha hb hc
        go_enter Try.func20, Try.ntmps20
        go_wp2_with fail
        go_ret2
        exact ⟨rfl, Gr.refl _⟩
    · have hins' : insideD n o m = true := by simpa using hins
      obtain ⟨ho1, ho2, ho3, ho4⟩ := insideD_out hins'
      have e1 : readD d n o m = (⟨((d.vis.drop o.toNat).take m.toNat).toArray⟩, 0) := by unfold readD; rw [if_neg hoff, if_neg hins]
      rw [e1]
      obtain ⟨o', rfl⟩ := Int.eq_ofNat_of_zero_le ho1
      obtain ⟨m', rfl⟩ := Int.eq_ofNat_of_zero_le ho2
      simp only [Int.toNat_natCast]
      have hom : o' + m' ≤ n := by omega
      have t1 : decide ((o' : Int) < 0) = false := decide_eq_false (by omega)
      have t2 : decide ((m' : Int) < 0) = false := decide_eq_false (by omega)
      have t3 : decide ((n : Int) < (o' : Int)) = false := decide_eq_false (by omega)
      have t3' : decide (n < o') = false := decide_eq_false (by omega)
      have ew : IntKind.i64.wrap ((n : Int) - (o' : Int)) = (n : Int) - (o' : Int) := IntWalk.i64_in _ (by omega)
      have t4 : decide ((n : Int) - (o' : Int) < (m' : Int)) = false := decide_eq_false (by omega)
      have ew2 : IntKind.i64.wrap ((o' : Int) + (m' : Int)) = ((o' + m' : Nat) : Int) := by rw [IntWalk.i64_in _ (by omega)]; rfl
      clear h0 h1 hrow o0 o1 e1 hoff hoff' qf q1 q3 hins hins' ho1 ho2 ho3 ho4
      go_enter Try.func20, Try.ntmps20
      go_wp2_with fail
      refine HV.out.mono ?_
      rintro e w2 ⟨v, rfl, ho2, hg2⟩
      obtain ⟨g, off, c, rfl, hnc⟩ : ∃ g off c, v = .slice (some ⟨g, off, none⟩) n c ∧ n ≤ c := by
        rcases ho2.2 with ⟨_, h0⟩ | ⟨g, off, cap, he, hB, hc, hm, hx, hw⟩
        · omega
        · exact ⟨g, off, cap, he, hc⟩
      have HG := Lib.hid hg2
      have hmc : o' + m' ≤ c := by omega
      have hom2 : o' ≤ o' + m' := by omega
      by_cases hoc : o' < c
      · have hbp := own_bytes ho2 hom
        have hcv := Go.Lib.run_convert_whole (P := Try.prog) w2 40 5 9 Try.underlying40 Try.underlying5 Try.underlying9 g (off + o') ⟨((d.vis.drop o').take m').toArray⟩ hbp.1 (c - o')
        rw [hbp.2] at hcv
        obtain ⟨R, hR⟩ : ∃ R, (⟨((d.vis.drop o').take m').toArray⟩ : ByteArray) = R := ⟨_, rfl⟩
        rw [hR] at hcv
        have HR := Lib.hid hR
        clear ho2 hg2 hbp HV hR
        go_wp2_with fail
        go_ret2
        exact ⟨by rw [HR.out]; rfl, HG.out⟩
      · have hoc' : o' = c := by omega
        have hm0 : m' = 0 := by omega
        subst hm0
        have hB0 : Go.Lib.Bytes w2 g off ⟨((d.vis.drop o').take 0).toArray⟩ := by
          intro i hi
          simp [ByteArray.size] at hi
        have hcv := Go.Lib.run_convert_whole (P := Try.prog) w2 40 5 9 Try.underlying40 Try.underlying5 Try.underlying9 g off ⟨((d.vis.drop o').take 0).toArray⟩ hB0 0
        have hs0 : (⟨((d.vis.drop o').take 0).toArray⟩ : ByteArray).size = 0 := by simp [ByteArray.size]
        rw [hs0] at hcv
        obtain ⟨R, hR⟩ : ∃ R, (⟨((d.vis.drop o').take 0).toArray⟩ : ByteArray) = R := ⟨_, rfl⟩
        rw [hR] at hcv
        have HR := Lib.hid hR
        subst hoc'
        clear ho2 hg2 hB0 hs0 HV hR
        go_wp2_with fail
        go_ret2
        exact ⟨by rw [HR.out]; rfl, HG.out⟩
theorem has_any (v : Value) (keep : List Int) (x : Int) (w : World) {n₀ : Nat} (hz : IntsBelow n₀ v keep w) (hk : keep.length ≤ 1000000) :
    Calls Try.prog 43 #[v, .int .i64 x] w fun e w' => e = .returned (.bool (decide (x ∈ keep))) ∧ w = w' := by
  obtain ⟨p, c, rfl⟩ := ints_slice hz
  have HZ := Lib.hid hz
  clear hz
  go_enter Try.func43, Try.ntmps43
  go_wp2_with fail
  go_loop [5] (fun v5 => ∃ k : Nat, k ≤ keep.length ∧ v5 = .int .i64 (k : Int) ∧ Hid (x ∉ keep.take k)) (fun v5 => keep.length - (intOf v5).toNat)
  case atStart => exact ⟨0, Nat.zero_le _, rfl, Lib.hid (by simp)⟩
  case round =>
    obtain ⟨k, hkl, rfl, HN⟩ := hrel
    by_cases hlt : k < keep.length
    · have tk : decide (k < keep.length) = true := decide_eq_true hlt
      obtain ⟨y, hy⟩ : ∃ y, keep[k]? = some y := ⟨_, List.getElem?_eq_getElem hlt⟩
      obtain ⟨g, off, rfl, hkc, c0⟩ : ∃ g off, p = some ⟨g, off, none⟩ ∧ keep.length ≤ keep.length ∧ w.cell? ⟨g, off + k, none⟩ = some (.int .i64 y) := by
        rcases HZ.out with ⟨h0, _⟩ | ⟨b, off, cap, he, _, hc⟩
        · subst h0; simp at hlt
        · injection he with e1 e2 e3
          exact ⟨b, off, e1, Nat.le_refl _, hc k y hy⟩
      have HY := Lib.hid hy
      clear hy hkc
      by_cases hyx : y = x
      · have t1 : (y == x) = true := by rw [beq_iff_eq]; exact hyx
        have HE : Hid (decide (x ∈ keep) = true) := Lib.hid (decide_eq_true (by rw [← hyx]; exact List.mem_of_getElem? HY.out))
        clear hyx
        go_wp2_with fail
        go_ret
        exact ⟨by rw [HE.out]; rfl, rfl⟩
      · have t1 : (y == x) = false := by rw [beq_eq_false_iff_ne]; exact hyx
        have HN2 : Hid (x ∉ keep.take (k + 1)) := Lib.hid (by
          rw [List.take_add_one, HY.out, Option.toList_some, List.mem_append]
          rintro (h | h)
          · exact HN.out h
          · simp at h; exact hyx h.symm)
        clear hyx
        go_wp2_with fail
        go_round
        case rel => exact ⟨k + 1, by omega, by go_num, HN2⟩
        case measure => simp [intOf]; omega
    · have tk : decide (k < keep.length) = false := decide_eq_false hlt
      have HE : Hid (decide (x ∈ keep) = false) := Lib.hid (decide_eq_false (by have := HN.out; rwa [List.take_of_length_le (by omega)] at this))
      go_wp2_with fail
      go_ret
      exact ⟨by rw [HE.out]; rfl, rfl⟩
end Go.Proofs.Ytmkdnfiiehgcaaa
