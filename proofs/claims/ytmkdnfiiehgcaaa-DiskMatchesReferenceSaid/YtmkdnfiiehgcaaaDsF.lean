/- The contract of the disk's Read. -/
import Derived.Test.YtmkdnfiiehgcaaaDsE
import Derived.Lib.SlBytesRow
namespace Go.Proofs.Ytmkdnfiiehgcaaa
open Go.RowKit
attribute [local go_sem] gAt gUpon
attribute [local simp] Gr.refl Gr.alloc

/-- what Read hands back -/
def readD (d : Dk) (n : Nat) (o m : Int) : ByteArray × Int := if d.off = true then (⟨#[]⟩, 251) else if insideD n o m = false then (⟨#[]⟩, 250) else (⟨((d.vis.drop o.toNat).take m.toNat).toArray⟩, 0)
theorem bytes_part {g n o m : Nat} {b : List UInt8} {w : World} (h : ByRow 5 g b w) (hb : b.length = n) (hm : o + m ≤ n) : Go.Lib.Bytes w g o ⟨((b.drop o).take m).toArray⟩ ∧ (⟨((b.drop o).take m).toArray⟩ : ByteArray).size = m := by
  have hl : ((b.drop o).take m).length = m := by rw [List.length_take, List.length_drop]; omega
  refine ⟨?_, by show ((b.drop o).take m).toArray.size = m; simp [hl]⟩
  intro i hi
  have hi' : i < m := by
    have : (⟨((b.drop o).take m).toArray⟩ : ByteArray).size = m := by show ((b.drop o).take m).toArray.size = m; simp [hl]
    omega
  have hx : b[o + i]? = some (b[o + i]'(by omega)) := List.getElem?_eq_getElem (by omega)
  rw [h.get (o + i) _ hx]
  have : (⟨((b.drop o).take m).toArray⟩ : ByteArray)[i] = b[o + i]'(by omega) := by
    show ((b.drop o).take m).toArray[i]'_ = _
    simp
  rw [this]
set_option maxHeartbeats 1000000 in
theorem read_any {S : Nat → Prop} {gd n : Nat} {d : Dk} {w : World} (o m : Int) (h : DkAt S gd n d w) (hi : d.inv n) (hn : n ≤ 4194304) (hob : -9223372036854775808 ≤ o ∧ o ≤ 9223372036854775807) :
    Calls Try.prog 14 #[.pointer (some ⟨gd, 0, none⟩), .int .i64 o, .int .i64 m] w fun e w' => e = .returned (.tuple #[.string (readD d n o m).1, .int .i64 (readD d n o m).2]) ∧ w = w' := by
  have HC := Lib.hid (check_any h)
  have HI := Lib.hid (inside_any o m h hn hob)
  obtain ⟨g1, g2, vp, s0, s1, s2, n1, n2, n3, hv, hb, h1, h2, ho⟩ := h
  by_cases hoff : d.off = true
  · have e1 : readD d n o m = (⟨#[]⟩, 251) := by unfold readD; rw [if_pos hoff]
    rw [e1]
    rw [if_pos hoff] at HC
    clear hv hb h1 h2 ho e1 hoff hi HI
    go_enter Try.func14, Try.ntmps14
    go_wp2_with fail
    refine HC.out.mono ?_
    rintro e w1 ⟨rfl, rfl⟩
    go_wp2_with fail
    go_ret2
    exact ⟨rfl, rfl⟩
  · rw [if_neg hoff] at HC
    by_cases hins : insideD n o m = false
    · have e1 : readD d n o m = (⟨#[]⟩, 250) := by unfold readD; rw [if_neg hoff, if_pos hins]
      rw [e1]
      rw [hins] at HI
      clear hv hb h1 h2 ho e1 hoff hi hins
      go_enter Try.func14, Try.ntmps14
      go_wp2_with fail
      refine HC.out.mono ?_
      rintro e w1 ⟨rfl, rfl⟩
      go_wp2_with fail
      refine HI.out.mono ?_
      rintro e w1 ⟨rfl, rfl⟩
      go_wp2_with fail
      go_ret2
      exact ⟨rfl, rfl⟩
    · have hins' : insideD n o m = true := by simpa using hins
      obtain ⟨ho1, ho2, ho3, ho4⟩ := insideD_out hins'
      have e1 : readD d n o m = (⟨((d.vis.drop o.toNat).take m.toNat).toArray⟩, 0) := by unfold readD; rw [if_neg hoff, if_neg hins]
      rw [e1]
      rw [hins'] at HI
      obtain ⟨o', rfl⟩ := Int.eq_ofNat_of_zero_le ho1
      obtain ⟨m', rfl⟩ := Int.eq_ofNat_of_zero_le ho2
      obtain ⟨-, -, -, c3, -⟩ := cells5 hb
      simp only [Int.toNat_natCast]
      have hom : o' + m' ≤ n := by omega
      have hbp := bytes_part h2 hi.2.1 hom
      have hmn : m' ≤ n - o' := by omega
      by_cases hon : o' < n
      · have hcv := Go.Lib.run_convert_whole (P := Try.prog) w 40 5 9 Try.underlying40 Try.underlying5 Try.underlying9 g2 o' ⟨((d.vis.drop o').take m').toArray⟩ hbp.1 (n - o')
        rw [hbp.2] at hcv
        have hon' : o' ≤ n := by omega
        generalize (⟨((d.vis.drop o').take m').toArray⟩ : ByteArray) = R at hcv ⊢
        clear hv hb h1 h2 ho e1 hoff hi hins hins' hbp ho1 ho2 ho3 ho4
        go_enter Try.func14, Try.ntmps14
        go_wp2_with fail
        refine HC.out.mono ?_
        rintro e w1 ⟨rfl, rfl⟩
        go_wp2_with fail
        refine HI.out.mono ?_
        rintro e w1 ⟨rfl, rfl⟩
        clear HC HI
        go_wp2_with fail
        go_ret2
        exact ⟨rfl, rfl⟩
      · have hon' : o' = n := by omega
        have hm0 : m' = 0 := by omega
        subst hon' hm0
        have hB0 : Go.Lib.Bytes w g2 0 ⟨((d.vis.drop o').take 0).toArray⟩ := by
          intro i hi
          simp [ByteArray.size] at hi
        have hcv := Go.Lib.run_convert_whole (P := Try.prog) w 40 5 9 Try.underlying40 Try.underlying5 Try.underlying9 g2 0 ⟨((d.vis.drop o').take 0).toArray⟩ hB0 0
        rw [hbp.2] at hcv
        generalize (⟨((d.vis.drop o').take 0).toArray⟩ : ByteArray) = R at hcv ⊢
        clear hv hb h1 h2 ho e1 hoff hi hins hins' hbp ho1 ho2 ho3 ho4 hB0
        go_enter Try.func14, Try.ntmps14
        go_wp2_with fail
        refine HC.out.mono ?_
        rintro e w1 ⟨rfl, rfl⟩
        go_wp2_with fail
        refine HI.out.mono ?_
        rintro e w1 ⟨rfl, rfl⟩
        clear HC HI
        go_wp2_with fail
        go_ret2
        exact ⟨rfl, rfl⟩
end Go.Proofs.Ytmkdnfiiehgcaaa
