/- The contract of content.Property at the texts and at the marks. -/
import Derived.Test.YtakhomofckcckaaGreatDoorTxD
import Derived.Test.YtakhomofckcckaaGreatDoorHdA
namespace Go.Proofs.YtakhomofckcckaaGreatDoor
open Go Go.RowKit Go.Shelf
attribute [local go_sem] gAt gUpon
attribute [local simp] Gr.refl Gr.alloc

theorem preB_ne (n : Nat) (hn : n ≤ 64) : preB n ≠ [] := by
  unfold preB
  intro h
  have h1 : (numB n).data.toList.length = 0 := by rw [h]; rfl
  have h2 : ∀ n, n < 65 → ¬ (numB n).data.toList.length = 0 := by decide +kernel
  exact h2 n (by omega) h1
theorem propB_ne (f : Ln → List UInt8) (n : Nat) (ls : List Ln) (hn : n ≤ 64) : propB f n ls ≠ [] := by
  unfold propB
  intro h
  exact preB_ne n hn (List.append_eq_nil_iff.1 h).1
/-- what Property hands back -/
def PropIs (f : Ln → List UInt8) (ls : List Ln) (w : World) (e : Ending) (w' : World) : Prop := e = .returned (.tuple #[.string ⟨(propB f ls.length ls).toArray⟩, .int .i64 0]) ∧ Gr w w'
set_option maxRecDepth 100000 in
set_option maxHeartbeats 4000000 in
theorem property1_any (v1 v2 : Value) (ls : List Ln) (cs : List Ce) (wd : Int) (bits : ByteArray) (w : World) (hd : DocIn v1 v2 ls cs w) (h : validB ls cs wd bits = true) :
    Calls Tryz.prog 27 #[.agg #[v1, v2, .int .i64 wd, .string bits], .int .i64 1] w (PropIs txB ls w) := by
  obtain ⟨p1, c1, rfl⟩ := hd.1.shape
  obtain ⟨p2, c2, rfl⟩ := hd.2.shape
  obtain ⟨hb1, hb2, hb3, hb4⟩ := validB_bounds h
  have hvl := validB_lines h
  have hls := List.all_eq_true.1 hvl.2
  have hn := hvl.1
  have HD := Lib.hid hd
  have HV := Lib.hid (fun y (hg : Gr w y) => valid_any (.slice p1 ls.length c1) (.slice p2 cs.length c2) ls cs wd bits y (hd.gr hg) (by omega) (by omega) (by omega) (by omega))
  rw [h] at HV
  have HW := Lib.hid (fun K b y (hg : Gr w y) hK hB => prop1_bld K b (.slice p1 ls.length c1) (.slice p2 cs.length c2) wd bits ls w y hd.1 hg hK hB hn hls)
  have HNe := Lib.hid (propB_ne txB ls.length ls hn)
  clear hd h hvl hls hb1 hb2 hb3 hb4
  go_enter Tryz.func27, Tryz.ntmps27
  go_upto_region 1 with fail
  refine wp_gen (F := fun y => Gr w y ∧ y.heap[w.heap.size]? = some (.cells #[.slice p1 ls.length c1, .slice p2 cs.length c2, .int .i64 wd, .string bits] 25 (0, 0))) ⟨Gr.alloc _ _, heap_alloc_new _ _⟩ ?_
  rintro wA ⟨hgA, hrA⟩
  have HGA := Lib.hid hgA
  have HRA := Lib.hid hrA
  generalize w.heap.size = g0 at HRA hrA ⊢
  clear hgA hrA
  go_wp2_with fail
  refine (props_any wA).mono ?_
  rintro e w1 ⟨gm, rfl, hf1, hg1⟩
  have hlook := hf1.look 1 (by decide) 85 propsD1
  obtain ⟨k0, k1, k2, k3⟩ := row4 (hg1.block HRA.out)
  have HR1 := Lib.hid (hg1.block HRA.out)
  have HG1 := Lib.hid (HGA.out.trans hg1)
  clear hf1 hg1 HRA HGA
  go_wp2_with fail
  refine (HV.out _ HG1.out).mono ?_
  rintro e w2 ⟨rfl, hg2⟩
  obtain ⟨k0, k1, k2, k3⟩ := row4 (hg2.block HR1.out)
  have HR2 := Lib.hid (hg2.block HR1.out)
  have HG2 := Lib.hid (HG1.out.trans hg2)
  clear hlook hg2 HV HR1 HG1
  go_upto_region 5 with fail
  obtain ⟨gb, hgb⟩ : ∃ g, g = w2.heap.size := ⟨_, rfl⟩
  refine wp_gen (F := fun y => Gr w2 y ∧ Bld (fun k => k < w2.heap.size) gb [] y) ⟨Gr.alloc _ _, by rw [hgb]; exact Bld.made w2 _ (fun k hk => hk)⟩ ?_
  rw [← hgb]
  rintro w3 ⟨hg3, hB3⟩
  have HB3 := Lib.hid hB3
  have HG3 := Lib.hid (HG2.out.trans hg3)
  have HG23 := Lib.hid hg3
  have HK3 : Hid (∀ k, k < w.heap.size → k < gb) := Lib.hid (fun k hk => by rw [hgb]; exact Nat.lt_of_lt_of_le hk HG2.out.size)
  have HGB := Lib.hid hgb
  have HZ : Hid (w2.heap.size ≤ w3.heap.size) := Lib.hid hg3.size
  obtain ⟨k0, k1, k2, k3⟩ := row4 (hg3.block HR2.out)
  clear hg3 hB3 HR2 hgb
  go_wp2_with fail
  refine (HW.out _ gb _ HG3.out HK3.out HB3.out).mono ?_
  rintro e w4 hw4
  obtain ⟨rfl, hB4, hK4⟩ := hw4
  have HB4 := Lib.hid hB4
  have HK4 := Lib.hid hK4
  obtain ⟨p, v, hp, hb, -⟩ := hB4
  have c0 : w4.cell? ⟨gb, 0, none⟩ = some p := by rw [cell_of_row _ _ _ _ _ _ hb]; rfl
  clear hK4 hp hb HB3 k0 k1 k2 k3
  go_wp2_with fail
  refine (string_bld _ gb _ w4 HB4.out HNe.out).mono ?_
  rintro e w5 ⟨rfl, hk5⟩
  have HFin : Hid (Gr w w5) := Lib.hid (HG2.out.trans (Below.trans HG23.out (by have h := (HK4.out.trans hk5).gr; rw [HGB.out] at h; exact h)))
  clear hk5 HB4 HK4 c0
  go_wp2_with fail
  go_ret2
  exact ⟨rfl, HFin.out⟩
set_option maxRecDepth 100000 in
set_option maxHeartbeats 4000000 in
theorem property2_any (v1 v2 : Value) (ls : List Ln) (cs : List Ce) (wd : Int) (bits : ByteArray) (w : World) (hd : DocIn v1 v2 ls cs w) (h : validB ls cs wd bits = true) :
    Calls Tryz.prog 27 #[.agg #[v1, v2, .int .i64 wd, .string bits], .int .i64 2] w (PropIs mkB ls w) := by
  obtain ⟨p1, c1, rfl⟩ := hd.1.shape
  obtain ⟨p2, c2, rfl⟩ := hd.2.shape
  obtain ⟨hb1, hb2, hb3, hb4⟩ := validB_bounds h
  have hvl := validB_lines h
  have hls := List.all_eq_true.1 hvl.2
  have hn := hvl.1
  have HD := Lib.hid hd
  have HV := Lib.hid (fun y (hg : Gr w y) => valid_any (.slice p1 ls.length c1) (.slice p2 cs.length c2) ls cs wd bits y (hd.gr hg) (by omega) (by omega) (by omega) (by omega))
  rw [h] at HV
  have HW := Lib.hid (fun K b y (hg : Gr w y) hK hB => prop2_bld K b (.slice p1 ls.length c1) (.slice p2 cs.length c2) wd bits ls w y hd.1 hg hK hB hn hls)
  have HNe := Lib.hid (propB_ne mkB ls.length ls hn)
  clear hd h hvl hls hb1 hb2 hb3 hb4
  go_enter Tryz.func27, Tryz.ntmps27
  go_upto_region 1 with fail
  refine wp_gen (F := fun y => Gr w y ∧ y.heap[w.heap.size]? = some (.cells #[.slice p1 ls.length c1, .slice p2 cs.length c2, .int .i64 wd, .string bits] 25 (0, 0))) ⟨Gr.alloc _ _, heap_alloc_new _ _⟩ ?_
  rintro wA ⟨hgA, hrA⟩
  have HGA := Lib.hid hgA
  have HRA := Lib.hid hrA
  generalize w.heap.size = g0 at HRA hrA ⊢
  clear hgA hrA
  go_wp2_with fail
  refine (props_any wA).mono ?_
  rintro e w1 ⟨gm, rfl, hf1, hg1⟩
  have hlook := hf1.look 2 (by decide) 88 propsD2
  obtain ⟨k0, k1, k2, k3⟩ := row4 (hg1.block HRA.out)
  have HR1 := Lib.hid (hg1.block HRA.out)
  have HG1 := Lib.hid (HGA.out.trans hg1)
  clear hf1 hg1 HRA HGA
  go_wp2_with fail
  refine (HV.out _ HG1.out).mono ?_
  rintro e w2 ⟨rfl, hg2⟩
  obtain ⟨k0, k1, k2, k3⟩ := row4 (hg2.block HR1.out)
  have HR2 := Lib.hid (hg2.block HR1.out)
  have HG2 := Lib.hid (HG1.out.trans hg2)
  clear hlook hg2 HV HR1 HG1
  go_upto_region 5 with fail
  obtain ⟨gb, hgb⟩ : ∃ g, g = w2.heap.size := ⟨_, rfl⟩
  refine wp_gen (F := fun y => Gr w2 y ∧ Bld (fun k => k < w2.heap.size) gb [] y) ⟨Gr.alloc _ _, by rw [hgb]; exact Bld.made w2 _ (fun k hk => hk)⟩ ?_
  rw [← hgb]
  rintro w3 ⟨hg3, hB3⟩
  have HB3 := Lib.hid hB3
  have HG3 := Lib.hid (HG2.out.trans hg3)
  have HG23 := Lib.hid hg3
  have HK3 : Hid (∀ k, k < w.heap.size → k < gb) := Lib.hid (fun k hk => by rw [hgb]; exact Nat.lt_of_lt_of_le hk HG2.out.size)
  have HGB := Lib.hid hgb
  have HZ : Hid (w2.heap.size ≤ w3.heap.size) := Lib.hid hg3.size
  obtain ⟨k0, k1, k2, k3⟩ := row4 (hg3.block HR2.out)
  clear hg3 hB3 HR2 hgb
  go_wp2_with fail
  refine (HW.out _ gb _ HG3.out HK3.out HB3.out).mono ?_
  rintro e w4 hw4
  obtain ⟨rfl, hB4, hK4⟩ := hw4
  have HB4 := Lib.hid hB4
  have HK4 := Lib.hid hK4
  obtain ⟨p, v, hp, hb, -⟩ := hB4
  have c0 : w4.cell? ⟨gb, 0, none⟩ = some p := by rw [cell_of_row _ _ _ _ _ _ hb]; rfl
  clear hK4 hp hb HB3 k0 k1 k2 k3
  go_wp2_with fail
  refine (string_bld _ gb _ w4 HB4.out HNe.out).mono ?_
  rintro e w5 ⟨rfl, hk5⟩
  have HFin : Hid (Gr w w5) := Lib.hid (HG2.out.trans (Below.trans HG23.out (by have h := (HK4.out.trans hk5).gr; rw [HGB.out] at h; exact h)))
  clear hk5 HB4 HK4 c0
  go_wp2_with fail
  go_ret2
  exact ⟨rfl, HFin.out⟩
end Go.Proofs.YtakhomofckcckaaGreatDoor
