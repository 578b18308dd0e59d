/- The walk of the statement RedactBinding: it answers true. -/
import Derived.Test.YtakhomofckcckaaGreatDoorFewA
import Derived.Test.YtakhomofckcckaaGreatDoorMS
import Derived.Test.YtakhomofckcckaaGreatDoorMT
import Derived.Deep.CutBlock
import Derived.Deep.CutRange
namespace Go.Proofs.YtakhomofckcckaaGreatDoor
open Go Go.RowKit Go.Shelf
attribute [local go_sem] gAt gUpon
attribute [local simp] Gr.refl Gr.alloc

/-- a slice that holds one leaf -/
def One1 (x : Lf) (v : Value) (w : World) : Prop := ∃ g off cap, v = .slice (some ⟨g, off, none⟩) 1 cap ∧ 1 ≤ cap ∧ ∀ j u, (lfC x)[j]? = some u → w.cell? ⟨g, off + j, none⟩ = some u
theorem One1.stb (x : Lf) : Stb (One1 x) := fun _ _ _ hg ⟨g, off, cap, h1, h2, h3⟩ => ⟨g, off, cap, h1, h2, fun j u hj => hg.cell (h3 j u hj)⟩
/-- where one leaf lies -/
def Ptr1 (x : Lf) (v : Value) (w : World) : Prop := ∃ g off, v = .pointer (some ⟨g, off, none⟩) ∧ ∀ j u, (lfC x)[j]? = some u → w.cell? ⟨g, off + j, none⟩ = some u
theorem Ptr1.stb (x : Lf) : Stb (Ptr1 x) := fun _ _ _ hg ⟨g, off, h1, h3⟩ => ⟨g, off, h1, fun j u hj => hg.cell (h3 j u hj)⟩
/-- two lists of leaves differ as the law says -/
def DifP (a b : List Lf) : Prop := a.length ≠ b.length ∨ ∃ (i : Nat) (x y : Lf), a[i]? = some x ∧ b[i]? = some y ∧ x.shown = true ∧ y.shown = true ∧ ¬ (x.text = y.text ∧ x.mark = y.mark)
/-- what the if leaves: one leaf is another one; the list without its last leaf -/
def CutAt (w w5 : World) (v18 : Value) (l : List Lf) (k : Nat) (o : Lf) (v19 : Value) (W : World) : Prop :=
  Rws 5 lfC v18 (l.set k o) W ∧ Rws 5 lfC v19 (l.set k o).dropLast W ∧ Gr w W ∧ ∃ y b, Gr w5 y ∧ w5.heap.size ≤ b ∧ Chg (some b) y W
theorem row_rws {W : World} {b : Nat} {x : Lf} {t : TypeId} (h : W.heap[b]? = some (.cells (lfC x).toArray t (0, 0))) : Rws 5 lfC (.slice (some ⟨b, 0, none⟩) 1 1) [x] W := by
  refine .inr ⟨b, 0, 1, rfl, Nat.le_refl _, fun i y j u hy hu => ?_⟩
  cases i with
  | zero =>
    simp at hy; subst hy
    rw [cell_of_row _ _ _ _ _ _ h]; simpa using hu
  | succ i => simp at hy
theorem one1_own {B : Nat} {v : Value} {o : Lf} {w : World} (h : Own B 5 v [o].length ([o].flatMap lfC) w) : One1 o v w := by
  obtain ⟨g, off, cap, rfl, _, h1, _⟩ := h.shape (by simp)
  refine ⟨g, off, cap, rfl, h1, fun j u hj => ?_⟩
  obtain ⟨_, _, he, hc⟩ := (own_rws lfC_len h).at_n (i := 0) rfl rfl
  injection he with he
  injection he with e1 e2
  subst e1 e2
  have h2 := hc.2 j u hj
  rw [Nat.zero_mul, Nat.zero_add] at h2
  exact h2
theorem row3 {W : World} {g : Nat} {a b c : Value} {t : TypeId} (h : W.heap[g]? = some (.cells #[a, b, c] t (0, 0))) :
    W.cell? ⟨g, 0, none⟩ = some a ∧ W.cell? ⟨g, 1, none⟩ = some b ∧ W.cell? ⟨g, 2, none⟩ = some c :=
  ⟨by rw [cell_of_row _ _ _ _ _ _ h]; rfl, by rw [cell_of_row _ _ _ _ _ _ h]; rfl, by rw [cell_of_row _ _ _ _ _ _ h]; rfl⟩
/-- an entry of the law's table -/
def Ent (cs : Array Value) (w : World) (i : Nat) : Prop := ∃ (r : ByteArray) (p1 : Option Addr) (c1 : Nat) (l1 : List Lf) (p2 : Option Addr) (c2 : Nat) (l2 : List Lf),
  cs[i * 3]? = some (.string r) ∧ cs[i * 3 + 1]? = some (.slice p1 l1.length c1) ∧ cs[i * 3 + 2]? = some (.slice p2 l2.length c2) ∧ Rws 5 lfC (.slice p1 l1.length c1) l1 w ∧ Rws 5 lfC (.slice p2 l2.length c2) l2 w ∧ l1.length ≤ 100 ∧ l2.length ≤ 100

set_option maxRecDepth 100000 in
set_option maxHeartbeats 8000000 in
theorem binding_any (root : ByteArray) (va : Value) (la0 : List Lf) (vb : Value) (lb0 : List Lf) (v1 v2 : Value) (r0 r1 : Int) (s : ByteArray) (which : Int) (oth : Lf) (w : World) (_hroot : root.size ≤ 9223372036854775807) (ha : Rws 5 lfC va la0 w) (hna : la0.length ≤ 9223372036854775807) (hqa : ∀ x ∈ la0, LfIn x) (hb : Rws 5 lfC vb lb0 w) (hnb : lb0.length ≤ 9223372036854775807) (hqb : ∀ x ∈ lb0, LfIn x) (hx : CaseIn v1 v2 r0 r1 w) (hs : s.size ≤ 9223372036854775807) (hwh : I64 which) (hoth : LfIn oth) (hT : Tab w) :
    Calls Tryz.prog 4 #[.string root, va, vb, .agg #[v1, v2, .int .i64 r0, .int .i64 r1, .string s], .int .i64 which, .agg #[.bool oth.shown, .string oth.text, .int .i64 oth.mark, .string oth.salt, .string oth.digest]] w fun e w' => e = .returned (.bool true) ∧ Gr w w' := by
  obtain ⟨i5, hi5, hz5, hsz5, hb5⟩ := info_parts infoLf
  have HX := Lib.hid hx
  have HT := Lib.hid hT
  obtain ⟨⟨L1, L2, h1, h2, -⟩, -⟩ := hx
  obtain ⟨p1, c1, rfl⟩ := h1.shape
  obtain ⟨p2, c2, rfl⟩ := h2.shape
  obtain ⟨pa, ca, rfl⟩ := ha.shape
  obtain ⟨pb, cb0, rfl⟩ := hb.shape
  have HFa := Lib.hid (fun y (hg : Gr w y) => few_any (.slice pa la0.length ca) la0 y (ha.gr hg) hna (fun x hx => (hqa x hx).2))
  have HFb := Lib.hid (fun y (hg : Gr w y) => few_any (.slice pb lb0.length cb0) lb0 y (hb.gr hg) hnb (fun x hx => (hqb x hx).2))
  have HOth := Lib.hid hoth.2
  have HWh := Lib.hid hwh
  clear hT h1 h2 ha hb hqa hqb hwh hoth
  obtain ⟨osh, ot, om, osl, odg⟩ := oth
  simp only at HOth ⊢
  go_enter Tryz.func4, Tryz.ntmps4
  go_upto_region 1 with fail
  refine wp_gen (F := fun y => Gr w y ∧ y.heap[w.heap.size]? = some (.cells #[.slice p1 L1.length c1, .slice p2 L2.length c2, .int .i64 r0, .int .i64 r1, .string s] 30 (0, 0)) ∧ y.heap[w.heap.size + 1]? = some (.cells #[.bool osh, .string ot, .int .i64 om, .string osl, .string odg] 35 (0, 0))) ⟨(Gr.alloc _ _).trans (Gr.alloc _ _), (Gr.alloc _ _).block (heap_alloc_new _ _), by
    have h := heap_alloc_new (w.alloc (.cells #[.slice p1 L1.length c1, .slice p2 L2.length c2, .int .i64 r0, .int .i64 r1, .string s] 30)) (.cells #[.bool osh, .string ot, .int .i64 om, .string osl, .string odg] 35)
    simpa using h⟩ ?_
  rintro w0 ⟨hg0, hrC, hrB⟩
  have HG0 := Lib.hid hg0
  have HRC := Lib.hid hrC
  have HRB := Lib.hid hrB
  generalize w.heap.size = gc at HRC HRB hrC hrB ⊢
  clear hg0 hrC hrB
  go_wp2_with fail
  refine (sane_any _ (HT.out.gr HG0.out)).mono ?_
  rintro e w1 ⟨rfl, hg1⟩
  have HRC1 := Lib.hid (hg1.block HRC.out)
  have HRB1 := Lib.hid (hg1.block HRB.out)
  have HG1 := Lib.hid (HG0.out.trans hg1)
  clear hg1 HRC HRB HG0
  go_wp2_with fail
  refine (HFa.out _ HG1.out).mono ?_
  rintro e wa ⟨ua, rfl, hoa, hga⟩
  obtain ⟨qa, da, rfl⟩ := hoa.slice
  have HA1 : Hid (Rws 5 lfC (.slice qa (fewD la0).length da) (fewD la0) wa) := Lib.hid (own_rws lfC_len hoa)
  have HRC2 := Lib.hid (hga.block HRC1.out)
  have HRB2 := Lib.hid (hga.block HRB1.out)
  have HG2 := Lib.hid (HG1.out.trans hga)
  have hla : (fewD la0).length ≤ 66 := fewD_len la0
  clear hga hoa HFa HRC1 HRB1 HG1
  generalize fewD la0 = la at HA1 hla ⊢
  go_wp2_with fail
  refine (HFb.out _ HG2.out).mono ?_
  rintro e wb ⟨ub, rfl, hob, hgb⟩
  obtain ⟨qb, db, rfl⟩ := hob.slice
  have HB1 : Hid (Rws 5 lfC (.slice qb (fewD lb0).length db) (fewD lb0) wb) := Lib.hid (own_rws lfC_len hob)
  have HA2 := Lib.hid (HA1.out.gr hgb)
  obtain ⟨k0, k1, k2, k3, k4⟩ := row5 (hgb.block HRC2.out)
  have HRB3 := Lib.hid (hgb.block HRB2.out)
  have HG3 := Lib.hid (HG2.out.trans hgb)
  have hlb : (fewD lb0).length ≤ 66 := fewD_len lb0
  clear hgb hob HFb HRC2 HRB2 HG2 HA1
  generalize fewD lb0 = lb at HB1 hlb ⊢
  go_wp2_with fail
  refine (made_any _ _ r0 r1 s _ (HX.out.gr HG3.out) hs).mono ?_
  rintro e w2 ⟨vL, vC, ls, cs, wd, bits, sc, rfl, hd, hsc, hg2⟩
  have HG4 := Lib.hid (HG3.out.trans hg2)
  have HRB4 := Lib.hid (hg2.block HRB3.out)
  have HA3 := Lib.hid (HA2.out.gr hg2)
  have HB3 := Lib.hid (HB1.out.gr hg2)
  have HD2 := Lib.hid hd
  obtain ⟨pl, cl, rfl⟩ := hd.1.1.shape
  obtain ⟨pc, cc, rfl⟩ := hd.1.2.shape
  have hls6 := hd.2.2
  clear hg2 hd k0 k1 k2 k3 k4 HRB3 HG3 HA2 HB1
  go_upto_region 5 with fail
  refine wp_gen (F := fun y => Gr w2 y ∧ y.heap[w2.heap.size]? = some (.cells #[.slice pl ls.length cl, .slice pc cs.length cc, .int .i64 wd, .string bits] 25 (0, 0))) ⟨Gr.alloc _ _, heap_alloc_new _ _⟩ ?_
  rintro w3 ⟨hg3, hr3⟩
  have HG5 := Lib.hid (HG4.out.trans hg3)
  have HD3 := Lib.hid (HD2.out.gr hg3)
  have HRB5 := Lib.hid (hg3.block HRB4.out)
  have HA4 := Lib.hid (HA3.out.gr hg3)
  have HB4 := Lib.hid (HB3.out.gr hg3)
  generalize w2.heap.size = gd at hr3 ⊢
  obtain ⟨k0, k1, k2, k3⟩ := row4 hr3
  clear hr3 hg3 HD2 HRB4 HG4 HA3 HB3
  go_wp2_with fail
  refine (leaves_ok _ _ ls cs wd bits sc w3 HD3.out.1 HD3.out.2.1 (by omega) (HT.out.gr HG5.out)).mono ?_
  rintro e w5 ⟨u5, rfl, ho5, hg5⟩
  have HG6 := Lib.hid (HG5.out.trans hg5)
  have HRB6 := Lib.hid (hg5.block HRB5.out)
  have HA5 := Lib.hid (HA4.out.gr hg5)
  have HB5 := Lib.hid (HB4.out.gr hg5)
  obtain ⟨p5, c5, rfl⟩ := ho5.slice
  have HO5 : Hid (Rws 5 lfC (.slice p5 ls.length c5) (leavesD sc ls) w5) := Lib.hid (by
    have h := own_rws (l := leavesD sc ls) lfC_len (v := .slice p5 ls.length c5) (by rw [leavesD_len]; exact ho5)
    exact h)
  have HLN : Hid ((leavesD sc ls).length = ls.length) := Lib.hid (leavesD_len sc ls)
  have HOE := Lib.hid (own_empty w5 35 w5.heap.size 5 (Nat.le_refl _))
  clear hg5 ho5 k0 k1 k2 k3 HRB5 HG5 HD3 HA4 HB4
  generalize leavesD sc ls = l at HO5 HLN
  go_wp2_with ((with_reducible show wpList _ _ _ (⟨some 42, _, _, _, _, _⟩ :: _) _ _); refine wpList_append_Rws (enc := lfC) rfl (.tmp 40) (.tmp 41) 31 rfl 35 i5 (.agg #[.bool false, .string ⟨#[]⟩, .int .i64 0, .string ⟨#[]⟩, .string ⟨#[]⟩]) 5 64 Tryz.underlying31 hi5 hz5 hsz5 hb5 rfl (by decide) rfl HOE.out lfC_len lfC_one l _ rfl (HO5.out.gr (Gr.alloc _ _)) ?b1C ?b2C ?hBC ?_)
  case b1C => have := HLN.out; unfold maxLen; omega
  case b2C => have := HLN.out; omega
  case hBC => simp
  intro v42 w42 hown42 hchg42
  have hg42 : Gr w5 w42 := gr_step (Gr.refl w5) (Gr.alloc _ _) hchg42 (fun g hg => HOE.out.ge hg)
  have hob : Own w5.heap.size 5 v42 ls.length (l.flatMap lfC) w42 := by
    have h := hown42
    rw [HLN.out] at h
    simpa using h
  obtain ⟨p42, c42, rfl⟩ := hob.slice
  have HOb := Lib.hid hob
  have HG7 := Lib.hid (HG6.out.trans hg42)
  have HG57 := Lib.hid hg42
  have HRB7 := Lib.hid (hg42.block HRB6.out)
  have HZ5 : Hid (w.heap.size ≤ w5.heap.size) := Lib.hid HG6.out.size
  clear hown42 hchg42 hg42 hob HOE HG6 HRB6
  have HFo := Lib.hid (fun v y (hv : Rws 5 lfC v [(⟨osh, ot, om, osl, odg⟩ : Lf)] y) => few_any v [⟨osh, ot, om, osl, odg⟩] y hv (by simp) (fun x hx => by obtain rfl := List.mem_singleton.1 hx; exact HOth.out))
  have HFe : Hid (fewD [(⟨osh, ot, om, osl, odg⟩ : Lf)] = [fewX ⟨osh, ot, om, osl, odg⟩]) := Lib.hid rfl
  rw [HFe.out] at HFo
  generalize hof : fewX ⟨osh, ot, om, osl, odg⟩ = o at HFo
  obtain ⟨kk, hkk⟩ : ∃ kk, kk = pickD which ls.length := ⟨_, rfl⟩
  have HKK := Lib.hid hkk
  clear hof hkk HFe HOth
  go_upto_if 46 with fail
  go_cut [19] from 46 to 62 (fun v19 wx => Hid (CutAt w w5 (.slice p42 ls.length c42) l kk o v19 wx))
  case first =>
    rename_i JJ KK hJ hK
    by_cases h0 : ls.length = 0
    · have t0 : decide (0 < ls.length) = false := decide_eq_false (by omega)
      have t0' : decide ((0 : Int) < (ls.length : Int)) = false := decide_eq_false (by omega)
      have hln : l = [] := List.eq_nil_of_length_eq_zero (by rw [HLN.out]; exact h0)
      have HC : Hid (CutAt w w5 (.slice p42 ls.length c42) l kk o (.slice p42 ls.length c42) w42) := Lib.hid (by
        refine ⟨?_, ?_, HG7.out, w42, w5.heap.size, HG57.out, Nat.le_refl _, ⟨rfl, rfl, rfl, Nat.le_refl _, fun _ _ _ => rfl⟩⟩
        · exact .inl ⟨by rw [hln]; rfl, p42, c42, by rw [h0]⟩
        · exact .inl ⟨by rw [hln]; rfl, p42, c42, by rw [h0]⟩)
      clear h0 hln
      rw [t0]
      go_wp2_with fail
      refine Met.intro (hJ _ _ ?_)
      repeat apply Exists.intro
      exact ⟨HC, rfl⟩
    · have t0 : decide (0 < ls.length) = true := decide_eq_true (by omega)
      have hM0 : 0 < ls.length := by omega
      have hkM := pickD_lt which ls.length hM0
      rw [← HKK.out] at hkM
      have HPk : Hid (∀ y, Calls Tryz.prog 13 #[.int .i64 which, .int .i64 (ls.length : Int)] y fun e y' => e = .returned (.int .i64 (kk : Int)) ∧ y = y') := Lib.hid (fun y => by rw [HKK.out]; exact pick_any which ls.length y HWh.out hM0 (by omega))
      have hob := HOb.out
      obtain ⟨gb, ob, cb, he, hgb, hlb2, hmb⟩ := hob.shape hM0
      injection he with he1 _ he2
      subst he1 he2
      obtain ⟨e0, e1, e2, e3, e4⟩ := row5 HRB7.out
      have s0 : ∀ n : GrS w42.drew, n.w.cell? ⟨gc + 1, 0, none⟩ = some (.bool osh) := fun n => n.h.cell (w := w42.drew) e0
      have s1 : ∀ n : GrS w42.drew, n.w.cell? ⟨gc + 1, 1, none⟩ = some (.string ot) := fun n => n.h.cell (w := w42.drew) e1
      have s2 : ∀ n : GrS w42.drew, n.w.cell? ⟨gc + 1, 2, none⟩ = some (.int .i64 om) := fun n => n.h.cell (w := w42.drew) e2
      have s3 : ∀ n : GrS w42.drew, n.w.cell? ⟨gc + 1, 3, none⟩ = some (.string osl) := fun n => n.h.cell (w := w42.drew) e3
      have s4 : ∀ n : GrS w42.drew, n.w.cell? ⟨gc + 1, 4, none⟩ = some (.string odg) := fun n => n.h.cell (w := w42.drew) e4
      have hcbk : kk < c42 := by omega
      have hobs := Lib.hid (HOb.out.store kk hkM (lfC o) rfl)
      have HTh : Hid (∀ y, Gr w42 y → y.there gb (ob + kk * 5) 5) := Lib.hid (fun y hg => (HOb.out.gr hg).there kk hkM)
      rw [t0]
      clear h0 hob e0 e1 e2 e3 e4
      go_upto_region 9 with fail
      refine region_grow 11 162 (by kernel_rfl) rfl (by kernel_rfl) rfl rfl ?_
      simp only [List.take_succ_cons, List.take_zero, List.drop_succ_cons, List.drop_zero]
      refine seg 4 rfl rfl rfl rfl ?_
      simp only [List.take_succ_cons, List.take_zero, List.drop_succ_cons, List.drop_zero]
      repeat (go_big_quiet_step (fail))
      refine wpQuiet_nil ?_
      intro _
      refine grow_det (v := .int .i64 (kk : Int)) rfl rfl rfl rfl rfl ?_ ?_
      · intro w1 hG
        go_simp
        refine (HPk.out w1).mono ?_
        rintro e w' ⟨rfl, rfl⟩
        exact ⟨rfl, Gr.refl _⟩
      simp only [Act.put, List.setIfInBounds_toArray, List.set_cons_zero, List.set_cons_succ]
      refine seg 1 rfl rfl rfl rfl ?_
      simp only [List.take_succ_cons, List.take_zero, List.drop_succ_cons, List.drop_zero]
      repeat (go_big_quiet_step (fail))
      refine wpQuiet_nil ?_
      intro _
      refine grow_open (NewEl (lfC ⟨osh, ot, om, osl, odg⟩) 35) rfl rfl rfl rfl (stb_el _ _) (fun w1 hG => ?_) ?_
      · go_simp
        exact newEl_alloc _ (lfC ⟨osh, ot, om, osl, odg⟩) _
      refine grow_open1 53 (One1 o) rfl rfl (by decide) rfl rfl rfl (by decide) rfl rfl (One1.stb o) (fun w1 u hG hu => ?_) ?_
      · obtain ⟨b, rfl, hb⟩ := hu
        simp only [Act.put, List.setIfInBounds_toArray, List.set_cons_zero, List.set_cons_succ]
        go_simp
        refine (HFo.out _ w1 (row_rws hb)).mono ?_
        rintro e w' ⟨u, rfl, ho, hg⟩
        exact ⟨u, rfl, hg, one1_own ho⟩
      refine grow_open1 54 (Ptr1 o) rfl rfl (by decide) rfl rfl rfl (by decide) rfl rfl (Ptr1.stb o) (fun w1 u hG hu => ?_) ?_
      · obtain ⟨g, off, cap, rfl, hcap, hc⟩ := hu
        simp only [Act.put, List.setIfInBounds_toArray, List.set_cons_zero, List.set_cons_succ]
        go_simp
        exact ⟨g, off, rfl, hc⟩
      refine grow_det1 55 (v := .agg (lfC o).toArray) rfl (by decide) rfl rfl rfl (by decide) rfl rfl rfl (fun w1 u hG hu => ?_) ?_
      · obtain ⟨g, off, rfl, hc⟩ := hu
        have c0 := hc 0 _ rfl
        have c1 := hc 1 _ rfl
        have c2 := hc 2 _ rfl
        have c3 := hc 3 _ rfl
        have c4 := hc 4 _ rfl
        rw [Nat.add_zero] at c0
        simp only [Act.put, List.setIfInBounds_toArray, List.set_cons_zero, List.set_cons_succ]
        clear hc
        go_simp
        rfl
      simp only [Act.put, List.setIfInBounds_toArray, List.set_cons_zero, List.set_cons_succ]
      refine seg 1 rfl rfl rfl rfl ?_
      simp only [List.take_succ_cons, List.take_zero, List.drop_succ_cons, List.drop_zero]
      repeat (go_big_quiet_step (fail))
      refine wpQuiet_nil ?_
      intro _
      refine grow_end3 rfl rfl (by decide) (by decide) (by decide) rfl rfl rfl ?_
      intro w8 u1 u2 u3 hG hu1 hu2 hu3
      simp only [Act.put, List.setIfInBounds_toArray, List.set_cons_zero, List.set_cons_succ]
      clear hu1 hu2 hu3 s0 s1 s2 s3 s4
      have hg8 : Gr w42 w8 := Gr.trans (Gr.drew w42) hG
      have HTh8 := Lib.hid (HTh.out w8 hg8)
      have hns : (ls.length : Int) - 1 = ((ls.length - 1 : Nat) : Int) := by omega
      have hl1 : ls.length - 1 ≤ c42 := by omega
      have hNl : kk < l.length := by rw [HLN.out]; exact hkM
      have hO8 : Own w5.heap.size 5 (.slice (some ⟨gb, ob, none⟩) ls.length c42) ls.length ((l.set kk o).flatMap lfC) (w8.setCells gb (ob + kk * 5) (lfC o)) := by
        have h := (HOb.out.gr hg8).store kk hkM (lfC o) rfl
        rw [← flat_set lfC_len l kk o hNl] at h
        exact h
      have hln : (l.set kk o).length = ls.length := by rw [List.length_set, HLN.out]
      have hR8 : Rws 5 lfC (.slice (some ⟨gb, ob, none⟩) ls.length c42) (l.set kk o) (w8.setCells gb (ob + kk * 5) (lfC o)) := by
        have h := own_rws (l := l.set kk o) lfC_len (v := .slice (some ⟨gb, ob, none⟩) ls.length c42) (by rw [hln]; exact hO8)
        exact h
      have HC : Hid (CutAt w w5 (.slice (some ⟨gb, ob, none⟩) ls.length c42) l kk o (.slice (some ⟨gb, ob, none⟩) (ls.length - 1) c42) (w8.setCells gb (ob + kk * 5) (lfC o))) := Lib.hid (by
        refine ⟨hR8, ?_, ?_, w8, gb, HG57.out.trans hg8, hgb, setCells_chg gb (lfC o) (ob + kk * 5) w8⟩
        · have h := hR8.take (ls.length - 1) (by rw [hln]; omega)
          rw [List.dropLast_eq_take, hln]
          exact h
        · exact gr_step (HG7.out.trans hg8) (Gr.refl _) (setCells_chg gb (lfC o) (ob + kk * 5) w8) (fun g e => by cases e; have := HZ5.out; omega))
      clear hO8 hR8 hln hNl hg8 hG
      go_wp2_with ((with_reducible show wpList _ _ _ (⟨none, .store 35 _ _, _, _, _, _⟩ :: _) _ _); refine wpList_store_mid rfl 35 (.tmp 57) (.tmp 56) rfl gb (ob + kk * 5) (lfC o).toArray rfl rfl HTh8.out (infoLf_size Tryz.prog rfl) (all_oneCell_toArray (lfC_one o)) ?_)
      refine Met.intro (hJ _ _ ?_)
      repeat apply Exists.intro
      exact ⟨HC, rfl⟩
  obtain ⟨hc1, hc2, hc3, y', b', hy', hb', hch'⟩ := hcut.out
  have HGc := Lib.hid hc3
  have HLc : Hid (Rws 5 lfC (.slice p5 ls.length c5) l wc) := Lib.hid (HO5.out.chg_new (s := 5) (enc := lfC) lfC_len (by decide) hy' hch' hb')
  have HAc : Hid (Rws 5 lfC (.slice qa la.length da) la wc) := Lib.hid (HA5.out.chg_new (s := 5) (enc := lfC) lfC_len (by decide) hy' hch' hb')
  have HBc : Hid (Rws 5 lfC (.slice qb lb.length db) lb wc) := Lib.hid (HB5.out.chg_new (s := 5) (enc := lfC) lfC_len (by decide) hy' hch' hb')
  have hlC : (l.set kk o).length = ls.length := by rw [List.length_set, HLN.out]
  obtain ⟨p19, c19, rfl⟩ := hc2.shape
  have hlD : (l.set kk o).dropLast.length ≤ 6 := by rw [List.length_dropLast]; omega
  have HR18 := Lib.hid hc1
  have HR19 := Lib.hid hc2
  have HLC := Lib.hid hlC
  clear hc1 hc2 hc3 hy' hb' hch' hcut hlC HO5 HA5 HB5 HOb HG7 HG57 HRB7 HZ5 HFo HKK HWh
  generalize (l.set kk o).dropLast = lD at HR19 hlD ⊢
  generalize l.set kk o = lC at HR18 HLC
  have HRl := Lib.hid (fun y (hg : Gr wc y) => rRoot_any (.slice p5 ls.length c5) l y (HLc.out.gr hg) (by rw [HLN.out]; omega) (HT.out.gr (HGc.out.trans hg)))
  have HRa := Lib.hid (fun y (hg : Gr wc y) => rRoot_any (.slice qa la.length da) la y (HAc.out.gr hg) (by omega) (HT.out.gr (HGc.out.trans hg)))
  generalize rtD l = RL at HRl
  generalize rtD la = RA at HRa
  go_wp2_with fail
  refine (HRl.out _ (Gr.refl _)).mono ?_
  rintro e w6 ⟨rfl, hg6⟩
  have HG6 := Lib.hid hg6
  clear hg6
  go_wp2_with fail
  refine (HRl.out _ HG6.out).mono ?_
  rintro e w7 ⟨rfl, hg7⟩
  have HG7 := Lib.hid (HG6.out.trans hg7)
  clear hg7 HG6 HRl
  go_wp2_with fail
  refine (HRa.out _ HG7.out).mono ?_
  rintro e w8 ⟨rfl, hg8⟩
  have HG8 := Lib.hid (HG7.out.trans hg8)
  clear hg8 HG7 HRa
  go_wp2_with fail
  refine wp_gen (F := fun y => Gr w8 y ∧ y.heap[w8.heap.size]? = some (.cells #[.string root, .slice qa la.length da, .slice qb lb.length db, .string RL, .slice p5 ls.length c5, .slice p42 ls.length c42, .string RL, .slice p5 ls.length c5, .slice p19 lD.length c19, .string RA, .slice qa la.length da, .slice p5 ls.length c5] 55 (0, 0))) ⟨Gr.alloc _ _, heap_alloc_new _ _⟩ ?_
  rintro w9 ⟨hg9, hr9⟩
  have HG9 := Lib.hid (HG8.out.trans hg9)
  have HR9 := Lib.hid hr9
  have HEnt : Hid (∀ i, i < 4 → Ent #[.string root, .slice qa la.length da, .slice qb lb.length db, .string RL, .slice p5 ls.length c5, .slice p42 ls.length c42, .string RL, .slice p5 ls.length c5, .slice p19 lD.length c19, .string RA, .slice qa la.length da, .slice p5 ls.length c5] w9 i) := Lib.hid (by
    have e1 := HLN.out
    have e2 := HLC.out
    have tl : Rws 5 lfC (.slice p5 l.length c5) l w9 := by rw [e1]; exact HLc.out.gr HG9.out
    have tc : Rws 5 lfC (.slice p42 lC.length c42) lC w9 := by rw [e2]; exact HR18.out.gr HG9.out
    intro i hi
    match i, hi with
    | 0, _ => exact ⟨root, _, _, la, _, _, lb, rfl, rfl, rfl, HAc.out.gr HG9.out, HBc.out.gr HG9.out, by omega, by omega⟩
    | 1, _ => exact ⟨RL, p5, c5, l, p42, c42, lC, rfl, by rw [e1]; rfl, by rw [e2]; rfl, tl, tc, by omega, by omega⟩
    | 2, _ => exact ⟨RL, p5, c5, l, p19, c19, lD, rfl, by rw [e1]; rfl, rfl, tl, HR19.out.gr HG9.out, by omega, by omega⟩
    | 3, _ => exact ⟨RA, _, _, la, p5, c5, l, rfl, rfl, by rw [e1]; rfl, HAc.out.gr HG9.out, tl, by omega, by omega⟩)
  generalize w8.heap.size = gy at hr9 HR9 ⊢
  clear hg9 hr9 HG8 HLc HAc HBc HR18 HR19 HLC HLN
  generalize (#[.string root, .slice qa la.length da, .slice qb lb.length db, .string RL, .slice p5 ls.length c5, .slice p42 ls.length c42, .string RL, .slice p5 ls.length c5, .slice p19 lD.length c19, .string RA, .slice qa la.length da, .slice p5 ls.length c5] : Array Value) = row at HR9 HEnt
  have HGw := Lib.hid (HGc.out.trans HG9.out)
  clear HG9 HGc
  go_wp2_with fail
  go_loopw [84] (fun v84 W => ∃ i : Nat, i ≤ 4 ∧ v84 = .int .i64 (i : Int) ∧ Hid (Gr w9 W)) (fun v84 _ => 4 - (intOf v84).toNat)
  case atStart => exact ⟨0, Nat.zero_le _, rfl, Lib.hid (Gr.refl _)⟩
  case round =>
    obtain ⟨i, hi4, rfl, HG⟩ := hrel
    by_cases hlt : i < 4
    · have ht : decide (i < 4) = true := decide_eq_true hlt
      have ht' : decide ((i : Int) < 4) = true := decide_eq_true (by omega)
      obtain ⟨r, q1, d1, l1, q2, d2, l2, g1, g2, g3, hR1, hR2, hn1, hn2⟩ := HEnt.out i hlt
      have HR1 := Lib.hid (hR1.gr HG.out)
      have HR2 := Lib.hid (hR2.gr HG.out)
      have hrow := HG.out.block HR9.out
      have hc0 : wr.cell? ⟨gy, i * 3, none⟩ = some (.string r) := by rw [cell_of_row _ _ _ _ _ _ hrow]; exact g1
      have hc1 : wr.cell? ⟨gy, i * 3 + 1, none⟩ = some (.slice q1 l1.length d1) := by rw [cell_of_row _ _ _ _ _ _ hrow]; exact g2
      have hc2 : wr.cell? ⟨gy, i * 3 + 2, none⟩ = some (.slice q2 l2.length d2) := by rw [cell_of_row _ _ _ _ _ _ hrow]; exact g3
      clear g1 g2 g3 hR1 hR2 hrow HEnt HR9
      go_upto_region 14 with fail
      refine wp_gen (F := fun y => Gr wr y ∧ y.heap[wr.heap.size]? = some (.cells #[.string r, .slice q1 l1.length d1, .slice q2 l2.length d2] 55 (0, 0))) ⟨Gr.alloc _ _, heap_alloc_new _ _⟩ ?_
      rintro wA ⟨hgA, hrA⟩
      have HGA := Lib.hid (HG.out.trans hgA)
      have HRA := Lib.hid hrA
      have HP1 := Lib.hid (HR1.out.gr hgA)
      have HP2 := Lib.hid (HR2.out.gr hgA)
      generalize wr.heap.size = gz at hrA HRA ⊢
      obtain ⟨z0, z1, z2⟩ := row3 hrA
      clear hgA hrA HG HR1 HR2 hc0 hc1 hc2
      have HC1 := Lib.hid (fun y (hg : Gr wA y) => check_any r (.slice q1 l1.length d1) l1 y (HP1.out.gr hg) (by omega) (HT.out.gr (HGw.out.trans (HGA.out.trans hg))))
      have HC2 := Lib.hid (fun y (hg : Gr wA y) => check_any r (.slice q2 l2.length d2) l2 y (HP2.out.gr hg) (by omega) (HT.out.gr (HGw.out.trans (HGA.out.trans hg))))
      obtain ⟨B1, hB1⟩ : ∃ B, B = chkD r l1 := ⟨_, rfl⟩
      obtain ⟨B2, hB2⟩ : ∃ B, B = chkD r l2 := ⟨_, rfl⟩
      rw [← hB1] at HC1
      rw [← hB2] at HC2
      have HB1 := Lib.hid hB1
      have HB2 := Lib.hid hB2
      clear hB1 hB2
      go_wp2_with fail
      refine (HC1.out _ (Gr.refl _)).mono ?_
      rintro e wB ⟨rfl, hgB⟩
      cases B1 with
      | false =>
        have HGn := Lib.hid (HGA.out.trans hgB)
        clear hgB HB1 HB2 z0 z1 z2
        go_wp2_with fail
        go_roundw
        case rel => exact ⟨i + 1, by omega, by go_num, HGn⟩
        case measure => simp [intOf]; omega
      | true =>
        have HGB := Lib.hid hgB
        have z0 := hgB.cell z0
        have z1 := hgB.cell z1
        have z2 := hgB.cell z2
        clear hgB
        go_wp2_with fail
        refine (HC2.out _ HGB.out).mono ?_
        rintro e wC ⟨rfl, hgC⟩
        cases B2 with
        | false =>
          have HGn := Lib.hid (HGA.out.trans (HGB.out.trans hgC))
          clear hgC HB1 HB2 z0 z1 z2
          go_wp2_with fail
          go_roundw
          case rel => exact ⟨i + 1, by omega, by go_num, HGn⟩
          case measure => simp [intOf]; omega
        | true =>
          have HGC := Lib.hid (HGB.out.trans hgC)
          have HZ0 := Lib.hid (hgC.cell z0)
          have HZ1 := Lib.hid (hgC.cell z1)
          have HZ2 := Lib.hid (hgC.cell z2)
          have hb1 := HB1.out.symm
          have hb2 := HB2.out.symm
          unfold chkD at hb1 hb2
          rw [Bool.and_eq_true, decide_eq_true_eq] at hb1 hb2
          have HL1 := Lib.hid hb1.1
          have HL2 := Lib.hid hb2.1
          have HHit : Hid (DifP l1 l2 → hitD (hashesD l1) (hashesD l2) = true) := Lib.hid (fun h => binds_hit hb1.1 hb2.1 (hb1.2.trans hb2.2.symm) h)
          have HQ1 := Lib.hid (HP1.out.gr HGC.out)
          have HQ2 := Lib.hid (HP2.out.gr HGC.out)
          have HGAC := Lib.hid (HGA.out.trans HGC.out)
          have HFin := Lib.hid (fun y (hg : Gr wC y) (hd : DifP l1 l2) u1 u2 (h1 : OwnL wC.heap.size (hashesD l1) u1 y) (h2 : OwnL wC.heap.size (hashesD l2) u2 y) => collided_any u1 u2 (hashesD l1) (hashesD l2) y h1.strs h2.strs (Nat.le_trans (hashesD_len HL1.out) (by decide)) (Nat.le_trans (hashesD_len HL2.out) (by decide)) (fun x hx => Nat.le_trans (hashesD_sizes HL1.out x hx) (by decide)) (fun x hx => Nat.le_trans (hashesD_sizes HL2.out x hx) (by decide)))
          obtain ⟨D0, hD0⟩ : ∃ D, D = decide (l1.length ≠ l2.length) := ⟨_, rfl⟩
          have hne : ((l1.length : Int) != (l2.length : Int)) = D0 := by
            rw [hD0]
            by_cases h : l1.length = l2.length
            · rw [h]; simp
            · rw [decide_eq_true h, bne_iff_ne]; omega
          have hne' : (l1.length != l2.length) = D0 := by
            rw [hD0]
            by_cases h : l1.length = l2.length
            · rw [h]; simp
            · rw [decide_eq_true h, bne_iff_ne]; exact h
          have HD0 : Hid ((D0 = true → DifP l1 l2) ∧ (D0 = false → l1.length = l2.length)) := Lib.hid (by
            rw [hD0]
            exact ⟨fun h => .inl (of_decide_eq_true h), fun h => by simpa using h⟩)
          have z0 := HZ0.out
          have z1 := HZ1.out
          have z2 := HZ2.out
          clear hgC HB1 HB2 hb1 hb2 hD0 HC1 HC2 HP1 HP2 HGA HGB HGC HRA
          go_wp2_with fail
          clear z0 z1 z2 hne hne'
          go_loopw [22, 23] (fun v22 v23 W => ∃ (k : Nat) (D : Bool), k ≤ l1.length ∧ v22 = .bool D ∧ v23 = .int .i64 (k : Int) ∧ Hid ((D = true → DifP l1 l2) ∧ (D = false → l1.length = l2.length)) ∧ Hid (Gr wC W)) (fun _ v23 _ => l1.length - (intOf v23).toNat)
          case atStart => exact ⟨0, D0, Nat.zero_le _, rfl, rfl, HD0, Lib.hid (Gr.refl _)⟩
          clear HD0
          case round =>
            obtain ⟨k, D, hk, rfl, rfl, HD, HGk⟩ := hrel
            have z0 := HGk.out.cell HZ0.out
            have z1 := HGk.out.cell HZ1.out
            have z2 := HGk.out.cell HZ2.out
            by_cases hkl : k < l1.length
            · have htk : decide (k < l1.length) = true := decide_eq_true hkl
              cases D with
              | true =>
                have hd := HD.out.1 rfl
                have HFd := Lib.hid (fun y (hg : Gr wC y) => HFin.out y hg hd)
                have hhit := HHit.out hd
                rw [hhit] at HFd
                have s1 : ∀ n : GrS wr.drew, n.w.cell? ⟨gz, 1, none⟩ = some (.slice q1 l1.length d1) := fun n => n.h.cell (w := wr.drew) z1
                have s2 : ∀ n : GrS wr.drew, n.w.cell? ⟨gz, 2, none⟩ = some (.slice q2 l2.length d2) := fun n => n.h.cell (w := wr.drew) z2
                clear hd hhit HHit HFin HD
                go_upto_region 20 with fail
                clear z0 z1 z2
                refine region_grow 11 162 (by kernel_rfl) rfl (by kernel_rfl) rfl rfl ?_
                simp only [List.take_succ_cons, List.take_zero, List.drop_succ_cons, List.drop_zero]
                refine seg 4 rfl rfl rfl rfl ?_
                simp only [List.take_succ_cons, List.take_zero, List.drop_succ_cons, List.drop_zero]
                repeat (go_big_quiet_step (fail))
                refine wpQuiet_nil ?_
                intro _
                refine grow_open (OwnL wC.heap.size (hashesD l1)) rfl rfl rfl rfl (OwnL.stb _ _) (fun w1 hG => ?_) ?_
                · go_simp
                  have hg1 : Gr wC w1 := HGk.out.trans (Gr.trans (Gr.drew wr) hG)
                  refine (hashed23_any (.slice q1 l1.length d1) l1 w1 (HQ1.out.gr hg1) HL1.out).mono ?_
                  rintro e w' ⟨u, rfl, ho, hb⟩
                  exact ⟨u, rfl, hb, ho.mono hg1.size⟩
                refine seg 2 rfl rfl rfl rfl ?_
                simp only [List.take_succ_cons, List.take_zero, List.drop_succ_cons, List.drop_zero]
                repeat (go_big_quiet_step (fail))
                refine wpQuiet_nil ?_
                intro _
                refine grow_open (OwnL wC.heap.size (hashesD l2)) rfl rfl rfl rfl (OwnL.stb _ _) (fun w1 hG => ?_) ?_
                · go_simp
                  have hg1 : Gr wC w1 := HGk.out.trans (Gr.trans (Gr.drew wr) hG)
                  refine (hashed23_any (.slice q2 l2.length d2) l2 w1 (HQ2.out.gr hg1) HL2.out).mono ?_
                  rintro e w' ⟨u, rfl, ho, hb⟩
                  exact ⟨u, rfl, hb, ho.mono hg1.size⟩
                refine grow_det2 153 156 (v := .bool true) rfl (by decide) (by decide) rfl rfl rfl rfl (by decide) (by decide) rfl rfl rfl rfl (fun w1 u u2 hG hu hu2 => ?_) ?_
                · simp only [Act.put, List.setIfInBounds_toArray, List.set_cons_zero, List.set_cons_succ]
                  go_simp
                  refine (HFd.out w1 (HGk.out.trans (Gr.trans (Gr.drew wr) hG)) u u2 hu hu2).mono ?_
                  rintro e w' ⟨rfl, hb⟩
                  exact ⟨rfl, hb⟩
                simp only [Act.put, List.setIfInBounds_toArray, List.set_cons_zero, List.set_cons_succ]
                refine seg 1 rfl rfl rfl rfl ?_
                simp only [List.take_succ_cons, List.take_zero, List.drop_succ_cons, List.drop_zero]
                repeat (go_big_quiet_step (fail))
                refine wpQuiet_nil ?_
                intro _
                refine grow_det (v := .bool false) rfl rfl rfl rfl rfl ?_ ?_
                · intro w1 hG
                  go_simp
                simp only [Act.put, List.setIfInBounds_toArray, List.set_cons_zero, List.set_cons_succ]
                refine grow_end2 rfl rfl (by decide) (by decide) rfl ?_
                intro wq u1 u2 hG hu1 hu2
                simp only [Act.put, List.setIfInBounds_toArray, List.set_cons_zero, List.set_cons_succ]
                have HGn := Lib.hid (HGAC.out.trans (HGk.out.trans (Gr.trans (Gr.drew wr) hG)))
                clear hu1 hu2 hG s1 s2 HFd
                go_wp2_with fail
                go_roundw
                case rel => exact ⟨i + 1, by omega, by go_num, HGn⟩
                case measure => simp [intOf]; omega
              | false =>
                have hln : l1.length = l2.length := HD.out.2 rfl
                obtain ⟨x, hx⟩ : ∃ x, l1[k]? = some x := ⟨_, List.getElem?_eq_getElem hkl⟩
                obtain ⟨y, hy⟩ : ∃ y, l2[k]? = some y := ⟨_, List.getElem?_eq_getElem (by omega)⟩
                obtain ⟨ga, oa, rfl, hca, hxa⟩ := (HQ1.out.gr HGk.out).at_ hx
                obtain ⟨gb, ob, rfl, hcb, hyb⟩ := (HQ2.out.gr HGk.out).at_ hy
                have hkl2 : k < l2.length := by omega
                have x0 := hxa 0 _ rfl
                have x1 := hxa 1 _ rfl
                have x2 := hxa 2 _ rfl
                have y0 := hyb 0 _ rfl
                have y1 := hyb 1 _ rfl
                have y2 := hyb 2 _ rfl
                rw [Nat.add_zero] at x0 y0
                rw [← Nat.add_assoc] at x1 x2 y1 y2
                obtain ⟨s1, t1, m1, sl1, dg1⟩ := x
                obtain ⟨s2, t2, m2, sl2, dg2⟩ := y
                simp only at x0 x1 x2 y0 y1 y2
                have HDif : Hid (s1 = true → s2 = true → ¬ (t1 = t2 ∧ m1 = m2) → DifP l1 l2) := Lib.hid (fun h1 h2 h3 => .inr ⟨k, _, _, hx, hy, h1, h2, h3⟩)
                have HLn := Lib.hid hln
                clear hx hy hxa hyb hln HD HFin HHit
                cases s1 with
                | false =>
                  clear HDif
                  go_upto_region 19 with fail
                  go_quiet (fail)
                  rename_i nq
                  have hgq : Gr wr (wr.drewN nq) := ⟨rfl, rfl, rfl, Nat.le_refl _, fun _ _ => rfl⟩
                  generalize wr.drewN nq = wq at hgq ⊢
                  have HGn := Lib.hid (HGk.out.trans hgq)
                  clear hgq z0 z1 z2 x0 x1 x2 y0 y1 y2 HGk
                  go_wp2_with fail
                  go_roundw
                  case rel => exact ⟨k + 1, false, by omega, rfl, by go_num, Lib.hid ⟨fun h => (by cases h), fun _ => HLn.out⟩, HGn⟩
                  case measure => simp [intOf]; omega
                | true =>
                  cases s2 with
                  | false =>
                    clear HDif
                    go_upto_region 19 with fail
                    go_quiet (fail)
                    rename_i nq
                    have hgq : Gr wr (wr.drewN nq) := ⟨rfl, rfl, rfl, Nat.le_refl _, fun _ _ => rfl⟩
                    generalize wr.drewN nq = wq at hgq ⊢
                    have HGn := Lib.hid (HGk.out.trans hgq)
                    clear hgq z0 z1 z2 x0 x1 x2 y0 y1 y2 HGk
                    go_wp2_with fail
                    go_roundw
                    case rel => exact ⟨k + 1, false, by omega, rfl, by go_num, Lib.hid ⟨fun h => (by cases h), fun _ => HLn.out⟩, HGn⟩
                    case measure => simp [intOf]; omega
                  | true =>
                    obtain ⟨T, hT⟩ : ∃ T, (t1.toList == t2.toList) = T := ⟨_, rfl⟩
                    obtain ⟨M, hM⟩ : ∃ M, (m1 == m2) = M := ⟨_, rfl⟩
                    have HN : Hid (((!(T && M)) = true → DifP l1 l2) ∧ ((!(T && M)) = false → l1.length = l2.length)) := Lib.hid ⟨fun h => HDif.out rfl rfl (fun ⟨e1, e2⟩ => by
                      rw [e1, beq_self_eq_true] at hT
                      rw [e2, beq_self_eq_true] at hM
                      rw [← hT, ← hM] at h
                      cases h), fun _ => HLn.out⟩
                    clear HDif
                    cases T <;> cases M
                    all_goals
                      go_upto_region 19 with fail
                      go_quiet (fail)
                      rename_i nq
                      have hgq : Gr wr (wr.drewN nq) := ⟨rfl, rfl, rfl, Nat.le_refl _, fun _ _ => rfl⟩
                      generalize wr.drewN nq = wq at hgq ⊢
                      have HGn := Lib.hid (HGk.out.trans hgq)
                      clear hgq z0 z1 z2 x0 x1 x2 y0 y1 y2 HGk
                      go_wp2_with fail
                      go_roundw
                      case rel => exact ⟨k + 1, _, by omega, rfl, by go_num, HN, HGn⟩
                      case measure => simp [intOf]; omega
            · have htk : decide (k < l1.length) = false := decide_eq_false hkl
              cases D with
              | true =>
                have hd := HD.out.1 rfl
                have HFd := Lib.hid (fun y (hg : Gr wC y) => HFin.out y hg hd)
                have hhit := HHit.out hd
                rw [hhit] at HFd
                have s1 : ∀ n : GrS wr.drew, n.w.cell? ⟨gz, 1, none⟩ = some (.slice q1 l1.length d1) := fun n => n.h.cell (w := wr.drew) z1
                have s2 : ∀ n : GrS wr.drew, n.w.cell? ⟨gz, 2, none⟩ = some (.slice q2 l2.length d2) := fun n => n.h.cell (w := wr.drew) z2
                clear hd hhit HHit HFin HD
                go_upto_region 20 with fail
                clear z0 z1 z2
                refine region_grow 11 162 (by kernel_rfl) rfl (by kernel_rfl) rfl rfl ?_
                simp only [List.take_succ_cons, List.take_zero, List.drop_succ_cons, List.drop_zero]
                refine seg 4 rfl rfl rfl rfl ?_
                simp only [List.take_succ_cons, List.take_zero, List.drop_succ_cons, List.drop_zero]
                repeat (go_big_quiet_step (fail))
                refine wpQuiet_nil ?_
                intro _
                refine grow_open (OwnL wC.heap.size (hashesD l1)) rfl rfl rfl rfl (OwnL.stb _ _) (fun w1 hG => ?_) ?_
                · go_simp
                  have hg1 : Gr wC w1 := HGk.out.trans (Gr.trans (Gr.drew wr) hG)
                  refine (hashed23_any (.slice q1 l1.length d1) l1 w1 (HQ1.out.gr hg1) HL1.out).mono ?_
                  rintro e w' ⟨u, rfl, ho, hb⟩
                  exact ⟨u, rfl, hb, ho.mono hg1.size⟩
                refine seg 2 rfl rfl rfl rfl ?_
                simp only [List.take_succ_cons, List.take_zero, List.drop_succ_cons, List.drop_zero]
                repeat (go_big_quiet_step (fail))
                refine wpQuiet_nil ?_
                intro _
                refine grow_open (OwnL wC.heap.size (hashesD l2)) rfl rfl rfl rfl (OwnL.stb _ _) (fun w1 hG => ?_) ?_
                · go_simp
                  have hg1 : Gr wC w1 := HGk.out.trans (Gr.trans (Gr.drew wr) hG)
                  refine (hashed23_any (.slice q2 l2.length d2) l2 w1 (HQ2.out.gr hg1) HL2.out).mono ?_
                  rintro e w' ⟨u, rfl, ho, hb⟩
                  exact ⟨u, rfl, hb, ho.mono hg1.size⟩
                refine grow_det2 153 156 (v := .bool true) rfl (by decide) (by decide) rfl rfl rfl rfl (by decide) (by decide) rfl rfl rfl rfl (fun w1 u u2 hG hu hu2 => ?_) ?_
                · simp only [Act.put, List.setIfInBounds_toArray, List.set_cons_zero, List.set_cons_succ]
                  go_simp
                  refine (HFd.out w1 (HGk.out.trans (Gr.trans (Gr.drew wr) hG)) u u2 hu hu2).mono ?_
                  rintro e w' ⟨rfl, hb⟩
                  exact ⟨rfl, hb⟩
                simp only [Act.put, List.setIfInBounds_toArray, List.set_cons_zero, List.set_cons_succ]
                refine seg 1 rfl rfl rfl rfl ?_
                simp only [List.take_succ_cons, List.take_zero, List.drop_succ_cons, List.drop_zero]
                repeat (go_big_quiet_step (fail))
                refine wpQuiet_nil ?_
                intro _
                refine grow_det (v := .bool false) rfl rfl rfl rfl rfl ?_ ?_
                · intro w1 hG
                  go_simp
                simp only [Act.put, List.setIfInBounds_toArray, List.set_cons_zero, List.set_cons_succ]
                refine grow_end2 rfl rfl (by decide) (by decide) rfl ?_
                intro wq u1 u2 hG hu1 hu2
                simp only [Act.put, List.setIfInBounds_toArray, List.set_cons_zero, List.set_cons_succ]
                have HGn := Lib.hid (HGAC.out.trans (HGk.out.trans (Gr.trans (Gr.drew wr) hG)))
                clear hu1 hu2 hG s1 s2 HFd
                go_wp2_with fail
                go_roundw
                case rel => exact ⟨i + 1, by omega, by go_num, HGn⟩
                case measure => simp [intOf]; omega
              | false =>
                clear HFin HHit HD
                go_upto_region 20 with fail
                go_quiet (fail)
                rename_i nq
                have hgq : Gr wr (wr.drewN nq) := ⟨rfl, rfl, rfl, Nat.le_refl _, fun _ _ => rfl⟩
                generalize wr.drewN nq = wq at hgq ⊢
                have HGn := Lib.hid (HGAC.out.trans (HGk.out.trans hgq))
                clear hgq z0 z1 z2
                go_wp2_with fail
                go_roundw
                case rel => exact ⟨i + 1, by omega, by go_num, HGn⟩
                case measure => simp [intOf]; omega
    · have ht : decide (i < 4) = false := decide_eq_false hlt
      have ht' : decide ((i : Int) < 4) = false := decide_eq_false (by omega)
      clear HEnt HR9
      go_wp2_with fail
      go_ret
      exact ⟨rfl, HGw.out.trans HG.out⟩
end Go.Proofs.YtakhomofckcckaaGreatDoor
