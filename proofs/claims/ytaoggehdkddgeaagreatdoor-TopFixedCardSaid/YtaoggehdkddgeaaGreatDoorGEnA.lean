/- The contracts of Encode of both sides. -/
import Derived.Lib.Join
import Derived.Test.YtaoggehdkddgeaaGreatDoorNB
import Derived.Test.YtaoggehdkddgeaaGreatDoorGGrowF
import Derived.Laws.ResultCell
section
namespace Go.Proofs.YtaoggehdkddgeaaGreatDoor
open Go Go.RowKit Go.Shelf
attribute [local go_sem] gAt gUpon
attribute [local simp] Gr.refl Gr.alloc

end Go.Proofs.YtaoggehdkddgeaaGreatDoor
end
section
namespace Go.Proofs.YtaoggehdkddgeaaGreatDoor
open Go

section
variable {P : Program} {ops : Array Oper} {Q : Exit → Act → World → Prop} {md : Region.Mode} {S : World → Prop} {fuel : Nat} {listed : Array Bool} {a : Act} {w : World}
end
end Go.Proofs.YtaoggehdkddgeaaGreatDoor
end
section
namespace Go.Proofs.YtaoggehdkddgeaaGreatDoor
open Go Go.RowKit Go.Shelf
attribute [local go_sem] gAt gUpon
attribute [local simp] Gr.refl Gr.alloc

def mkEn (p : ByteArray) (f : Int) (s : ByteArray) : En := ⟨p, f, (s.size : Int), sha s⟩
def entsD (ps : List ByteArray) (fs : List Int) (ss : List ByteArray) (k : Nat) : List En := (List.range k).map fun i => mkEn (ps.getD i ⟨#[]⟩) (fs.getD i 0) (ss.getD i ⟨#[]⟩)
theorem entsD_len (ps : List ByteArray) (fs : List Int) (ss : List ByteArray) (k : Nat) : (entsD ps fs ss k).length = k := by unfold entsD; simp
theorem entsD_step {ps : List ByteArray} {fs : List Int} {ss : List ByteArray} {k : Nat} {p s : ByteArray} {f : Int} (hp : ps[k]? = some p) (hf : fs[k]? = some f) (hs : ss[k]? = some s) : (entsD ps fs ss (k + 1)).flatMap enC = (entsD ps fs ss k).flatMap enC ++ enC (mkEn p f s) := by
  unfold entsD
  rw [List.range_succ, List.map_append, List.flatMap_append]
  simp [List.getD_eq_getElem?_getD, hp, hf, hs]
/-- what Make gives: whether it is OK, and the entries -/
def mkOk (id ver : Int) (ps : List ByteArray) (fs : List Int) (ss : List ByteArray) : Bool := decide (ps.length = fs.length) && (decide (ps.length = ss.length) && validD id ver (entsD ps fs ss ss.length))
def mkI (ok : Bool) (n : Int) : Int := if ok then n else 0
def mkL (ok : Bool) (l : List En) : List En := if ok then l else []
def mkE (ok : Bool) : Int := if ok then 0 else 140
def MkRes (w : World) (ok : Bool) (id ver : Int) (l : List En) (e : Ending) (w' : World) : Prop :=
  ∃ v, e = .returned (.tuple #[.agg #[.int .i64 (mkI ok id), .int .i64 (mkI ok ver), v], .int .i64 (mkE ok)]) ∧ Own w.heap.size 4 v (mkL ok l).length ((mkL ok l).flatMap enC) w' ∧ Gr w w'
theorem MkRes.bad {w : World} {id ver : Int} {l : List En} {w' : World} (hg : Gr w w') : MkRes w false id ver l (.returned (.tuple #[.agg #[.int .i64 0, .int .i64 0, .slice none 0 0], .int .i64 140])) w' := ⟨_, rfl, Own.nil _ _ _, hg⟩
theorem row_set3 {W : World} {g : Nat} {a b c a' b' c' : Value} {t : TypeId} (h : W.heap[g]? = some (.cells #[a, b, c] t (0, 0))) :
    (((W.setCell ⟨g, 0, none⟩ a').setCell ⟨g, 1, none⟩ b').setCell ⟨g, 2, none⟩ c').heap[g]? = some (.cells #[a', b', c'] t (0, 0)) := by
  have h0 := heap_setCell_same W g 0 _ t a' h
  have h1 := heap_setCell_same _ g 1 _ t b' h0
  rw [heap_setCell_same _ g 2 _ t c' h1]
  rfl
theorem frozen3 {W : World} {g : Nat} {a b c : Value} {t : TypeId} (h : W.heap[g]? = some (.cells #[a, b, c] t (0, 0))) :
    W.frozen? ⟨g, 0, none⟩ = false ∧ W.frozen? ⟨g, 1, none⟩ = false ∧ W.frozen? ⟨g, 2, none⟩ = false :=
  ⟨frozen_of_row _ _ _ _ _ h, frozen_of_row _ _ _ _ _ h, frozen_of_row _ _ _ _ _ h⟩
set_option maxRecDepth 100000 in
set_option maxHeartbeats 2000000 in
theorem make_any (id ver : Int) (vp vf vs : Value) (ps : List ByteArray) (fs : List Int) (ss : List ByteArray) (w : World) (hp : StrsAt vp ps w) (hf : Rws 1 inC vf fs w) (hs : StrsAt vs ss w)
    (hlp : ps.length ≤ 1000) (hls : ss.length ≤ 9223372036854775806) (hsp : ∀ x ∈ ps, x.size ≤ 9223372036854775807) (hss : ∀ x ∈ ss, x.size ≤ 140737488355000) (hT : Tab w) :
    Calls Tryz.prog 9 #[.int .i64 id, .int .i64 ver, vp, vf, vs] w (MkRes w (mkOk id ver ps fs ss) id ver (entsD ps fs ss ss.length)) := by
  obtain ⟨pp, cp, rfl⟩ := hp.shape
  obtain ⟨pf, cf, rfl⟩ := hf.shape
  obtain ⟨pq, cs, rfl⟩ := hs.shape
  have HP := Lib.hid hp
  have HF := Lib.hid hf
  have HS := Lib.hid hs
  have HT := Lib.hid hT
  have HSP := Lib.hid hsp
  have HSS := Lib.hid hss
  have HVa := Lib.hid (fun y (v : Value) (hv : Rws 4 enC v (entsD ps fs ss ss.length) y) => valid_any id ver v (entsD ps fs ss ss.length) y hv (by rw [entsD_len]; exact hls) (fun x hx => by
    unfold entsD at hx
    obtain ⟨i, hi, rfl⟩ := List.mem_map.1 hx
    show (ps.getD i ⟨#[]⟩).size ≤ _
    rw [List.getD_eq_getElem?_getD]
    cases hq : ps[i]? with
    | none => exact Nat.zero_le _
    | some z => exact hsp z (List.mem_of_getElem? hq)))
  obtain ⟨B, hB⟩ : ∃ B, mkOk id ver ps fs ss = B := ⟨_, rfl⟩
  rw [hB]
  have HB : Hid ((decide (ps.length = fs.length) && (decide (ps.length = ss.length) && validD id ver (entsD ps fs ss ss.length))) = B) := Lib.hid hB
  clear hp hf hs hT hsp hss hB
  go_enter Tryz.func9, Tryz.ntmps9
  go_upto_region 2 with fail
  refine wp_gen (F := fun z => Gr w z ∧ z.heap[w.heap.size]? = some (.cells #[.int .i64 0, .int .i64 0, .slice none 0 0] 43 (0, 0)) ∧ z.heap[w.heap.size + 1]? = some (.cells #[.int .i64 id, .int .i64 ver, .slice none 0 0] 43 (0, 0)) ∧ w.heap.size + 2 ≤ z.heap.size) ⟨(Gr.alloc _ _).trans (Gr.alloc _ _), (Gr.alloc _ _).block (heap_alloc_new _ _), by
    have h := heap_alloc_new (w.alloc (.cells #[.int .i64 0, .int .i64 0, .slice none 0 0] 43)) (.cells #[.int .i64 id, .int .i64 ver, .slice none 0 0] 43)
    simpa using h, by simp⟩ ?_
  rintro wA ⟨hgA, hrA, hrB, hszA⟩
  have HGA := Lib.hid hgA
  have HRA := Lib.hid hrA
  have HRB := Lib.hid hrB
  have HSZ := Lib.hid hszA
  clear hgA hrA hrB hszA
  by_cases e1 : ps.length = fs.length
  · have t1 : ((ps.length : Int) != (fs.length : Int)) = false := by rw [e1]; simp
    by_cases e2 : ps.length = ss.length
    · have t2 : ((ps.length : Int) != (ss.length : Int)) = false := by rw [e2]; simp
      by_cases e3 : 64 < ps.length
      · have t3 : decide (64 < (ps.length : Int)) = true := decide_eq_true (by omega)
        have t3' : decide (64 < ps.length) = true := decide_eq_true e3
        obtain rfl : B = false := by
          rw [← HB.out]
          have : validD id ver (entsD ps fs ss ss.length) = false := vfalse (fun h => by
            have := (valid_head h).2.1
            rw [entsD_len] at this; omega)
          rw [this]; simp
        obtain ⟨k0, k1, k2⟩ := row3 HRA.out
        obtain ⟨f0, f1, f2⟩ := frozen3 HRA.out
        have hch : Chg (some w.heap.size) wA (((wA.setCell ⟨w.heap.size, 0, none⟩ (.int .i64 0)).setCell ⟨w.heap.size, 1, none⟩ (.int .i64 0)).setCell ⟨w.heap.size, 2, none⟩ (.slice none 0 0)) := setCells_chg w.heap.size [.int .i64 0, .int .i64 0, .slice none 0 0] 0 wA
        have HRow := Lib.hid (row_set3 (a' := .int .i64 0) (b' := .int .i64 0) (c' := .slice none 0 0) HRA.out)
        have HGx : Hid (Gr w (((wA.setCell ⟨w.heap.size, 0, none⟩ (.int .i64 0)).setCell ⟨w.heap.size, 1, none⟩ (.int .i64 0)).setCell ⟨w.heap.size, 2, none⟩ (.slice none 0 0))) := Lib.hid (gr_step HGA.out (Gr.refl _) hch (fun g e => by cases e; exact Nat.le_refl _))
        clear hch
        go_wp2_with fail
        obtain ⟨m0, m1, m2⟩ := row3 HRow.out
        refine bodyPost_ret (v := .tuple #[.agg #[.int .i64 0, .int .i64 0, .slice none 0 0], .int .i64 140]) ?_ rfl (MkRes.bad HGx.out)
        simp [results, Tryz.results9, go_sem, m0, m1, m2]
      · have t3 : decide (64 < (ps.length : Int)) = false := decide_eq_false (by omega)
        have t3' : decide (64 < ps.length) = false := decide_eq_false e3
        have HB : Hid (validD id ver (entsD ps fs ss ss.length) = B) := Lib.hid (by
          rw [← HB.out, decide_eq_true e1, decide_eq_true e2]; rfl)
        obtain ⟨iE, hiE, hzE, hszE, hbE⟩ := info_parts infoEn
        have HI := Lib.hid hiE
        have HI0 := Lib.hid hzE
        have HI1 := Lib.hid hszE
        have HI2 := Lib.hid hbE
        clear hiE hzE hszE hbE
        have hne : ps.length ≤ 64 := by omega
        obtain ⟨bp, hbp⟩ : ∃ b, w.heap.size + 1 = b := ⟨_, rfl⟩
        obtain ⟨br, hbr⟩ : ∃ b, w.heap.size = b := ⟨_, rfl⟩
        have Hbp : Hid (bp = br + 1 ∧ w.heap.size = br) := Lib.hid ⟨by omega, hbr⟩
        rw [hbp] at HRB ⊢
        rw [hbr] at HRA ⊢
        clear hbp hbr
        go_wp2_with fail
        go_loopw [38] (fun v38 W => ∃ (k : Nat) (V : Value), k ≤ ss.length ∧ v38 = .int .i64 (k : Int) ∧ Hid (Gr w W) ∧ Hid (br + 2 ≤ W.heap.size) ∧ Hid (W.heap[br]? = some (.cells #[.int .i64 0, .int .i64 0, .slice none 0 0] 43 (0, 0))) ∧ Hid (W.heap[bp]? = some (.cells #[.int .i64 id, .int .i64 ver, V] 43 (0, 0))) ∧ Hid (Own (br + 2) 4 V k ((entsD ps fs ss k).flatMap enC) W)) (fun v38 _ => ss.length - (intOf v38).toNat)
        case atStart => exact ⟨0, _, Nat.zero_le _, rfl, HGA, Lib.hid (by have := HSZ.out; have := Hbp.out; omega), HRA, HRB, Lib.hid (Own.nil _ _ _)⟩
        clear HRA HRB
        case round =>
          obtain ⟨k, V, hk, rfl, HG, HZ, HRA, HRB, HO⟩ := hrel
          by_cases hlt : k < ss.length
          · have ht : decide (k < ss.length) = true := decide_eq_true hlt
            have ht' : decide ((k : Int) < (ss.length : Int)) = true := decide_eq_true (by omega)
            obtain ⟨xs, hxs⟩ : ∃ x, ss[k]? = some x := ⟨_, List.getElem?_eq_getElem hlt⟩
            obtain ⟨xp, hxp⟩ : ∃ x, ps[k]? = some x := ⟨_, List.getElem?_eq_getElem (by omega)⟩
            obtain ⟨xf, hxf⟩ : ∃ x, fs[k]? = some x := ⟨_, List.getElem?_eq_getElem (by omega)⟩
            have HSt := Lib.hid (entsD_step hxp hxf hxs)
            have HSum := Lib.hid (fun y (ht : Tab y) => sum_any xs y (HSS.out xs (List.mem_of_getElem? hxs)) ht)
            obtain ⟨gq, oq, hpq, hcq⟩ : ∃ g off, pq = some ⟨g, off, none⟩ ∧ wr.cell? ⟨g, off + k, none⟩ = some (.string xs) := by
              rcases HS.out.gr HG.out with ⟨he, h0⟩ | ⟨g, off, cap, he, _, _, hc⟩
              · rw [h0] at hlt; exact absurd hlt (by simp)
              · injection he with e1 e2 e3
                exact ⟨g, off, e1, hc k xs hxs⟩
            obtain ⟨gp, op, hpp, hcp⟩ : ∃ g off, pp = some ⟨g, off, none⟩ ∧ wr.cell? ⟨g, off + k, none⟩ = some (.string xp) := by
              rcases HP.out.gr HG.out with ⟨he, h0⟩ | ⟨g, off, cap, he, _, _, hc⟩
              · rw [h0] at hxp; exact absurd hxp (by simp)
              · injection he with e1 e2 e3
                exact ⟨g, off, e1, hc k xp hxp⟩
            obtain ⟨gf, of, hpf, hlf', hcf⟩ := (HF.out.gr HG.out).at_ hxf
            have hcf0 := hcf 0 _ rfl
            rw [Nat.mul_one, Nat.add_zero] at hcf0
            subst hpq hpp hpf
            have hgp : gp < br := by
              rcases HP.out with ⟨he, h0⟩ | ⟨g, off, cap, he, _, _, hc⟩
              · rw [h0] at hxp; exact absurd hxp (by simp)
              · injection he with e1 e2 e3
                injection e1 with e1; injection e1 with e1
                subst e1
                have := World.block_lt_of_cell? w _ (hc k xp hxp)
                have := Hbp.out; simp at *; omega
            have hgf : gf < br := by
              obtain ⟨gf', of', hpf', _, hcf'⟩ := HF.out.at_ hxf
              injection hpf' with e1; injection e1 with e1 e2
              subst e1
              have := World.block_lt_of_cell? w _ (hcf' 0 _ rfl)
              have := Hbp.out; simp at *; omega
            obtain ⟨m0, m1, m2⟩ := row3 HRB.out
            have i0 : (0 : Int) ≤ (k : Int) := by omega
            have i1 : (k : Int) < (ps.length : Int) := by omega
            have i2 : (k : Int) < (fs.length : Int) := by omega
            have HGf := Lib.hid hgf
            have HGp := Lib.hid hgp
            clear hcf hxs hxp hxf m0 m1 hgf hgp
            have S0 : ∀ q : GrS wr.drew, q.w.cell? ⟨bp, 2, none⟩ = some V := fun q => q.h.cell (w := wr.drew) m2
            have S1 : ∀ q : GrS wr.drew, q.w.cell? ⟨gp, op + k, none⟩ = some (.string xp) := fun q => q.h.cell (w := wr.drew) hcp
            have S2 : ∀ q : GrS wr.drew, q.w.cell? ⟨gf, of + k, none⟩ = some (.int .i64 xf) := fun q => q.h.cell (w := wr.drew) hcf0
            go_upto_region 7 with fail
            clear hcq m2 hcp hcf0
            refine region_grow 16 67 (by kernel_rfl) rfl (by kernel_rfl) rfl rfl ?_
            simp only [List.take_succ_cons, List.take_zero, List.drop_succ_cons, List.drop_zero]
            refine seg 13 rfl rfl rfl rfl ?_
            simp only [List.take_succ_cons, List.take_zero, List.drop_succ_cons, List.drop_zero]
            repeat (go_big_quiet_step (fail))
            refine wpQuiet_nil ?_
            intro _
            refine grow_det (v := .string (sha xs)) rfl rfl rfl rfl rfl ?_ ?_
            · intro w1 hG
              go_simp
              refine (HSum.out w1 (HT.out.gr (HG.out.trans ((Gr.drew wr).trans hG)))).mono ?_
              rintro e w' ⟨rfl, hb⟩
              exact ⟨rfl, hb⟩
            simp only [Act.put, List.setIfInBounds_toArray, List.set_cons_zero, List.set_cons_succ]
            refine grow_det (v := .agg #[.string xp, .int .i64 xf, .int .i64 (xs.size : Int), .string (sha xs)]) rfl rfl rfl rfl rfl ?_ ?_
            · intro w1 hG
              go_simp
            simp only [Act.put, List.setIfInBounds_toArray, List.set_cons_zero, List.set_cons_succ]
            refine grow_open (NewEl [.string xp, .int .i64 xf, .int .i64 (xs.size : Int), .string (sha xs)] 51) rfl rfl rfl rfl (stb_el _ _) (fun wX hG => ?_) ?_
            · go_simp
              exact newEl_alloc _ [.string xp, .int .i64 xf, .int .i64 (xs.size : Int), .string (sha xs)] _
            refine grow_end1 rfl rfl (by decide) (fun w2 u hG hu => ?_)
            obtain ⟨bn, rfl, hbn⟩ := hu
            simp only [Act.put, List.setIfInBounds_toArray, List.set_cons_zero, List.set_cons_succ]
            · have HG2 := Lib.hid ((Gr.drew wr).trans hG)
              have HBn := Lib.hid hbn
              clear hG S0 S1 S2 HSum hbn
              have HO2 := Lib.hid (HO.out.gr HG2.out)
              have hsz2 : br + 2 ≤ w2.heap.size := by
                have := HZ.out; have := HG2.out.size; omega
              go_wp2_with ((with_reducible show wpList _ _ _ (⟨some 59, _, _, _, _, _⟩ :: _) _ _); refine wpList_append_Own rfl (.tmp 44) (.tmp 58) 41 rfl 51 iE (.agg #[.string ⟨#[]⟩, .int .i64 0, .int .i64 0, .string ⟨#[]⟩]) 4 48 Tryz.underlying41 HI.out HI0.out HI1.out HI2.out rfl (by decide) rfl HO2.out ⟨bn, 0, none⟩ 1 1 [.string xp, .int .i64 xf, .int .i64 (xs.size : Int), .string (sha xs)] rfl rfl (row_at HBn.out) (enC_one (mkEn xp xf xs)) (by decide) ?b1 ?b2 hsz2 ?_)
              case b1 => unfold maxLen; omega
              case b2 => omega
              intro v9 w9 hown hchg _
              replace hown : Own (br + 2) 4 v9 (k + 1) ((entsD ps fs ss k).flatMap enC ++ enC (mkEn xp xf xs)) w9 := hown
              rw [← HSt.out] at hown
              obtain ⟨p9, c9, rfl⟩ := hown.slice
              have hz9 : br + 2 ≤ w9.heap.size := Nat.le_trans hsz2 hchg.size
              have hne9 : ∀ b, b < br + 2 → some b ≠ V.ownBlock := fun b hb e => by have := HO2.out.ge e.symm; omega
              have HRA9 := Lib.hid (hchg.block (HG2.out.block HRA.out) (hne9 br (by omega)))
              have HRB9 := Lib.hid (hchg.block (HG2.out.block HRB.out) (hne9 bp (by have := Hbp.out; omega)))
              have HG9 : Hid (Gr w w9) := Lib.hid (gr_step (HG.out.trans HG2.out) (Gr.refl _) hchg (fun g hg => by have := HO2.out.ge hg; have := Hbp.out; omega))
              have HO9 := Lib.hid hown
              have HZ9 := Lib.hid hz9
              clear hown hchg hz9 hne9 hsz2 HO2 HO HRA HRB HG HG2 HZ HSt HBn
              obtain ⟨m0, m1, m2⟩ := row3 HRB9.out
              obtain ⟨f0, f1, f2⟩ := frozen3 HRB9.out
              have HCh : Hid (Chg (some bp) w9 (w9.setCell ⟨bp, 2, none⟩ (.slice p9 (k + 1) c9))) := Lib.hid (setCells_chg bp [.slice p9 (k + 1) c9] 2 w9)
              have HRBx : Hid ((w9.setCell ⟨bp, 2, none⟩ (.slice p9 (k + 1) c9)).heap[bp]? = some (.cells #[.int .i64 id, .int .i64 ver, .slice p9 (k + 1) c9] 43 (0, 0))) := Lib.hid (by
                rw [heap_setCell_same w9 bp 2 _ _ (.slice p9 (k + 1) c9) HRB9.out]; rfl)
              have HRAx := Lib.hid (HCh.out.block HRA9.out (by have := Hbp.out; simp; omega))
              have HGx : Hid (Gr w (w9.setCell ⟨bp, 2, none⟩ (.slice p9 (k + 1) c9))) := Lib.hid (gr_step HG9.out (Gr.refl _) HCh.out (fun g e => by cases e; have := Hbp.out; omega))
              have HOx := Lib.hid (HO9.out.keep HCh.out (.inr (fun e => by have := HO9.out.ge e; have := Hbp.out; omega)))
              have HZx : Hid (br + 2 ≤ (w9.setCell ⟨bp, 2, none⟩ (.slice p9 (k + 1) c9)).heap.size) := Lib.hid (Nat.le_trans HZ9.out HCh.out.size)
              clear HCh HRA9 HRB9 HG9 HO9 HZ9
              go_wp2_with fail
              go_roundw
              case rel => exact ⟨k + 1, _, by omega, by go_num, HGx, HZx, HRAx, HRBx, HOx⟩
              case measure => simp [intOf]; omega
          · have ht : decide (k < ss.length) = false := decide_eq_false hlt
            have ht' : decide ((k : Int) < (ss.length : Int)) = false := decide_eq_false (by omega)
            obtain rfl : k = ss.length := by omega
            obtain ⟨m0, m1, m2⟩ := row3 HRB.out
            have HOe : Hid (Own (br + 2) 4 V (entsD ps fs ss ss.length).length ((entsD ps fs ss ss.length).flatMap enC) wr) := Lib.hid (by rw [entsD_len]; exact HO.out)
            have HC := Lib.hid (HVa.out wr V (own_rws enC_len HOe.out))
            rw [HB.out] at HC
            obtain ⟨LL, hLL⟩ : ∃ LL, entsD ps fs ss ss.length = LL := ⟨_, rfl⟩
            rw [hLL] at HOe
            have HLL := Lib.hid hLL
            clear hLL HVa HB
            go_wp2_with fail
            refine HC.out.mono ?_
            rintro e w5 ⟨rfl, hg⟩
            have HRA5 := Lib.hid (hg.block HRA.out)
            have HRB5 := Lib.hid (hg.block HRB.out)
            have HG5 := Lib.hid (HG.out.trans hg)
            have HO5 := Lib.hid (HOe.out.gr hg)
            clear hg m0 m1 m2 HRA HRB HG HO HOe HC
            obtain ⟨k0, k1, k2⟩ := row3 HRA5.out
            obtain ⟨f0, f1, f2⟩ := frozen3 HRA5.out
            have hbr := Hbp.out
            cases B with
            | false =>
              have hch : Chg (some br) w5 (((w5.setCell ⟨br, 0, none⟩ (.int .i64 0)).setCell ⟨br, 1, none⟩ (.int .i64 0)).setCell ⟨br, 2, none⟩ (.slice none 0 0)) := setCells_chg br [.int .i64 0, .int .i64 0, .slice none 0 0] 0 w5
              have HRow := Lib.hid (row_set3 (a' := .int .i64 0) (b' := .int .i64 0) (c' := .slice none 0 0) HRA5.out)
              have HGx : Hid (Gr w (((w5.setCell ⟨br, 0, none⟩ (.int .i64 0)).setCell ⟨br, 1, none⟩ (.int .i64 0)).setCell ⟨br, 2, none⟩ (.slice none 0 0))) := Lib.hid (gr_step HG5.out (Gr.refl _) hch (fun g e => by cases e; omega))
              clear hch hbr
              go_wp2_with fail
              obtain ⟨m0, m1, m2⟩ := row3 HRow.out
              refine bodyPost_ret (v := .tuple #[.agg #[.int .i64 0, .int .i64 0, .slice none 0 0], .int .i64 140]) ?_ rfl (MkRes.bad HGx.out)
              simp [results, Tryz.results9, go_sem, m0, m1, m2]
            | true =>
              obtain ⟨p9, c9, rfl⟩ := HO5.out.slice
              obtain ⟨q0, q1, q2⟩ := row3 HRB5.out
              have hch : Chg (some br) w5 (((w5.setCell ⟨br, 0, none⟩ (.int .i64 id)).setCell ⟨br, 1, none⟩ (.int .i64 ver)).setCell ⟨br, 2, none⟩ (.slice p9 LL.length c9)) := setCells_chg br [.int .i64 id, .int .i64 ver, .slice p9 LL.length c9] 0 w5
              have HRow := Lib.hid (row_set3 (a' := .int .i64 id) (b' := .int .i64 ver) (c' := .slice p9 LL.length c9) HRA5.out)
              have HGx : Hid (Gr w (((w5.setCell ⟨br, 0, none⟩ (.int .i64 id)).setCell ⟨br, 1, none⟩ (.int .i64 ver)).setCell ⟨br, 2, none⟩ (.slice p9 LL.length c9))) := Lib.hid (gr_step HG5.out (Gr.refl _) hch (fun g e => by cases e; omega))
              have HOx := Lib.hid ((HO5.out.keep hch (.inr (fun e => by have := HO5.out.ge e; omega))).mono (show w.heap.size ≤ br + 2 by omega))
              clear hch hbr
              go_wp2_with fail
              obtain ⟨m0, m1, m2⟩ := row3 HRow.out
              refine bodyPost_ret (v := .tuple #[.agg #[.int .i64 id, .int .i64 ver, .slice p9 LL.length c9], .int .i64 0]) ?_ rfl ⟨_, rfl, by
                show Own _ _ _ (entsD ps fs ss ss.length).length ((entsD ps fs ss ss.length).flatMap enC) _
                rw [HLL.out]; exact HOx.out, HGx.out⟩
              simp [results, Tryz.results9, go_sem, m0, m1, m2]
    · have t2 : ((ps.length : Int) != (ss.length : Int)) = true := by rw [bne_iff_ne]; omega
      obtain rfl : B = false := by rw [← HB.out, decide_eq_false e2]; simp
      obtain ⟨k0, k1, k2⟩ := row3 HRA.out
      obtain ⟨f0, f1, f2⟩ := frozen3 HRA.out
      have hch : Chg (some w.heap.size) wA (((wA.setCell ⟨w.heap.size, 0, none⟩ (.int .i64 0)).setCell ⟨w.heap.size, 1, none⟩ (.int .i64 0)).setCell ⟨w.heap.size, 2, none⟩ (.slice none 0 0)) := setCells_chg w.heap.size [.int .i64 0, .int .i64 0, .slice none 0 0] 0 wA
      have HRow := Lib.hid (row_set3 (a' := .int .i64 0) (b' := .int .i64 0) (c' := .slice none 0 0) HRA.out)
      have HGx : Hid (Gr w (((wA.setCell ⟨w.heap.size, 0, none⟩ (.int .i64 0)).setCell ⟨w.heap.size, 1, none⟩ (.int .i64 0)).setCell ⟨w.heap.size, 2, none⟩ (.slice none 0 0))) := Lib.hid (gr_step HGA.out (Gr.refl _) hch (fun g e => by cases e; exact Nat.le_refl _))
      clear hch
      go_wp2_with fail
      obtain ⟨m0, m1, m2⟩ := row3 HRow.out
      refine bodyPost_ret (v := .tuple #[.agg #[.int .i64 0, .int .i64 0, .slice none 0 0], .int .i64 140]) ?_ rfl (MkRes.bad HGx.out)
      simp [results, Tryz.results9, go_sem, m0, m1, m2]
  · have t1 : ((ps.length : Int) != (fs.length : Int)) = true := by rw [bne_iff_ne]; omega
    obtain rfl : B = false := by rw [← HB.out, decide_eq_false e1]; simp
    obtain ⟨k0, k1, k2⟩ := row3 HRA.out
    obtain ⟨f0, f1, f2⟩ := frozen3 HRA.out
    have hch : Chg (some w.heap.size) wA (((wA.setCell ⟨w.heap.size, 0, none⟩ (.int .i64 0)).setCell ⟨w.heap.size, 1, none⟩ (.int .i64 0)).setCell ⟨w.heap.size, 2, none⟩ (.slice none 0 0)) := setCells_chg w.heap.size [.int .i64 0, .int .i64 0, .slice none 0 0] 0 wA
    have HRow := Lib.hid (row_set3 (a' := .int .i64 0) (b' := .int .i64 0) (c' := .slice none 0 0) HRA.out)
    have HGx : Hid (Gr w (((wA.setCell ⟨w.heap.size, 0, none⟩ (.int .i64 0)).setCell ⟨w.heap.size, 1, none⟩ (.int .i64 0)).setCell ⟨w.heap.size, 2, none⟩ (.slice none 0 0))) := Lib.hid (gr_step HGA.out (Gr.refl _) hch (fun g e => by cases e; exact Nat.le_refl _))
    clear hch
    go_wp2_with fail
    obtain ⟨m0, m1, m2⟩ := row3 HRow.out
    refine bodyPost_ret (v := .tuple #[.agg #[.int .i64 0, .int .i64 0, .slice none 0 0], .int .i64 140]) ?_ rfl (MkRes.bad HGx.out)
    simp [results, Tryz.results9, go_sem, m0, m1, m2]
end Go.Proofs.YtaoggehdkddgeaaGreatDoor
end
