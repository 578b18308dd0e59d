/- ManifestRoundTrip: the walk. -/
import Derived.Test.YtjnnhhengpinmaaGreatDoorNE
import Derived.Test.YtjnnhhengpinmaaGreatDoorMdA
import Derived.Test.YtjnnhhengpinmaaGreatDoorTripA
import Derived.Test.YtjnnhhengpinmaaGreatDoorMB
namespace Go.Proofs.YtjnnhhengpinmaaGreatDoor
open Go Go.RowKit Go.Shelf
attribute [local go_sem] gAt gUpon
attribute [local simp] Gr.refl Gr.alloc

/-- a package as a value -/
def PkV (id ver : Int) (m : Nat) (l : List En) (v : Value) (w : World) : Prop := ∃ p c, v = .agg #[.int .i64 id, .int .i64 ver, .slice p m c] ∧ Rws 4 enC (.slice p m c) l w
theorem PkV.stb (id ver : Int) (m : Nat) (l : List En) : Stb (PkV id ver m l) := fun _ _ _ hg ⟨p, c, h1, h2⟩ => ⟨p, c, h1, h2.gr hg⟩
/-- two packages in a new slice -/
def Pk2 (id ver : Int) (m : Nat) (l : List En) (I J : Int) (u : Value) (v : Value) (w : World) : Prop := ∃ b p c, v = .slice (some ⟨b, 0, none⟩) 2 2 ∧ Rws 4 enC (.slice p m c) l w ∧
  w.heap[b]? = some (.cells #[.int .i64 id, .int .i64 ver, .slice p m c, .int .i64 I, .int .i64 J, u] 24 (0, 0))
theorem Pk2.stb (id ver : Int) (m : Nat) (l : List En) (I J : Int) (u : Value) : Stb (Pk2 id ver m l I J u) := fun _ _ _ hg ⟨b, p, c, h1, h2, h3⟩ => ⟨b, p, c, h1, h2.gr hg, hg.block h3⟩
/-- one of two packages -/
def TwoPk (b : Nat) (p q : Option Addr) (m n c d : Nat) (id ver I J : Int) (F E : List En) (w : World) : Prop := w.heap[b]? = some (.cells #[.int .i64 id, .int .i64 ver, .slice p m c, .int .i64 I, .int .i64 J, .slice q n d] 24 (0, 0)) ∧
  Rws 4 enC (.slice p m c) F w ∧ Rws 4 enC (.slice q n d) E w
theorem TwoPk.gr {b : Nat} {p q : Option Addr} {m n c d : Nat} {id ver I J : Int} {F E : List En} {w x : World} (h : TwoPk b p q m n c d id ver I J F E w) (hg : Gr w x) : TwoPk b p q m n c d id ver I J F E x :=
  ⟨hg.block h.1, h.2.1.gr hg, h.2.2.gr hg⟩
set_option maxRecDepth 100000 in
set_option maxHeartbeats 4000000 in
theorem trip_any (a0 a1 : Int) (va : Value) (la : List En) (v : Value) (l : List ByteArray) (id ver : Int) (more : ByteArray) (w : World) (ha : PkIn va la w) (hv : StrsIn v l w) (hl : l.length ≤ 9223372036854775806) (hs : ∀ x ∈ l, x.size ≤ 140737488355000) (hi : I64 id) (hj : I64 ver) (hm : more.size ≤ 140737488355000) (hT : Tab w) :
    Calls Tryz.prog 6 #[.agg #[.int .i64 a0, .int .i64 a1, va], v, .int .i64 id, .int .i64 ver, .string more] w fun e w' => e = .returned (.bool true) ∧ Gr w w' := by
  obtain ⟨pa, ca, rfl⟩ := ha.1.shape
  have HT := Lib.hid hT
  have HMd := Lib.hid (fun (y : World) (hg : Gr w y) => made2_any v l id ver y (hv.gr hg) hl hs hi hj (hT.gr hg))
  have HFw := Lib.hid (fun (y : World) (hg : Gr w y) => few_any a0 a1 (.slice pa la.length ca) la y (ha.1.gr hg) ha.2)
  clear hv hs hT hi hj ha
  go_enter Tryz.func6, Tryz.ntmps6
  go_upto_region 1 with fail
  obtain ⟨bx, hbx⟩ : ∃ b, w.heap.size = b := ⟨_, rfl⟩
  have hrow := heap_alloc_new w (.cells #[.int .i64 a0, .int .i64 a1, .slice pa la.length ca] 24)
  rw [hbx] at hrow
  simp only [hbx]
  have HG0 := Lib.hid (Gr.alloc w (.cells #[.int .i64 a0, .int .i64 a1, .slice pa la.length ca] 24))
  have HB0 := Lib.hid hrow
  clear hrow hbx
  generalize w.alloc (.cells #[.int .i64 a0, .int .i64 a1, .slice pa la.length ca] 24) = w0 at *
  go_wp2_with fail
  refine (sane_any w0 (HT.out.gr HG0.out)).mono ?_
  rintro e w1 ⟨rfl, hg1⟩
  have HG1 := Lib.hid (HG0.out.trans hg1)
  have HB1 := Lib.hid (hg1.block HB0.out)
  clear hg1 HG0 HB0
  go_wp2_with fail
  refine (HMd.out w1 HG1.out).mono ?_
  rintro e w2 ⟨I, J, n, E, P, S, p, pp, ps, c, cp, cs, rfl, hF, hR, hP, hS, -, hg2⟩
  have HF := Lib.hid hF
  have HM0 := Lib.hid (MadAt.start (I := I) (J := J) (n := n) (E := E) (p := p) (c := c) (HG1.out.trans hg2) hR hP.strs hS.strs)
  have HB2 := Lib.hid ((Gr.alloc w2 (.cells #[.int .i64 I, .int .i64 J, .slice p n c] 24)).block (hg2.block HB1.out))
  clear hF hR hP hS hg2 HG1 HMd HB1
  go_upto_region 3 with fail
  obtain ⟨b, hb⟩ : ∃ b, w2.heap.size = b := ⟨_, rfl⟩
  simp only [hb] at HM0 ⊢
  have HM := HM0
  clear HM0 hb
  generalize w2.alloc (.cells #[.int .i64 I, .int .i64 J, .slice p n c] 24) = w3 at HM HB2 ⊢
  have hmn : min (more.size : Int) 10 = ((min more.size 10 : Nat) : Int) := by omega
  have hmn2 : min more.size 10 ≤ more.size := Nat.min_le_left _ _
  obtain ⟨M, hM⟩ : ∃ M, more.extract 0 (min more.size 10) = M := ⟨_, rfl⟩
  have hMs : M.size ≤ 10 := by rw [← hM]; simp [ByteArray.size_extract]; omega
  have HMs := Lib.hid hMs
  clear hMs
  go_upto_region 4 with fail
  clear hM hmn hmn2
  obtain ⟨F, hFd⟩ : ∃ F, fewL la = F := ⟨_, rfl⟩
  obtain ⟨m, hm⟩ : ∃ m, F.length = m := ⟨_, rfl⟩
  have HFs : Hid (F.length = m ∧ m ≤ 66 ∧ ∀ x ∈ F, x.path.size ≤ 70) := Lib.hid (by
    refine ⟨hm, by rw [← hm, ← hFd]; unfold fewL; rw [List.length_map, List.length_take]; omega, fun x hx => ?_⟩
    rw [← hFd] at hx
    unfold fewL at hx
    obtain ⟨y, -, rfl⟩ := List.mem_map.1 hx
    show (cutD y.path 70).size ≤ 70
    rw [cutD_size]; omega)
  have HFc : Hid (∀ y, Gr w y → Calls Tryz.prog 19 #[.agg #[.int .i64 a0, .int .i64 a1, .slice pa la.length ca]] y fun e w' => ∃ v, e = .returned v ∧ Gr y w' ∧ PkV a0 a1 m F v w') := Lib.hid (fun y hg => (HFw.out y hg).mono (fun e w' ⟨u, h1, h2, h3⟩ => by
    rw [hFd, hm] at h2
    obtain ⟨q, d, rfl⟩ := h2.slice
    exact ⟨_, h1, h3, q, d, rfl, own_rws (l := F) enC_len (by rw [hm]; exact h2)⟩))
  clear HFw hFd hm
  have S0 : ∀ q : GrS w3.drew, q.w.cell? ⟨b, 0, none⟩ = some (.int .i64 I) := fun q => q.h.cell (w := w3.drew) (row3 HM.out.r).1
  have S1 : ∀ q : GrS w3.drew, q.w.cell? ⟨b, 1, none⟩ = some (.int .i64 J) := fun q => q.h.cell (w := w3.drew) (row3 HM.out.r).2.1
  have S2 : ∀ q : GrS w3.drew, q.w.cell? ⟨b, 2, none⟩ = some (.slice p n c) := fun q => q.h.cell (w := w3.drew) (row3 HM.out.r).2.2
  have X0 : ∀ q : GrS w3.drew, q.w.cell? ⟨bx, 0, none⟩ = some (.int .i64 a0) := fun q => q.h.cell (w := w3.drew) (row3 HB2.out).1
  have X1 : ∀ q : GrS w3.drew, q.w.cell? ⟨bx, 1, none⟩ = some (.int .i64 a1) := fun q => q.h.cell (w := w3.drew) (row3 HB2.out).2.1
  have X2 : ∀ q : GrS w3.drew, q.w.cell? ⟨bx, 2, none⟩ = some (.slice pa la.length ca) := fun q => q.h.cell (w := w3.drew) (row3 HB2.out).2.2
  refine region_grow 6 119 (by kernel_rfl) rfl (by kernel_rfl) rfl rfl ?_
  simp only [List.take_succ_cons, List.take_zero, List.drop_succ_cons, List.drop_zero]
  refine seg 1 rfl rfl rfl rfl ?_
  simp only [List.take_succ_cons, List.take_zero, List.drop_succ_cons, List.drop_zero]
  repeat (go_big_quiet_step (fail))
  refine wpQuiet_nil ?_
  intro _
  refine grow_open (PkV a0 a1 m F) rfl rfl rfl rfl (PkV.stb a0 a1 m F) (fun w1 hG => ?_) ?_
  · go_simp
    refine (HFc.out w1 (HM.out.g.trans ((Gr.drew w3).trans hG))).mono ?_
    rintro e w' ⟨v, rfl, hg, h⟩
    exact ⟨v, rfl, hg, h⟩
  refine seg 1 rfl rfl rfl rfl ?_
  simp only [List.take_succ_cons, List.take_zero, List.drop_succ_cons, List.drop_zero]
  repeat (go_big_quiet_step (fail))
  refine wpQuiet_nil ?_
  intro _
  refine grow_open1 40 (Pk2 a0 a1 m F I J (.slice p n c)) rfl rfl (by decide) rfl rfl rfl (by decide) rfl rfl (Pk2.stb a0 a1 m F I J _) (fun w1 u hG hu => ?_) ?_
  · obtain ⟨q, d, rfl, hr⟩ := hu
    simp only [Act.put, List.setIfInBounds_toArray, List.set_cons_zero, List.set_cons_succ]
    go_simp
    exact ⟨_, q, d, rfl, hr.gr (Gr.alloc _ _), heap_alloc_new _ _⟩
  refine grow_det1 42 (v := .int .i64 2) rfl (by decide) rfl rfl rfl (by decide) rfl rfl rfl (fun w1 u hG hu => ?_) ?_
  · obtain ⟨b, q, d, rfl, hr⟩ := hu
    simp only [Act.put, List.setIfInBounds_toArray, List.set_cons_zero, List.set_cons_succ]
    go_simp
  simp only [Act.put, List.setIfInBounds_toArray, List.set_cons_zero, List.set_cons_succ]
  refine seg 1 rfl rfl rfl rfl ?_
  simp only [List.take_succ_cons, List.take_zero, List.drop_succ_cons, List.drop_zero]
  repeat (go_big_quiet_step (fail))
  refine wpQuiet_nil ?_
  intro _
  refine grow_pop rfl (by decide) rfl (fun u42 => ?_)
  refine grow_pop rfl (by decide) rfl (fun u40 => ?_)
  refine grow_end0 rfl rfl (fun w4 hG h40 h42 => ?_)
  clear h40
  obtain ⟨bq, q, d, rfl, hq, hbq⟩ := h42
  simp only [Act.put, List.setIfInBounds_toArray, List.set_cons_zero, List.set_cons_succ]
  have hg4 := (Gr.drew w3).trans hG
  replace HM := Lib.hid (HM.out.gr hg4)
  have HQ : Hid (TwoPk bq q p m n d c a0 a1 I J F E w4) := Lib.hid ⟨hbq, hq, HM.out.e⟩
  clear hbq hq hG hg4 S0 S1 S2 X0 X1 X2 HFc HB2
  go_wp2_with fail
  go_loopw [16, 17, 18, 19, 20, 21, 22, 23, 24, 44] (fun v16 v17 v18 v19 v20 v21 v22 v23 v24 v44 W => ∃ (k : Nat), k ≤ 2 ∧ v44 = .int .i64 (k : Int) ∧ Hid (TwoPk bq q p m n d c a0 a1 I J F E W) ∧ Hid (MadAt w b I J n E P S p pp ps c cp cs W)) (fun _ _ _ _ _ _ _ _ _ v44 _ => 2 - (intOf v44).toNat)
  case atStart => exact ⟨0, by omega, rfl, HQ, HM⟩
  clear HQ HM
  case round =>
    obtain ⟨k, hk, rfl, HQ, HM⟩ := hrel
    by_cases hlt : k < 2
    · have ht : decide (k < 2) = true := decide_eq_true hlt
      have ht' : decide ((k : Int) < 2) = true := decide_eq_true (by omega)
      obtain ⟨xi, xj, xp, xm, xc, X, c0, c1, c2, hR, hX, hxm, hsz⟩ : ∃ xi xj xp xm xc X, wr.cell? ⟨bq, k * 3, none⟩ = some (.int .i64 xi) ∧ wr.cell? ⟨bq, k * 3 + 1, none⟩ = some (.int .i64 xj) ∧ wr.cell? ⟨bq, k * 3 + 2, none⟩ = some (.slice xp xm xc) ∧ Rws 4 enC (.slice xp xm xc) X wr ∧ X.length = xm ∧ xm ≤ 66 ∧ ∀ x ∈ X, x.path.size ≤ 70 := by
        obtain ⟨h1, h2, h3⟩ := HQ.out
        have hc := row_at h1
        match k, hlt with
        | 0, _ => exact ⟨a0, a1, q, m, d, F, hc 0 _ rfl, hc 1 _ rfl, hc 2 _ rfl, h2, HFs.out.1, HFs.out.2.1, HFs.out.2.2⟩
        | 1, _ => exact ⟨I, J, p, n, c, E, hc 3 _ rfl, hc 4 _ rfl, hc 5 _ rfl, h3, HF.out.eLen, by have := HF.out.bounds; omega, fun x hx => by rw [(HF.out.eSmall x hx).1]; decide⟩
      have HR := Lib.hid hR
      have HX := Lib.hid (And.intro hX (And.intro hxm hsz))
      clear hR hX hxm hsz
      have i0 : (0 : Int) ≤ (k : Int) := by omega
      have i1 : (k : Int) < 2 := by omega
      go_upto_region 7 with fail
      have hrow := heap_alloc_new wr (.cells #[.int .i64 xi, .int .i64 xj, .slice xp xm xc] 24)
      obtain ⟨bp, hbp⟩ : ∃ b, wr.heap.size = b := ⟨_, rfl⟩
      rw [hbp] at hrow
      simp only [hbp]
      have hga := Gr.alloc wr (.cells #[.int .i64 xi, .int .i64 xj, .slice xp xm xc] 24)
      replace HQ := Lib.hid (HQ.out.gr hga)
      replace HM := Lib.hid (HM.out.gr hga)
      replace HR := Lib.hid (HR.out.gr hga)
      have HP := Lib.hid hrow
      clear hrow hga hbp c0 c1 c2
      generalize wr.alloc (.cells #[.int .i64 xi, .int .i64 xj, .slice xp xm xc] 24) = wa at HQ HM HR HP ⊢
      have hXl : X.length ≤ 9223372036854775806 := by rw [HX.out.1]; have := HX.out.2.1; omega
      have hXp : ∀ x ∈ X, x.path.size ≤ 9223372036854775807 := fun x hx => Nat.le_trans (HX.out.2.2 x hx) (by decide)
      have HEn := Lib.hid (encode_any xi xj _ X wa HR.out hXl hXp)
      have HVa := Lib.hid (fun (y : World) (hg : Gr wa y) => valid_any xi xj _ X y (HR.out.gr hg) hXl hXp)
      have HRt := Lib.hid (fun (y : World) (hg : Gr wa y) => rootM_any xi xj _ X y (HR.out.gr hg) hXl hXp (HT.out.gr (HM.out.g.trans hg)))
      obtain ⟨k0, k1, k2⟩ := row3 HP.out
      cases hV : validD xi xj X with
      | false =>
        obtain ⟨e1, e2, e3⟩ := enc_off hV
        rw [e1, e2] at HEn
        rw [hV] at HVa
        rw [e3] at HRt
        clear e1 e2 e3 hV hXl hXp
        go_wp2_with fail
        clear k0 k1 k2
        refine HEn.out.mono ?_
        rintro e wb ⟨rfl, hgb⟩
        have HGb := Lib.hid hgb
        have HPb := Lib.hid (hgb.block HP.out)
        clear hgb HEn
        obtain ⟨k0, k1, k2⟩ := row3 HPb.out
        go_wp2_with fail
        clear k0 k1 k2
        refine (HVa.out wb HGb.out).mono ?_
        rintro e wc ⟨rfl, hgc⟩
        have HGc := Lib.hid (HGb.out.trans hgc)
        have HPc := Lib.hid (hgc.block HPb.out)
        clear hgc HGb HPb HVa
        obtain ⟨k0, k1, k2⟩ := row3 HPc.out
        go_wp2_with fail
        clear k0 k1 k2
        refine (HRt.out wc HGc.out).mono ?_
        rintro e wd ⟨rfl, hgd⟩
        have hgz := HGc.out.trans hgd
        replace HQ := Lib.hid (HQ.out.gr hgz)
        replace HM := Lib.hid (HM.out.gr hgz)
        clear hgd hgz HGc HPc HRt HP HR
        go_wp2_with fail
        go_roundw
        case rel => exact ⟨k + 1, by omega, by go_num, HQ, HM⟩
        case measure => simp [intOf]; omega
      | true =>
        obtain ⟨l1, l2, l3⟩ := trip_law hV M
        have hs1 := enc_pos hV
        have hs2 := enc_size xi xj X
        rw [(enc_on hV).2] at HEn
        rw [hV] at HVa
        clear hV HRt
        obtain ⟨s, hs⟩ : ∃ s, encB xi xj X = s := ⟨_, rfl⟩
        rw [hs] at HEn l1 l2 l3 hs1 hs2
        clear hs
        obtain ⟨f, hf⟩ : ∃ f, s.extract 0 (s.size - 1) = f := ⟨_, rfl⟩
        obtain ⟨t, htt⟩ : ∃ t, s ++ M = t := ⟨_, rfl⟩
        have hfs : f.size ≤ 9000000 := by rw [← hf]; simp [ByteArray.size_extract]; omega
        have hts : t.size ≤ 9000010 := by rw [← htt, ByteArray.size_append]; have := HMs.out; omega
        rw [hf] at l2
        rw [htt] at l3
        have HD1 := Lib.hid (fun y => decode_any s y (by omega))
        have HD2 := Lib.hid (fun y => decode_any f y (by omega))
        have HD3 := Lib.hid (fun y => decode_any t y (by omega))
        rw [l1] at HD1
        obtain ⟨d2, hd2⟩ : ∃ d2, decL f.data.toList = d2 := ⟨_, rfl⟩
        obtain ⟨d3, hd3⟩ : ∃ d3, decL t.data.toList = d3 := ⟨_, rfl⟩
        rw [hd2] at HD2 l2
        rw [hd3] at HD3 l3
        have HL2 := Lib.hid l2
        have HL3 := Lib.hid l3
        clear l1 l2 l3 hd2 hd3 hfs hts
        go_wp2_with fail
        clear k0 k1 k2
        refine HEn.out.mono ?_
        rintro e wb ⟨rfl, hgb⟩
        have HGb := Lib.hid hgb
        have HPb := Lib.hid (hgb.block HP.out)
        clear hgb HEn
        obtain ⟨k0, k1, k2⟩ := row3 HPb.out
        go_wp2_with fail
        clear k0 k1 k2
        refine (HVa.out wb HGb.out).mono ?_
        rintro e wc ⟨rfl, hgc⟩
        have HGc := Lib.hid (HGb.out.trans hgc)
        have HPc := Lib.hid (hgc.block HPb.out)
        clear hgc HGb HPb HVa
        go_wp2_with fail
        refine (HD1.out wc).mono ?_
        rintro e wd ⟨v5, rfl, ho5, hgd⟩
        rw [show dcI (.ok (xi, xj, X)) = xi from rfl, show dcV (.ok (xi, xj, X)) = xj from rfl, show dcE (.ok (xi, xj, X)) = 0 from rfl]
        have ho5 : Own wc.heap.size 4 v5 X.length (X.flatMap enC) wd := ho5
        obtain ⟨p5, c5, rfl⟩ := ho5.slice
        have HGd := Lib.hid (HGc.out.trans hgd)
        have HPd := Lib.hid (hgd.block HPc.out)
        have HY := Lib.hid (own_rws (l := X) enC_len ho5)
        clear ho5 hgd HGc HPc HD1
        have hsub : (s.size : Int) - 1 = ((s.size - 1 : Nat) : Int) := by omega
        have hsub2 : s.size - 1 ≤ s.size := by omega
        go_upto_region 12 with fail
        have hrow := heap_alloc_new wd (.cells #[.int .i64 xi, .int .i64 xj, .slice p5 X.length c5] 24)
        obtain ⟨by5, hby⟩ : ∃ b, wd.heap.size = b := ⟨_, rfl⟩
        rw [hby] at hrow
        simp only [hby]
        have hge := Gr.alloc wd (.cells #[.int .i64 xi, .int .i64 xj, .slice p5 X.length c5] 24)
        have HGe := Lib.hid (HGd.out.trans hge)
        have HPe := Lib.hid (hge.block HPd.out)
        replace HY := Lib.hid (HY.out.gr hge)
        have HYr := Lib.hid hrow
        clear hrow hge hby HGd HPd
        generalize wd.alloc (.cells #[.int .i64 xi, .int .i64 xj, .slice p5 X.length c5] 24) = we at HGe HPe HY HYr ⊢
        go_wp2_with fail
        refine (HD2.out we).mono ?_
        rintro e wf ⟨v6, rfl, ho6, hgf⟩
        obtain ⟨p6, c6, rfl⟩ := ho6.slice
        obtain ⟨n6, hn6⟩ : ∃ z, (dcL d2).length = z := ⟨_, rfl⟩
        obtain ⟨i6, hi6⟩ : ∃ z, dcI d2 = z := ⟨_, rfl⟩
        obtain ⟨j6, hj6⟩ : ∃ z, dcV d2 = z := ⟨_, rfl⟩
        rw [hn6, hi6, hj6]
        clear ho6 hn6 hi6 hj6
        obtain ⟨z2, hz2⟩ : ∃ z, dcE d2 = z := ⟨_, rfl⟩
        have h2 := HL2.out
        rw [hz2] at h2 ⊢
        clear hz2 HL2
        have z2t : (z2 == 0) = false := by rw [beq_eq_false_iff_ne]; omega
        have HGf := Lib.hid (HGe.out.trans hgf)
        have HPf := Lib.hid (hgf.block HPe.out)
        replace HY := Lib.hid (HY.out.gr hgf)
        replace HYr := Lib.hid (hgf.block HYr.out)
        clear hgf HGe HPe HD2 h2 hf
        go_upto_region 13 with fail
        have hgg := Gr.alloc wf (.cells #[.int .i64 i6, .int .i64 j6, .slice p6 n6 c6] 24)
        have HGg := Lib.hid (HGf.out.trans hgg)
        have HPg := Lib.hid (hgg.block HPf.out)
        replace HY := Lib.hid (HY.out.gr hgg)
        replace HYr := Lib.hid (hgg.block HYr.out)
        clear hgg HGf HPf
        generalize wf.alloc (.cells #[.int .i64 i6, .int .i64 j6, .slice p6 n6 c6] 24) = wg at HGg HPg HY HYr ⊢
        have hMs : M.size ≤ 10 := HMs.out
        go_wp2_with fail
        clear hMs htt
        refine (HD3.out wg).mono ?_
        rintro e wh ⟨v7, rfl, ho7, hgh⟩
        obtain ⟨p7, c7, rfl⟩ := ho7.slice
        obtain ⟨n7, hn7⟩ : ∃ z, (dcL d3).length = z := ⟨_, rfl⟩
        obtain ⟨i7, hi7⟩ : ∃ z, dcI d3 = z := ⟨_, rfl⟩
        obtain ⟨j7, hj7⟩ : ∃ z, dcV d3 = z := ⟨_, rfl⟩
        obtain ⟨z3, hz3⟩ : ∃ z, dcE d3 = z := ⟨_, rfl⟩
        have h3 := HL3.out
        rw [hz3] at h3
        rw [hn7, hi7, hj7, hz3]
        obtain ⟨B, hB⟩ : ∃ B, (M.toList == []) = B := ⟨_, rfl⟩
        rw [hB] at h3
        have z3t : (z3 == 0) = B := by rw [h3]; cases B <;> rfl
        clear ho7 hn7 hi7 hj7 hz3 h3 HL3
        have HGh := Lib.hid (HGg.out.trans hgh)
        have HPh := Lib.hid (hgh.block HPg.out)
        replace HY := Lib.hid (HY.out.gr hgh)
        replace HYr := Lib.hid (hgh.block HYr.out)
        clear hgh HGg HPg HD3
        go_upto_region 14 with fail
        have hgi := Gr.alloc wh (.cells #[.int .i64 i7, .int .i64 j7, .slice p7 n7 c7] 24)
        have HGi := Lib.hid (HGh.out.trans hgi)
        have HPi := Lib.hid (hgi.block HPh.out)
        replace HY := Lib.hid (HY.out.gr hgi)
        replace HYr := Lib.hid (hgi.block HYr.out)
        clear hgi HGh HPh
        generalize wh.alloc (.cells #[.int .i64 i7, .int .i64 j7, .slice p7 n7 c7] 24) = wi at HGi HPi HY HYr ⊢
        have HSa := Lib.hid (same_any xi xj xi xj _ _ X X wi (HR.out.gr HGi.out) HY.out (by rw [HX.out.1]; have := HX.out.2.1; omega))
        rw [show sameD xi xj X xi xj X = true by unfold sameD; simp] at HSa
        obtain ⟨k0, k1, k2⟩ := row3 HPi.out
        obtain ⟨y0, y1, y2⟩ := row3 HYr.out
        go_wp2_with fail
        clear k0 k1 k2 y0 y1 y2
        refine HSa.out.mono ?_
        rintro e wj ⟨rfl, hgj⟩
        have hgz := HGi.out.trans hgj
        replace HQ := Lib.hid (HQ.out.gr hgz)
        replace HM := Lib.hid (HM.out.gr hgz)
        clear hgj hgz HGi HPi HY HYr HSa HP HR
        cases B with
        | true =>
          go_wp2_with fail
          go_roundw
          case rel => exact ⟨k + 1, by omega, by go_num, HQ, HM⟩
          case measure => simp [intOf]; omega
        | false =>
          go_wp2_with fail
          go_roundw
          case rel => exact ⟨k + 1, by omega, by go_num, HQ, HM⟩
          case measure => simp [intOf]; omega
    · have ht : decide (k < 2) = false := decide_eq_false hlt
      have ht' : decide ((k : Int) < 2) = false := decide_eq_false (by omega)
      have HVa := Lib.hid (valid_any I J _ E wr HM.out.e (by rw [HF.out.eLen]; have := HF.out.bounds; omega) HF.out.ePath)
      rw [HF.out.valid] at HVa
      obtain ⟨k0, k1, k2⟩ := row3 HM.out.r
      go_wp2_with fail
      clear k0 k1 k2
      refine HVa.out.mono ?_
      rintro e w9 ⟨rfl, hg⟩
      have HG9 := Lib.hid (HM.out.g.trans hg)
      clear hg HVa
      go_wp2_with fail
      go_ret
      exact ⟨rfl, HG9.out⟩
end Go.Proofs.YtjnnhhengpinmaaGreatDoor
