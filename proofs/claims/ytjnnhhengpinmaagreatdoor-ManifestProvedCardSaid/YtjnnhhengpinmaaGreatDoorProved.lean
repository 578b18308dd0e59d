/- ManifestProved: the walk. -/
import Derived.Test.YtjnnhhengpinmaaGreatDoorNE
import Derived.Test.YtjnnhhengpinmaaGreatDoorMdA
import Derived.Test.YtjnnhhengpinmaaGreatDoorPdA
import Derived.Test.YtjnnhhengpinmaaGreatDoorMB
import Derived.Test.YtjnnhhengpinmaaGreatDoorHeldQ
namespace Go.Proofs.YtjnnhhengpinmaaGreatDoor
open Go Go.RowKit Go.Shelf
attribute [local go_sem] gAt gUpon pUpon
attribute [local simp] Gr.refl Gr.alloc

/-- a found entry's results -/
def PvV (x : En) (k : Nat) (m : Nat) (L : List ByteArray) (v : Value) (w : World) : Prop := ∃ p c, v = .tuple #[.agg #[.string x.path, .int .i64 x.fmt, .int .i64 x.len, .string x.dig], .int .i64 (k : Int), .slice p m c, .int .i64 0] ∧ OwnL 0 L (.slice p m c) w
theorem PvV.stb (x : En) (k m : Nat) (L : List ByteArray) : Stb (PvV x k m L) := fun _ _ _ hg ⟨p, c, h1, h2⟩ => ⟨p, c, h1, h2.gr hg⟩
def SlV (m : Nat) (L : List ByteArray) (v : Value) (w : World) : Prop := ∃ p c, v = .slice p m c ∧ OwnL 0 L (.slice p m c) w
theorem SlV.stb (m : Nat) (L : List ByteArray) : Stb (SlV m L) := fun _ _ _ hg ⟨p, c, h1, h2⟩ => ⟨p, c, h1, h2.gr hg⟩
theorem row_cellP {w : World} {b k : Nat} {cs : Array Value} {t : TypeId} {fr : Nat × Nat} {v : Value} (h : w.heap[b]? = some (.cells cs t fr)) (hc : w.cell? ⟨b, k, none⟩ = some v) : cs[k]? = some v := by
  simp [World.cell?, h] at hc
  exact hc
/-- a block that holds an empty entry is not the one of a list of digests -/
theorem ent_apart {B m bn c : Nat} {L : List ByteArray} {p : Option Addr} {w : World} {t : TypeId} (hO : OwnL B L (.slice p m c) w) (hm : m = L.length) (h0 : 0 < m) (hL : ∀ y ∈ L, y.size = 32)
    (hb : w.heap[bn]? = some (.cells #[.string ⟨#[]⟩, .int .i64 0, .int .i64 0, .string ⟨#[]⟩] t (0, 0))) : (Value.slice p m c).ownBlock = none ∨ (Value.slice p m c).ownBlock ≠ some bn := by
  refine .inr (fun e => ?_)
  obtain ⟨y, hy⟩ : ∃ y, L[0]? = some y := ⟨_, List.getElem?_eq_getElem (by omega)⟩
  have hys := hL y (List.mem_of_getElem? hy)
  rcases hO.strs with ⟨he, h1⟩ | ⟨g, off, cap, he, -, -, hc⟩
  · rw [h1] at hy; cases hy
  · injection he with e1 e2 e3
    subst e1
    simp [Value.ownBlock] at e
    subst e
    have h2 := row_cellP hb (hc 0 y hy)
    have h3 : y = ⟨#[]⟩ := by
      match off, h2 with
      | 0, h2 => simpa using h2.symm
      | 1, h2 => simp at h2
      | 2, h2 => simp at h2
      | 3, h2 => simpa using h2.symm
      | k + 4, h2 => simp at h2
    rw [h3] at hys
    cases hys
/-- what the loads ahead of Prove's call read -/
def PvS (b : Nat) (I J : Int) (n : Nat) (p : Option Addr) (c gq o : Nat) (xp : ByteArray) (y : World) : Prop :=
  y.cell? ⟨b, 0, none⟩ = some (.int .i64 I) ∧ y.cell? ⟨b, 1, none⟩ = some (.int .i64 J) ∧ y.cell? ⟨b, 2, none⟩ = some (.slice p n c) ∧ y.cell? ⟨gq, o, none⟩ = some (.string xp)
/-- behind Prove's call: the entry in a block of its own, the proof a new slice -/
def PvCut (w0 : World) (x : En) (k m : Nat) (L : List ByteArray) (v14 v15 v16 v17 : Value) (w : World) : Prop :=
  ∃ bn p c, v14 = .pointer (some ⟨bn, 0, none⟩) ∧ v15 = .int .i64 (k : Int) ∧ v16 = .slice p m c ∧ v17 = .int .i64 0 ∧ Gr w0 w ∧ w.heap[bn]? = some (.cells #[.string x.path, .int .i64 x.fmt, .int .i64 x.len, .string x.dig] 28 (0, 0)) ∧ OwnL 0 L (.slice p m c) w
set_option maxRecDepth 100000 in
set_option maxHeartbeats 4000000 in
theorem proved_any (v : Value) (l : List ByteArray) (id ver : Int) (w : World) (hv : StrsIn v l w) (hl : l.length ≤ 9223372036854775806) (hs : ∀ x ∈ l, x.size ≤ 140737488355000) (hi : I64 id) (hj : I64 ver) (hT : Tab w) :
    Calls Tryz.prog 7 #[v, .int .i64 id, .int .i64 ver] w fun e w' => e = .returned (.bool true) ∧ Gr w w' := by
  have HT := Lib.hid hT
  have HMd := Lib.hid (fun (y : World) (hg : Gr w y) => made2_any v l id ver y (hv.gr hg) hl hs hi hj (hT.gr hg))
  clear hv hs hT hi hj
  go_enter Tryz.func7, Tryz.ntmps7
  go_wp2_with fail
  refine (sane_any w HT.out).mono ?_
  rintro e w1 ⟨rfl, hg1⟩
  have HG1 := Lib.hid hg1
  clear hg1
  go_wp2_with fail
  refine (HMd.out w1 HG1.out).mono ?_
  rintro e w2 ⟨I, J, n, E, P, S, p, pp, ps, c, cp, cs, rfl, hF, hR, hP, hS, -, hg2⟩
  have HF := Lib.hid hF
  have HM0 := Lib.hid (MadAt.start (I := I) (J := J) (n := n) (E := E) (p := p) (c := c) (HG1.out.trans hg2) hR hP.strs hS.strs)
  clear hF hR hP hS hg2 HG1 HMd
  go_upto_region 3 with fail
  obtain ⟨b, hb⟩ : ∃ b, w2.heap.size = b := ⟨_, rfl⟩
  simp only [hb] at HM0 ⊢
  have HM := HM0
  clear HM0 hb
  generalize w2.alloc (.cells #[.int .i64 I, .int .i64 J, .slice p n c] 24) = w3 at HM ⊢
  obtain ⟨k0, k1, k2⟩ := row3 HM.out.r
  have HRt := Lib.hid (rootM_any I J _ E w3 HM.out.e (by rw [HF.out.eLen]; have := HF.out.bounds; omega) HF.out.ePath (HT.out.gr HM.out.g))
  obtain ⟨R, hR⟩ : ∃ R, rootP I J E = R := ⟨_, rfl⟩
  have HR := Lib.hid hR
  rw [hR] at HRt
  clear hR
  go_wp2_with fail
  refine HRt.out.mono ?_
  rintro e w4 ⟨rfl, hg4⟩
  replace HM := Lib.hid (HM.out.gr hg4)
  clear hg4 HRt k0 k1 k2
  have hn := HF.out.bounds
  have n0 : ((n : Int) == 0) = false := by rw [beq_eq_false_iff_ne]; omega
  have r32 : ((R.size : Int) != 32) = false := by
    rw [← HR.out]; unfold rootP; rw [if_pos HF.out.valid, boundD_size]; rfl
  obtain ⟨k0, k1, k2⟩ := row3 HM.out.r
  go_upto_region 7 with fail
  clear k0 k1 k2
  go_wp2_with fail
  go_loopw [13, 14, 15, 16, 17] (fun v13 v14 v15 v16 v17 W => ∃ (k : Nat), k ≤ n ∧ v13 = .int .i64 (k : Int) ∧ Hid (MadAt w b I J n E P S p pp ps c cp cs W)) (fun v13 _ _ _ _ _ => n - (intOf v13).toNat)
  case atStart => exact ⟨0, Nat.zero_le _, rfl, HM⟩
  clear HM
  case round =>
    obtain ⟨k, hk, rfl, HM⟩ := hrel
    by_cases hlt : k < n
    · have ht : decide (k < n) = true := decide_eq_true hlt
      have ht' : decide ((k : Int) < (n : Int)) = true := decide_eq_true (by omega)
      obtain ⟨f, t, he, -, -, hts, hst, hpk⟩ := HF.out.at_ hlt
      obtain ⟨x, hx⟩ : ∃ x, mkEn (pathOf k) f t = x := ⟨_, rfl⟩
      have hxl : x.len = (t.size : Int) := by rw [← hx]; rfl
      have hxp : x.path = pathOf k := by rw [← hx]; rfl
      rw [hx] at he
      have hidx : prI I J E (pathOf k) = some k := by
        unfold prI; rw [if_pos HF.out.valid]
        obtain ⟨-, -, hn', rfl, -, -⟩ := HF.out
        exact mad_idx (by rw [← hn']; exact hlt)
      obtain ⟨L, hL⟩ : ∃ L, prP E (some k) = L := ⟨_, rfl⟩
      obtain ⟨m, hm⟩ : ∃ m, L.length = m := ⟨_, rfl⟩
      have hm0 : 0 < m := by rw [← hm, ← hL, prP_len]; omega
      have hmL : m ≤ 100 := by
        rw [← hm, ← hL, prP_len]
        have := proof_short 4 (E.map lineD) k (by rw [List.length_map, HF.out.eLen]; omega)
        omega
      have hL32 : ∀ y ∈ L, y.size = 32 := by rw [← hL]; exact prP_sizes E (some k)
      have hlaw := prove_law HF.out.valid he
      rw [HR.out, hL, HF.out.eLen] at hlaw
      have HLaw := Lib.hid hlaw
      obtain ⟨xp, hxpp⟩ : ∃ z, pathOf k = z := ⟨_, rfl⟩
      rw [hxpp] at hidx hpk hxp
      have HPv := Lib.hid (fun (y : World) (hg : Gr wr y) => prove_any I J _ E xp y (HM.out.gr hg).e (by rw [HF.out.eLen]; omega) HF.out.ePath (HT.out.gr (HM.out.gr hg).g))
      rw [hidx] at HPv
      have hpe : prE E (some k) = x := by show E.getD k en0 = x; rw [List.getD_eq_getElem?_getD, he]; rfl
      have HPc := Lib.hid (fun (y : World) (hg : Gr wr y) => (HPv.out y hg).mono (R' := fun e w' => ∃ p c, e = .returned (.tuple #[.agg #[.string x.path, .int .i64 x.fmt, .int .i64 x.len, .string x.dig], .int .i64 (k : Int), .slice p m c, .int .i64 0]) ∧ OwnL 0 L (.slice p m c) w' ∧ Gr y w') (fun e w' ⟨u, h1, h2, h3⟩ => by
        rw [hL] at h2
        obtain ⟨q, d, rfl⟩ := h2.strs.shape
        rw [hm] at h1 h2
        rw [hpe] at h1
        exact ⟨q, d, h1, h2.mono (Nat.zero_le _), h3⟩))
      obtain ⟨gq, oq, rfl, hcq⟩ : ∃ g off, pp = some ⟨g, off, none⟩ ∧ wr.cell? ⟨g, off + k, none⟩ = some (.string xp) := by
        exact HM.out.p.at2 hpk
      have Hxl := Lib.hid hxl
      have HE := Lib.hid he
      have HSt := Lib.hid hst
      have HL32 := Lib.hid hL32
      have Hm := Lib.hid hm
      clear hxl hxp he hst hpk hidx hL hm hL32 hlaw hxpp HPv hpe hts hx
      have i0 : (0 : Int) ≤ (k : Int) := by omega
      have i1 : (k : Int) < (n : Int) := by omega
      have HSg : Hid (∀ y, Gr wr y → PvS b I J n p c gq (oq + k) xp y) :=
        Lib.hid (fun y hg => ⟨hg.cell (row3 HM.out.r).1, hg.cell (row3 HM.out.r).2.1, hg.cell (row3 HM.out.r).2.2, hg.cell hcq⟩)
      clear hcq
      go_upto_region 10 with fail
      go_cut [14, 15, 16, 17] from 54 to 65 (fun v14 v15 v16 v17 wx => Hid (PvCut wr x k m L v14 v15 v16 v17 wx))
      case first =>
        rename_i JJ KK hJ hK
        have hS0 := HSg.out wr.drew (Gr.drew wr)
        refine u_begin (PvS b I J n p c gq (oq + k) xp) (fun _ => false) (by kernel_rfl) (by assumption) (fun hHeld => ?_)
        have HGz := Gr.drew wr
        generalize wr.drew = wz at HGz hHeld hS0 ⊢
        refine u_take 0 (v := ?_) rfl rfl (by kernel_rfl) (by kernel_rfl) (by kernel_rfl) (by kernel_rfl) (fun _ _ _ h => h) (by rfl) (by assumption) ?_ ?_
        rotate_left
        · (intro w hSw; obtain ⟨z0, z1, z2, z3⟩ := hSw; go_simp; try with_reducible rfl)
        try simp only [Act.put, List.setIfInBounds_toArray, List.set_cons_zero, List.set_cons_succ]
        refine u_take 1 (v := ?_) rfl rfl (by kernel_rfl) (by kernel_rfl) (by kernel_rfl) (by kernel_rfl) (fun _ _ _ h => h) (by rfl) (by assumption) ?_ ?_
        rotate_left
        · (intro w hSw; obtain ⟨z0, z1, z2, z3⟩ := hSw; go_simp; try with_reducible rfl)
        try simp only [Act.put, List.setIfInBounds_toArray, List.set_cons_zero, List.set_cons_succ]
        refine u_take 2 (v := ?_) rfl rfl (by kernel_rfl) (by kernel_rfl) (by kernel_rfl) (by kernel_rfl) (fun _ _ _ h => h) (by rfl) (by assumption) ?_ ?_
        rotate_left
        · (intro w hSw; obtain ⟨z0, z1, z2, z3⟩ := hSw; go_simp; try with_reducible rfl)
        try simp only [Act.put, List.setIfInBounds_toArray, List.set_cons_zero, List.set_cons_succ]
        refine u_take 3 (v := ?_) rfl rfl (by kernel_rfl) (by kernel_rfl) (by kernel_rfl) (by kernel_rfl) (fun _ _ _ h => h) (by rfl) (by assumption) ?_ ?_
        rotate_left
        · (intro w hSw; obtain ⟨z0, z1, z2, z3⟩ := hSw; go_simp; try with_reducible rfl)
        try simp only [Act.put, List.setIfInBounds_toArray, List.set_cons_zero, List.set_cons_succ]
        refine u_take 4 (v := ?_) rfl rfl (by kernel_rfl) (by kernel_rfl) (by kernel_rfl) (by kernel_rfl) (fun _ _ _ h => h) (by rfl) (by assumption) ?_ ?_
        rotate_left
        · (intro w hSw; obtain ⟨z0, z1, z2, z3⟩ := hSw; go_simp; try with_reducible rfl)
        try simp only [Act.put, List.setIfInBounds_toArray, List.set_cons_zero, List.set_cons_succ]
        refine u_two 5 11 (by kernel_rfl) rfl rfl (by rfl) (by rfl) ?_ ?_
        · go_simp
          refine (HPc.out _ HGz).mono ?_
          rintro e w1 ⟨p9, c9, rfl, ho, hg⟩
          have hg1 := HGz.trans hg
          refine .inl ⟨_, rfl, HSg.out _ hg1, ?_⟩
          try simp only [Act.put, List.setIfInBounds_toArray, List.set_cons_zero, List.set_cons_succ]
          replace hHeld := HSg.out _ hg1
          clear hS0
          refine u_take 6 (v := ?_) rfl rfl (by kernel_rfl) (by kernel_rfl) (by kernel_rfl) (by kernel_rfl) (fun _ _ _ h => h) (by rfl) (by assumption) ?_ ?_
          rotate_left
          · (intro w hSw; (try dsimp only at hSw); go_simp; try with_reducible rfl)
          try simp only [Act.put, List.setIfInBounds_toArray, List.set_cons_zero, List.set_cons_succ]
          refine u_take 7 (v := ?_) rfl rfl (by kernel_rfl) (by kernel_rfl) (by kernel_rfl) (by kernel_rfl) (fun _ _ _ h => h) (by rfl) (by assumption) ?_ ?_
          rotate_left
          · (intro w hSw; (try dsimp only at hSw); go_simp; try with_reducible rfl)
          try simp only [Act.put, List.setIfInBounds_toArray, List.set_cons_zero, List.set_cons_succ]
          refine u_take 8 (v := ?_) rfl rfl (by kernel_rfl) (by kernel_rfl) (by kernel_rfl) (by kernel_rfl) (fun _ _ _ h => h) (by rfl) (by assumption) ?_ ?_
          rotate_left
          · (intro w hSw; (try dsimp only at hSw); go_simp; try with_reducible rfl)
          try simp only [Act.put, List.setIfInBounds_toArray, List.set_cons_zero, List.set_cons_succ]
          refine u_take 9 (v := ?_) rfl rfl (by kernel_rfl) (by kernel_rfl) (by kernel_rfl) (by kernel_rfl) (fun _ _ _ h => h) (by rfl) (by assumption) ?_ ?_
          rotate_left
          · (intro w hSw; (try dsimp only at hSw); go_simp; try with_reducible rfl)
          try simp only [Act.put, List.setIfInBounds_toArray, List.set_cons_zero, List.set_cons_succ]
          refine u_take 10 (v := ?_) rfl rfl (by kernel_rfl) (by kernel_rfl) (by kernel_rfl) (by kernel_rfl) (fun _ _ _ h => h) (by rfl) (by assumption) ?_ ?_
          rotate_left
          · (intro w hSw; (try dsimp only at hSw); go_simp; try with_reducible rfl)
          try simp only [Act.put, List.setIfInBounds_toArray, List.set_cons_zero, List.set_cons_succ]
          refine u_step 11 (by kernel_rfl) rfl (by rfl) ?_
          go_simp
          obtain ⟨bn, hbn⟩ : ∃ z, w1.heap.size = z := ⟨_, rfl⟩
          have hrow := heap_alloc_new w1 (.cells #[.string ⟨#[]⟩, .int .i64 0, .int .i64 0, .string ⟨#[]⟩] 28)
          have hge : wr.heap.size ≤ bn := by rw [← hbn]; exact hg1.size
          rw [hbn] at hrow
          simp only [hbn]
          have hg2 := hg1.trans (Gr.alloc w1 (.cells #[.string ⟨#[]⟩, .int .i64 0, .int .i64 0, .string ⟨#[]⟩] 28))
          have ho2 := ho.gr (Gr.alloc w1 (.cells #[.string ⟨#[]⟩, .int .i64 0, .int .i64 0, .string ⟨#[]⟩] 28))
          clear ho hg hg1 hbn
          generalize w1.alloc (.cells #[.string ⟨#[]⟩, .int .i64 0, .int .i64 0, .string ⟨#[]⟩] 28) = w2 at hrow hg2 ho2 ⊢
          refine ⟨HSg.out _ hg2, ?_⟩
          try simp only [Act.put, List.setIfInBounds_toArray, List.set_cons_zero, List.set_cons_succ]
          have HOa := Lib.hid (ent_apart ho2 Hm.out.symm hm0 HL32.out hrow)
          obtain ⟨m0, m1, m2, m3⟩ := row4 hrow
          obtain ⟨f0, f1, f2, f3⟩ := frozen4 hrow
          refine u_step 12 (by kernel_rfl) rfl (by rfl) ?_
          go_simp
          clear m0 m1 m2 m3 f0 f1 f2 f3
          have hch : Chg (some bn) w2 ((((w2.setCell ⟨bn, 0, none⟩ (.string x.path)).setCell ⟨bn, 1, none⟩ (.int .i64 x.fmt)).setCell ⟨bn, 2, none⟩ (.int .i64 x.len)).setCell ⟨bn, 3, none⟩ (.string x.dig)) := setCells_chg bn [.string x.path, .int .i64 x.fmt, .int .i64 x.len, .string x.dig] 0 w2
          have hrow2 := row_set4 (a' := .string x.path) (b' := .int .i64 x.fmt) (c' := .int .i64 x.len) (d' := .string x.dig) hrow
          have hgx : Gr wr ((((w2.setCell ⟨bn, 0, none⟩ (.string x.path)).setCell ⟨bn, 1, none⟩ (.int .i64 x.fmt)).setCell ⟨bn, 2, none⟩ (.int .i64 x.len)).setCell ⟨bn, 3, none⟩ (.string x.dig)) := gr_step hg2 (Gr.refl _) hch (fun g e => by cases e; exact hge)
          have hO3 : OwnL 0 L (.slice p9 m c9) _ := Own.keep ho2 hch HOa.out
          clear hch hrow ho2 HOa hg2
          generalize ((((w2.setCell ⟨bn, 0, none⟩ (.string x.path)).setCell ⟨bn, 1, none⟩ (.int .i64 x.fmt)).setCell ⟨bn, 2, none⟩ (.int .i64 x.len)).setCell ⟨bn, 3, none⟩ (.string x.dig)) = w3 at hrow2 hgx hO3 ⊢
          refine ⟨HSg.out _ hgx, ?_⟩
          try simp only [Act.put, List.setIfInBounds_toArray, List.set_cons_zero, List.set_cons_succ]
          replace hHeld := HSg.out _ hgx
          refine u_take 13 (v := ?_) rfl rfl (by kernel_rfl) (by kernel_rfl) (by kernel_rfl) (by kernel_rfl) (fun _ _ _ h => h) (by rfl) (by assumption) ?_ ?_
          rotate_left
          · (intro w hSw; (try dsimp only at hSw); go_simp; try with_reducible rfl)
          try simp only [Act.put, List.setIfInBounds_toArray, List.set_cons_zero, List.set_cons_succ]
          refine u_take 14 (v := ?_) rfl rfl (by kernel_rfl) (by kernel_rfl) (by kernel_rfl) (by kernel_rfl) (fun _ _ _ h => h) (by rfl) (by assumption) ?_ ?_
          rotate_left
          · (intro w hSw; (try dsimp only at hSw); go_simp; try with_reducible rfl)
          try simp only [Act.put, List.setIfInBounds_toArray, List.set_cons_zero, List.set_cons_succ]
          refine u_take 15 (v := ?_) rfl rfl (by kernel_rfl) (by kernel_rfl) (by kernel_rfl) (by kernel_rfl) (fun _ _ _ h => h) (by rfl) (by assumption) ?_ ?_
          rotate_left
          · (intro w hSw; (try dsimp only at hSw); go_simp; try with_reducible rfl)
          try simp only [Act.put, List.setIfInBounds_toArray, List.set_cons_zero, List.set_cons_succ]
          refine u_done (by kernel_rfl) ?_ _
          have HC : Hid (PvCut wr x k m L (.pointer (some ⟨bn, 0, none⟩)) (.int .i64 (k : Int)) (.slice p9 m c9) (.int .i64 0) w3) := Lib.hid ⟨bn, p9, c9, rfl, rfl, rfl, rfl, hgx, hrow2, hO3⟩
          refine hK _ _ (Met.intro (hJ _ _ ?_))
          repeat apply Exists.intro
          exact ⟨HC, rfl⟩
        · go_simp
          obtain ⟨bn, hbn⟩ : ∃ z, wz.heap.size = z := ⟨_, rfl⟩
          have hg1 := HGz.trans (Gr.alloc wz (.cells #[.string ⟨#[]⟩, .int .i64 0, .int .i64 0, .string ⟨#[]⟩] 28))
          have hrow := heap_alloc_new wz (.cells #[.string ⟨#[]⟩, .int .i64 0, .int .i64 0, .string ⟨#[]⟩] 28)
          rw [hbn] at hrow
          simp only [hbn]
          have hge : wr.heap.size ≤ bn := by rw [← hbn]; exact HGz.size
          clear hbn
          generalize wz.alloc (.cells #[.string ⟨#[]⟩, .int .i64 0, .int .i64 0, .string ⟨#[]⟩] 28) = w1 at hrow hg1 ⊢
          refine ⟨HSg.out _ hg1, ?_⟩
          try simp only [Act.put, List.setIfInBounds_toArray, List.set_cons_zero, List.set_cons_succ]
          replace hHeld := HSg.out _ hg1
          clear hS0
          refine u_step 5 (by kernel_rfl) rfl (by rfl) ?_
          go_simp
          refine (HPc.out _ hg1).mono ?_
          rintro e w2 ⟨p9, c9, rfl, ho2, hg⟩
          have hg2 := hg1.trans hg
          replace hrow := hg.block hrow
          clear hg hg1
          refine .inl ⟨_, rfl, HSg.out _ hg2, ?_⟩
          try simp only [Act.put, List.setIfInBounds_toArray, List.set_cons_zero, List.set_cons_succ]
          replace hHeld := HSg.out _ hg2
          refine u_take 6 (v := ?_) rfl rfl (by kernel_rfl) (by kernel_rfl) (by kernel_rfl) (by kernel_rfl) (fun _ _ _ h => h) (by rfl) (by assumption) ?_ ?_
          rotate_left
          · (intro w hSw; (try dsimp only at hSw); go_simp; try with_reducible rfl)
          try simp only [Act.put, List.setIfInBounds_toArray, List.set_cons_zero, List.set_cons_succ]
          refine u_take 7 (v := ?_) rfl rfl (by kernel_rfl) (by kernel_rfl) (by kernel_rfl) (by kernel_rfl) (fun _ _ _ h => h) (by rfl) (by assumption) ?_ ?_
          rotate_left
          · (intro w hSw; (try dsimp only at hSw); go_simp; try with_reducible rfl)
          try simp only [Act.put, List.setIfInBounds_toArray, List.set_cons_zero, List.set_cons_succ]
          refine u_take 8 (v := ?_) rfl rfl (by kernel_rfl) (by kernel_rfl) (by kernel_rfl) (by kernel_rfl) (fun _ _ _ h => h) (by rfl) (by assumption) ?_ ?_
          rotate_left
          · (intro w hSw; (try dsimp only at hSw); go_simp; try with_reducible rfl)
          try simp only [Act.put, List.setIfInBounds_toArray, List.set_cons_zero, List.set_cons_succ]
          refine u_take 9 (v := ?_) rfl rfl (by kernel_rfl) (by kernel_rfl) (by kernel_rfl) (by kernel_rfl) (fun _ _ _ h => h) (by rfl) (by assumption) ?_ ?_
          rotate_left
          · (intro w hSw; (try dsimp only at hSw); go_simp; try with_reducible rfl)
          try simp only [Act.put, List.setIfInBounds_toArray, List.set_cons_zero, List.set_cons_succ]
          refine u_take 10 (v := ?_) rfl rfl (by kernel_rfl) (by kernel_rfl) (by kernel_rfl) (by kernel_rfl) (fun _ _ _ h => h) (by rfl) (by assumption) ?_ ?_
          rotate_left
          · (intro w hSw; (try dsimp only at hSw); go_simp; try with_reducible rfl)
          try simp only [Act.put, List.setIfInBounds_toArray, List.set_cons_zero, List.set_cons_succ]
          have HOa := Lib.hid (ent_apart ho2 Hm.out.symm hm0 HL32.out hrow)
          obtain ⟨m0, m1, m2, m3⟩ := row4 hrow
          obtain ⟨f0, f1, f2, f3⟩ := frozen4 hrow
          refine u_step 12 (by kernel_rfl) rfl (by rfl) ?_
          go_simp
          clear m0 m1 m2 m3 f0 f1 f2 f3
          have hch : Chg (some bn) w2 ((((w2.setCell ⟨bn, 0, none⟩ (.string x.path)).setCell ⟨bn, 1, none⟩ (.int .i64 x.fmt)).setCell ⟨bn, 2, none⟩ (.int .i64 x.len)).setCell ⟨bn, 3, none⟩ (.string x.dig)) := setCells_chg bn [.string x.path, .int .i64 x.fmt, .int .i64 x.len, .string x.dig] 0 w2
          have hrow2 := row_set4 (a' := .string x.path) (b' := .int .i64 x.fmt) (c' := .int .i64 x.len) (d' := .string x.dig) hrow
          have hgx : Gr wr ((((w2.setCell ⟨bn, 0, none⟩ (.string x.path)).setCell ⟨bn, 1, none⟩ (.int .i64 x.fmt)).setCell ⟨bn, 2, none⟩ (.int .i64 x.len)).setCell ⟨bn, 3, none⟩ (.string x.dig)) := gr_step hg2 (Gr.refl _) hch (fun g e => by cases e; exact hge)
          have hO3 : OwnL 0 L (.slice p9 m c9) _ := Own.keep ho2 hch HOa.out
          clear hch hrow ho2 HOa hg2
          generalize ((((w2.setCell ⟨bn, 0, none⟩ (.string x.path)).setCell ⟨bn, 1, none⟩ (.int .i64 x.fmt)).setCell ⟨bn, 2, none⟩ (.int .i64 x.len)).setCell ⟨bn, 3, none⟩ (.string x.dig)) = w3 at hrow2 hgx hO3 ⊢
          refine ⟨HSg.out _ hgx, ?_⟩
          try simp only [Act.put, List.setIfInBounds_toArray, List.set_cons_zero, List.set_cons_succ]
          replace hHeld := HSg.out _ hgx
          refine u_take 13 (v := ?_) rfl rfl (by kernel_rfl) (by kernel_rfl) (by kernel_rfl) (by kernel_rfl) (fun _ _ _ h => h) (by rfl) (by assumption) ?_ ?_
          rotate_left
          · (intro w hSw; (try dsimp only at hSw); go_simp; try with_reducible rfl)
          try simp only [Act.put, List.setIfInBounds_toArray, List.set_cons_zero, List.set_cons_succ]
          refine u_take 14 (v := ?_) rfl rfl (by kernel_rfl) (by kernel_rfl) (by kernel_rfl) (by kernel_rfl) (fun _ _ _ h => h) (by rfl) (by assumption) ?_ ?_
          rotate_left
          · (intro w hSw; (try dsimp only at hSw); go_simp; try with_reducible rfl)
          try simp only [Act.put, List.setIfInBounds_toArray, List.set_cons_zero, List.set_cons_succ]
          refine u_take 15 (v := ?_) rfl rfl (by kernel_rfl) (by kernel_rfl) (by kernel_rfl) (by kernel_rfl) (fun _ _ _ h => h) (by rfl) (by assumption) ?_ ?_
          rotate_left
          · (intro w hSw; (try dsimp only at hSw); go_simp; try with_reducible rfl)
          try simp only [Act.put, List.setIfInBounds_toArray, List.set_cons_zero, List.set_cons_succ]
          refine u_done (by kernel_rfl) ?_ _
          have HC : Hid (PvCut wr x k m L (.pointer (some ⟨bn, 0, none⟩)) (.int .i64 (k : Int)) (.slice p9 m c9) (.int .i64 0) w3) := Lib.hid ⟨bn, p9, c9, rfl, rfl, rfl, rfl, hgx, hrow2, hO3⟩
          refine hK _ _ (Met.intro (hJ _ _ ?_))
          repeat apply Exists.intro
          exact ⟨HC, rfl⟩
      clear HSg HPc
      obtain ⟨bn, p3, c3, rfl, rfl, rfl, rfl, hgc, hrow, hO⟩ := hcut.out
      replace HM := Lib.hid (HM.out.gr hgc)
      have HX := Lib.hid hrow
      have HO := Lib.hid hO.strs
      clear hcut hgc hrow hO
      obtain ⟨w9, hw9⟩ : ∃ z, z = wc := ⟨_, rfl⟩
      subst hw9
      obtain ⟨g3, o3, rfl, -, hcap, hcm, hcut⟩ := HO.out.cut hm0
      obtain ⟨o1, hD, ho1⟩ : ∃ o1, StrsAt (.slice (some ⟨g3, o1, none⟩) (m - 1) (c3 - 1)) (L.drop 1) w9 ∧ ((c3 = 1 ∧ o1 = o3) ∨ (c3 ≠ 1 ∧ o1 = o3 + 1)) := by
        by_cases h1 : c3 = 1
        · refine ⟨o3, .inr ⟨g3, o3, c3 - 1, by rw [List.length_drop, Hm.out], by rw [List.length_drop, Hm.out]; omega, by omega, fun j y hj => ?_⟩, .inl ⟨h1, rfl⟩⟩
          have := (List.getElem?_eq_some_iff.1 hj).1
          rw [List.length_drop, Hm.out] at this; omega
        · exact ⟨o3 + 1, (hcut 1 (by omega)).2, .inr ⟨h1, rfl⟩⟩
      have HD := Lib.hid hD
      have HO1 := Lib.hid ho1
      have hxs : x.path.size ≤ 9223372036854775807 := HF.out.ePath x (List.mem_of_getElem? HE.out)
      have HVa := Lib.hid (fun (rt : ByteArray) (j : Int) (y : World) (hg : Gr w9 y) => verifyM_any rt I J n j x _ L y (HO.out.gr hg) (by rw [Hm.out]; omega) (by omega) hxs (fun z hz => by rw [HL32.out z hz]; decide) (HT.out.gr (HM.out.gr hg).g))
      have HVb := Lib.hid (fun (y : World) (hg : Gr w9 y) => verifyM_any R I J n k x _ (L.drop 1) y (HD.out.gr hg) (by rw [List.length_drop, Hm.out]; omega) (by omega) hxs (fun z hz => by rw [HL32.out z (List.mem_of_mem_drop hz)]; decide) (HT.out.gr (HM.out.gr hg).g))
      have HV1 : Hid (∀ y, Gr w9 y → _) := Lib.hid (fun y hg => HVa.out R k y hg)
      have HV2 : Hid (∀ y, Gr w9 y → _) := Lib.hid (fun y hg => HVa.out R n y hg)
      have HV3 : Hid (∀ y, Gr w9 y → _) := Lib.hid (fun y hg => HVa.out R (-1) y hg)
      have HV4 : Hid (∀ y, Gr w9 y → _) := Lib.hid (fun y hg => HVa.out ⟨#[]⟩ k y hg)
      rw [HLaw.out.1] at HV1
      rw [HLaw.out.2.1 n (.inr (Int.le_refl _))] at HV2
      rw [HLaw.out.2.1 (-1) (.inl (by decide))] at HV3
      rw [HLaw.out.2.2.1] at HVb
      rw [HLaw.out.2.2.2] at HV4
      clear HVa hD ho1 hcut hxs HLaw
      have S0 : ∀ q : GrS w9.drew, q.w.cell? ⟨b, 0, none⟩ = some (.int .i64 I) := fun q => q.h.cell (w := w9.drew) (row3 HM.out.r).1
      have S1 : ∀ q : GrS w9.drew, q.w.cell? ⟨b, 1, none⟩ = some (.int .i64 J) := fun q => q.h.cell (w := w9.drew) (row3 HM.out.r).2.1
      have S2 : ∀ q : GrS w9.drew, q.w.cell? ⟨b, 2, none⟩ = some (.slice p n c) := fun q => q.h.cell (w := w9.drew) (row3 HM.out.r).2.2
      have X0 : ∀ q : GrS w9.drew, q.w.cell? ⟨bn, 0, none⟩ = some (.string x.path) := fun q => q.h.cell (w := w9.drew) (row4 HX.out).1
      have X1 : ∀ q : GrS w9.drew, q.w.cell? ⟨bn, 1, none⟩ = some (.int .i64 x.fmt) := fun q => q.h.cell (w := w9.drew) (row4 HX.out).2.1
      have X2 : ∀ q : GrS w9.drew, q.w.cell? ⟨bn, 2, none⟩ = some (.int .i64 x.len) := fun q => q.h.cell (w := w9.drew) (row4 HX.out).2.2.1
      have X3 : ∀ q : GrS w9.drew, q.w.cell? ⟨bn, 3, none⟩ = some (.string x.dig) := fun q => q.h.cell (w := w9.drew) (row4 HX.out).2.2.2
      obtain ⟨ge, oe, hpe, hce⟩ := HM.out.e.at2 HF.out.eLen HE.out
      subst hpe
      obtain ⟨gs, os, hps, hcs⟩ := HM.out.s.at2 HSt.out
      subst hps
      have E0 : ∀ q : GrS w9.drew, q.w.cell? ⟨ge, oe + k * 4, none⟩ = some (.string x.path) := fun q => q.h.cell (w := w9.drew) (hce 0 _ rfl)
      have E1 : ∀ q : GrS w9.drew, q.w.cell? ⟨ge, oe + k * 4 + 1, none⟩ = some (.int .i64 x.fmt) := fun q => q.h.cell (w := w9.drew) (hce 1 _ rfl)
      have E2 : ∀ q : GrS w9.drew, q.w.cell? ⟨ge, oe + k * 4 + 2, none⟩ = some (.int .i64 x.len) := fun q => q.h.cell (w := w9.drew) (hce 2 _ rfl)
      have E3 : ∀ q : GrS w9.drew, q.w.cell? ⟨ge, oe + k * 4 + 3, none⟩ = some (.string x.dig) := fun q => q.h.cell (w := w9.drew) (hce 3 _ rfl)
      have F0 : ∀ q : GrS w9.drew, q.w.cell? ⟨gs, os + k, none⟩ = some (.string t) := fun q => q.h.cell (w := w9.drew) hcs
      have tl : (x.len != (t.size : Int)) = false := by rw [Hxl.out]; exact bne_self_eq_false _
      clear hce hcs HSt HE Hxl
      go_upto_region 11 with fail
      refine region_grow 39 166 (by kernel_rfl) rfl (by kernel_rfl) rfl rfl ?_
      simp only [List.take_succ_cons, List.take_zero, List.drop_succ_cons, List.drop_zero]
      refine seg 36 rfl rfl rfl rfl ?_
      simp only [List.take_succ_cons, List.take_zero, List.drop_succ_cons, List.drop_zero]
      repeat (go_big_quiet_step (fail))
      refine wpQuiet_nil ?_
      intro _
      refine grow_det (v := .bool true) rfl rfl rfl rfl rfl ?_ ?_
      · intro w1 hG
        go_simp
        refine (HV1.out w1 ((Gr.drew w9).trans hG)).mono ?_
        rintro e w' ⟨rfl, hb⟩
        exact ⟨rfl, hb⟩
      simp only [Act.put, List.setIfInBounds_toArray, List.set_cons_zero, List.set_cons_succ]
      refine seg 2 rfl rfl rfl rfl ?_
      simp only [List.take_succ_cons, List.take_zero, List.drop_succ_cons, List.drop_zero]
      repeat (go_big_quiet_step (fail))
      refine wpQuiet_nil ?_
      intro _
      refine grow_end0 rfl rfl ?_
      intro wa hG
      have hga := (Gr.drew w9).trans hG
      replace HM := Lib.hid (HM.out.gr hga)
      replace HX := Lib.hid (hga.block HX.out)
      have HGa := Lib.hid hga
      clear hG hga E0 E1 E2 E3 F0 S0 S1 S2 X0 X1 X2 X3 tl HV1
      go_upto_region 13 with fail
      have S0 : ∀ q : GrS wa.drew, q.w.cell? ⟨b, 0, none⟩ = some (.int .i64 I) := fun q => q.h.cell (w := wa.drew) (row3 HM.out.r).1
      have S1 : ∀ q : GrS wa.drew, q.w.cell? ⟨b, 1, none⟩ = some (.int .i64 J) := fun q => q.h.cell (w := wa.drew) (row3 HM.out.r).2.1
      have S2 : ∀ q : GrS wa.drew, q.w.cell? ⟨b, 2, none⟩ = some (.slice (some ⟨ge, oe, none⟩) n c) := fun q => q.h.cell (w := wa.drew) (row3 HM.out.r).2.2
      have X0 : ∀ q : GrS wa.drew, q.w.cell? ⟨bn, 0, none⟩ = some (.string x.path) := fun q => q.h.cell (w := wa.drew) (row4 HX.out).1
      have X1 : ∀ q : GrS wa.drew, q.w.cell? ⟨bn, 1, none⟩ = some (.int .i64 x.fmt) := fun q => q.h.cell (w := wa.drew) (row4 HX.out).2.1
      have X2 : ∀ q : GrS wa.drew, q.w.cell? ⟨bn, 2, none⟩ = some (.int .i64 x.len) := fun q => q.h.cell (w := wa.drew) (row4 HX.out).2.2.1
      have X3 : ∀ q : GrS wa.drew, q.w.cell? ⟨bn, 3, none⟩ = some (.string x.dig) := fun q => q.h.cell (w := wa.drew) (row4 HX.out).2.2.2
      have i2 : (1 : Int) ≤ (m : Int) := by omega
      have i3 : (m : Int) ≤ (c3 : Int) := by omega
      refine region_grow 45 166 (by kernel_rfl) rfl (by kernel_rfl) rfl rfl ?_
      simp only [List.take_succ_cons, List.take_zero, List.drop_succ_cons, List.drop_zero]
      refine seg 9 rfl rfl rfl rfl ?_
      simp only [List.take_succ_cons, List.take_zero, List.drop_succ_cons, List.drop_zero]
      repeat (go_big_quiet_step (fail))
      refine wpQuiet_nil ?_
      intro _
      refine grow_det (v := .bool false) rfl rfl rfl rfl rfl ?_ ?_
      · intro w1 hG
        go_simp
        refine (HV2.out w1 (HGa.out.trans ((Gr.drew wa).trans hG))).mono ?_
        rintro e w' ⟨rfl, hb⟩
        exact ⟨rfl, hb⟩
      simp only [Act.put, List.setIfInBounds_toArray, List.set_cons_zero, List.set_cons_succ]
      refine seg 9 rfl rfl rfl rfl ?_
      simp only [List.take_succ_cons, List.take_zero, List.drop_succ_cons, List.drop_zero]
      repeat (go_big_quiet_step (fail))
      refine wpQuiet_nil ?_
      intro _
      refine grow_det (v := .bool false) rfl rfl rfl rfl rfl ?_ ?_
      · intro w1 hG
        go_simp
        refine (HV3.out w1 (HGa.out.trans ((Gr.drew wa).trans hG))).mono ?_
        rintro e w' ⟨rfl, hb⟩
        exact ⟨rfl, hb⟩
      simp only [Act.put, List.setIfInBounds_toArray, List.set_cons_zero, List.set_cons_succ]
      refine seg 11 rfl rfl rfl rfl ?_
      simp only [List.take_succ_cons, List.take_zero, List.drop_succ_cons, List.drop_zero]
      repeat (go_big_quiet_step (fail))
      refine wpQuiet_nil ?_
      intro _
      refine grow_det (v := .slice (some ⟨g3, o1, none⟩) (m - 1) (c3 - 1)) rfl rfl rfl rfl rfl ?_ ?_
      · intro w1 hG
        rcases HO1.out with ⟨h1, h2⟩ | ⟨h1, h2⟩
        · rw [h2]
          go_simp
        · rw [h2]
          go_simp
      simp only [Act.put, List.setIfInBounds_toArray, List.set_cons_zero, List.set_cons_succ]
      refine grow_det (v := .bool false) rfl rfl rfl rfl rfl ?_ ?_
      · intro w1 hG
        go_simp
        refine (HVb.out w1 (HGa.out.trans ((Gr.drew wa).trans hG))).mono ?_
        rintro e w' ⟨rfl, hb⟩
        exact ⟨rfl, hb⟩
      simp only [Act.put, List.setIfInBounds_toArray, List.set_cons_zero, List.set_cons_succ]
      refine seg 10 rfl rfl rfl rfl ?_
      simp only [List.take_succ_cons, List.take_zero, List.drop_succ_cons, List.drop_zero]
      repeat (go_big_quiet_step (fail))
      refine wpQuiet_nil ?_
      intro _
      refine grow_det (v := .bool false) rfl rfl rfl rfl rfl ?_ ?_
      · intro w1 hG
        go_simp
        refine (HV4.out w1 (HGa.out.trans ((Gr.drew wa).trans hG))).mono ?_
        rintro e w' ⟨rfl, hb⟩
        exact ⟨rfl, hb⟩
      simp only [Act.put, List.setIfInBounds_toArray, List.set_cons_zero, List.set_cons_succ]
      refine seg 1 rfl rfl rfl rfl ?_
      simp only [List.take_succ_cons, List.take_zero, List.drop_succ_cons, List.drop_zero]
      repeat (go_big_quiet_step (fail))
      refine wpQuiet_nil ?_
      intro _
      refine grow_end0 rfl rfl ?_
      intro wb hG
      replace HM := Lib.hid (HM.out.gr ((Gr.drew wa).trans hG))
      clear hG S0 S1 S2 X0 X1 X2 X3 HV2 HV3 HV4 HVb HD HO HO1 HGa HX
      go_wp2_with fail
      go_roundw
      case rel => exact ⟨k + 1, by omega, by go_num, HM⟩
      case measure => simp [intOf]; omega
    · have ht : decide (k < n) = false := decide_eq_false hlt
      have ht' : decide ((k : Int) < (n : Int)) = false := decide_eq_false (by omega)
      have HPv := Lib.hid (prove_any I J _ E ⟨#[97, 98, 115, 101, 110, 116]⟩ wr HM.out.e (by rw [HF.out.eLen]; omega) HF.out.ePath (HT.out.gr HM.out.g))
      have hno : prI I J E ⟨#[97, 98, 115, 101, 110, 116]⟩ = none := by
        unfold prI; rw [if_pos HF.out.valid]
        obtain ⟨-, -, -, rfl, -, -⟩ := HF.out
        exact mad_absent (by decide)
      rw [hno] at HPv
      clear hno
      obtain ⟨k0, k1, k2⟩ := row3 HM.out.r
      go_wp2_with fail
      clear k0 k1 k2
      refine HPv.out.mono ?_
      rintro e w9 ⟨u, rfl, ho, hg⟩
      have ho : OwnL wr.heap.size [] u w9 := ho
      obtain ⟨q9, c9, rfl⟩ := ho.strs.shape
      have HG9 := Lib.hid (HM.out.g.trans hg)
      rw [show enV (prE E none) = .agg #[.string ⟨#[]⟩, .int .i64 0, .int .i64 0, .string ⟨#[]⟩] from rfl, show prN none = 0 from rfl, show prC none = 140 from rfl, show ([] : List ByteArray).length = 0 from rfl]
      clear ho hg HM HPv
      go_upto_region 16 with fail
      have HG10 := Lib.hid (HG9.out.trans (Gr.alloc w9 (.cells #[.string ⟨#[]⟩, .int .i64 0, .int .i64 0, .string ⟨#[]⟩] 28)))
      generalize w9.alloc (.cells #[.string ⟨#[]⟩, .int .i64 0, .int .i64 0, .string ⟨#[]⟩] 28) = w10 at *
      clear HG9
      go_wp2_with fail
      go_ret
      exact ⟨rfl, HG10.out⟩
end Go.Proofs.YtjnnhhengpinmaaGreatDoor
