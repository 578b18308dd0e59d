/- The contract of content.Valid. -/
import Derived.Test.YtaoggehdkddgeaaGreatDoorCtF
namespace Go.Proofs.YtaoggehdkddgeaaGreatDoor
section
open Go Go.RowKit Go.Shelf
attribute [local go_sem] gAt gUpon
attribute [local simp] Gr.refl Gr.alloc

def ce0 : Ce := ⟨0, 0, false, 0, 0, 0⟩
def aheadB (a b : Ce) : Bool := decide (a.row < b.row) || (a.row == b.row && decide (a.col < b.col))
def ascK (l : List Ce) (k : Nat) : Bool := (List.range (k - 1)).all fun i => aheadB (l.getD i ce0) (l.getD (i + 1) ce0)
theorem ascK_succ (l : List Ce) (k : Nat) (hk : 1 ≤ k) {a b : Ce} (ha : l[k - 1]? = some a) (hb : l[k]? = some b) : ascK l (k + 1) = (ascK l k && aheadB a b) := by
  obtain ⟨j, rfl⟩ : ∃ j, k = j + 1 := ⟨k - 1, by omega⟩
  unfold ascK
  simp only [Nat.add_sub_cancel] at ha ⊢
  rw [List.range_succ, List.all_append]
  simp [List.getD_eq_getElem?_getD, ha, hb]
/-- a document that is valid -/
def validB (ls : List Ln) (cs : List Ce) (wd : Int) (bits : ByteArray) : Bool := decide (ls.length ≤ 64) && (decide (cs.length ≤ 64) && (ascK cs cs.length && (ls.all lnB && (cs.all ceB && rasterB wd bits))))
/-- the values of a document that came in, or was made -/
def DocIn (v1 v2 : Value) (ls : List Ln) (cs : List Ce) (w : World) : Prop := Rws 2 lnC v1 ls w ∧ Rws 6 ceC v2 cs w
theorem thenGen {F : World → Prop} {K : Act → World → Prop} {Q : Exit → Act → World → Prop} {a : Act} {x : World} (hx : F x) (h : ∀ w, F w → Exit.then K Q Exit.normal a w) : Exit.then K Q Exit.normal a x := h x hx
theorem two_new (w : World) (o1 o2 : Obj) : Gr w ((w.alloc o1).alloc o2).drew ∧ ((w.alloc o1).alloc o2).drew.heap[w.heap.size]? = (w.alloc o1).heap[w.heap.size]? ∧ ((w.alloc o1).alloc o2).drew.heap[w.heap.size + 1]? = ((w.alloc o1).alloc o2).heap[w.heap.size + 1]? := by
  refine ⟨(Gr.alloc w o1).trans ((Gr.alloc _ o2).trans (Gr.drew _)), ?_, rfl⟩
  have hlt : w.heap.size < (w.alloc o1).heap.size := by rw [World.size_alloc]; omega
  have := (show Below (w.alloc o1).heap.size (w.alloc o1) ((w.alloc o1).alloc o2) from Gr.alloc _ o2).block _ hlt
  exact this
theorem two_box (w : World) (a b c d e f a' b' c' d' e' f' : Value) (t t' : TypeId) :
    Gr w ((w.alloc (.cells #[a, b, c, d, e, f] t)).alloc (.cells #[a', b', c', d', e', f'] t')).drew ∧
    ((w.alloc (.cells #[a, b, c, d, e, f] t)).alloc (.cells #[a', b', c', d', e', f'] t')).drew.cell? ⟨w.heap.size, 0, none⟩ = some a ∧
    ((w.alloc (.cells #[a, b, c, d, e, f] t)).alloc (.cells #[a', b', c', d', e', f'] t')).drew.cell? ⟨w.heap.size, 1, none⟩ = some b ∧
    ((w.alloc (.cells #[a, b, c, d, e, f] t)).alloc (.cells #[a', b', c', d', e', f'] t')).drew.cell? ⟨w.heap.size + 1, 0, none⟩ = some a' ∧
    ((w.alloc (.cells #[a, b, c, d, e, f] t)).alloc (.cells #[a', b', c', d', e', f'] t')).drew.cell? ⟨w.heap.size + 1, 1, none⟩ = some b' := by
  obtain ⟨h1, h2, h3⟩ := two_new w (.cells #[a, b, c, d, e, f] t) (.cells #[a', b', c', d', e', f'] t')
  have e1 := h2.trans (heap_alloc_new _ _)
  have e2 := heap_alloc_new (w.alloc (.cells #[a, b, c, d, e, f] t)) (.cells #[a', b', c', d', e', f'] t')
  rw [World.size_alloc] at e2
  have e3 := h3.trans e2
  exact ⟨h1, (row6 e1).1, (row6 e1).2, (row6 e3).1, (row6 e3).2⟩
theorem ascK_end (l : List Ce) (k : Nat) (h : k ≤ l.length ∨ k = 1) (hk : 1 ≤ k) (hn : ¬ k < l.length) : ascK l l.length = ascK l k := by
  unfold ascK
  rw [show l.length - 1 = k - 1 by omega]
set_option maxHeartbeats 4000000 in
theorem validC_any (v1 v2 : Value) (ls : List Ln) (cs : List Ce) (wd : Int) (bits : ByteArray) (w : World) (hd : DocIn v1 v2 ls cs w) (hl1 : ls.length ≤ 9223372036854775806) (hl2 : cs.length ≤ 9223372036854775806) (hw : -9223372036854775808 ≤ wd ∧ wd ≤ 9223372036854775807) (hb : bits.size ≤ 9223372036854775807) :
    Calls Tryz.prog 20 #[.agg #[v1, v2, .int .i64 wd, .string bits]] w fun e w' => e = .returned (.bool (validB ls cs wd bits)) ∧ Gr w w' := by
  obtain ⟨p1, c1, rfl⟩ := hd.1.shape
  obtain ⟨p2, c2, rfl⟩ := hd.2.shape
  obtain ⟨B, hB⟩ : ∃ B, validB ls cs wd bits = B := ⟨_, rfl⟩
  rw [hB]
  have HB := Lib.hid hB
  have HL := Lib.hid (fun y (hg : Gr w y) => all_line _ ls y (hd.1.gr hg) hl1)
  have HCe := Lib.hid (fun y (hg : Gr w y) => all_cell _ cs y (hd.2.gr hg) hl2)
  have HRa := Lib.hid (fun y => isRaster_any p1 p2 ls.length c1 cs.length c2 wd bits y hw hb)
  have HD := Lib.hid hd
  obtain ⟨bx, hbx⟩ : ∃ bx, bx = w.heap.size := ⟨_, rfl⟩
  have hrow := heap_alloc_new w (.cells #[.slice p1 ls.length c1, .slice p2 cs.length c2, .int .i64 wd, .string bits] 35)
  rw [← hbx] at hrow
  have HR := Lib.hid hrow
  clear hB hrow hd
  go_enter Tryz.func20, Tryz.ntmps20
  go_upto_region 1 with fail
  rw [← hbx]
  refine wp_gen (F := fun y => Gr w y ∧ y.heap[bx]? = some (.cells #[.slice p1 ls.length c1, .slice p2 cs.length c2, .int .i64 wd, .string bits] 35 (0, 0))) ⟨Gr.alloc _ _, HR.out⟩ ?_
  clear HR hbx
  rintro wA ⟨hgA, hrA⟩
  have HRA := Lib.hid hrA
  have HGA := Lib.hid hgA
  have H0 := Lib.hid (Gr.refl wA)
  have HK0 : Hid (ascK cs 1 = true) := Lib.hid rfl
  clear hgA hrA
  go_wp2_with fail
  go_loopw [3, 4] (fun v3 v4 W => ∃ (k : Nat) (b : Bool), 1 ≤ k ∧ (k ≤ cs.length ∨ k = 1) ∧ v3 = .bool b ∧ v4 = .int .i64 (k : Int) ∧ Hid (ascK cs k = b) ∧ Hid (Gr wA W)) (fun _ v4 _ => cs.length - (intOf v4).toNat)
  case atStart => exact ⟨1, true, Nat.le_refl _, .inr rfl, rfl, rfl, HK0, H0⟩
  case round =>
    obtain ⟨k, b, hk1, hkl, rfl, rfl, HK, HG⟩ := hrel
    obtain ⟨d0, d1, d2, d3⟩ := row4 (HG.out.block HRA.out)
    have hbl : bx < wr.heap.size := World.block_lt_of_cell? wr _ d0
    by_cases hlt : k < cs.length
    · have tk : decide (k < cs.length) = true := decide_eq_true hlt
      obtain ⟨x, hx⟩ : ∃ x, cs[k - 1]? = some x := ⟨_, List.getElem?_eq_getElem (by omega)⟩
      obtain ⟨y, hy⟩ : ∃ y, cs[k]? = some y := ⟨_, List.getElem?_eq_getElem hlt⟩
      obtain ⟨g, off, rfl, hlc, hcx⟩ := (HD.out.2.gr (HGA.out.trans HG.out)).at_ hx
      obtain ⟨g', off', he', -, hcy⟩ := (HD.out.2.gr (HGA.out.trans HG.out)).at_ hy
      injection he' with he'
      injection he' with h1 h2
      subst h1 h2
      have hst := ascK_succ cs k hk1 hx hy
      obtain ⟨j, rfl⟩ : ∃ j, k = j + 1 := ⟨k - 1, by omega⟩
      have ew : IntKind.i64.wrap (((j + 1 : Nat) : Int) - 1) = (j : Int) := by rw [IntWalk.i64_in _ (by omega)]; omega
      have ew2 : IntKind.i64.wrap (j : Int) = (j : Int) := IntWalk.i64_in _ (by omega)
      have i0 : (0 : Int) ≤ (j : Int) := by omega
      have i1 : (j : Int) < (cs.length : Int) := by omega
      have i2 : (0 : Int) ≤ (j : Int) + 1 := by omega
      have i3 : (j : Int) + 1 < (cs.length : Int) := by omega
      have i4 : ((j : Int) + 1).toNat = j + 1 := by omega
      obtain ⟨xr, xc, xs, xv, xt, xl⟩ := x
      obtain ⟨yr, yc, ys, yv, yt, yl⟩ := y
      simp only [Nat.add_sub_cancel] at hx hcx hst
      have qx0 := hcx 0 _ rfl
      rw [Nat.add_zero] at qx0
      have qx1 := hcx 1 _ rfl
      rw [← Nat.add_assoc] at qx1
      have qx2 := hcx 2 _ rfl
      rw [← Nat.add_assoc] at qx2
      have qx3 := hcx 3 _ rfl
      rw [← Nat.add_assoc] at qx3
      have qx4 := hcx 4 _ rfl
      rw [← Nat.add_assoc] at qx4
      have qx5 := hcx 5 _ rfl
      rw [← Nat.add_assoc] at qx5
      have qy0 := hcy 0 _ rfl
      rw [Nat.add_zero] at qy0
      have qy1 := hcy 1 _ rfl
      rw [← Nat.add_assoc] at qy1
      have qy2 := hcy 2 _ rfl
      rw [← Nat.add_assoc] at qy2
      have qy3 := hcy 3 _ rfl
      rw [← Nat.add_assoc] at qy3
      have qy4 := hcy 4 _ rfl
      rw [← Nat.add_assoc] at qy4
      have qy5 := hcy 5 _ rfl
      rw [← Nat.add_assoc] at qy5
      have HC : Hid (∀ V, Gr wr V → V.cell? ⟨bx, 1, none⟩ = some (.slice (some ⟨g, off, none⟩) cs.length c2) ∧ V.cell? ⟨g, off + j * 6, none⟩ = some (.int .i64 xr) ∧ V.cell? ⟨g, off + j * 6 + 1, none⟩ = some (.int .i64 xc) ∧ V.cell? ⟨g, off + j * 6 + 2, none⟩ = some (.bool xs) ∧ V.cell? ⟨g, off + j * 6 + 3, none⟩ = some (.int .i64 xv) ∧ V.cell? ⟨g, off + j * 6 + 4, none⟩ = some (.int .i64 xt) ∧ V.cell? ⟨g, off + j * 6 + 5, none⟩ = some (.int .i64 xl) ∧ V.cell? ⟨g, off + (j + 1) * 6, none⟩ = some (.int .i64 yr) ∧ V.cell? ⟨g, off + (j + 1) * 6 + 1, none⟩ = some (.int .i64 yc) ∧ V.cell? ⟨g, off + (j + 1) * 6 + 2, none⟩ = some (.bool ys) ∧ V.cell? ⟨g, off + (j + 1) * 6 + 3, none⟩ = some (.int .i64 yv) ∧ V.cell? ⟨g, off + (j + 1) * 6 + 4, none⟩ = some (.int .i64 yt) ∧ V.cell? ⟨g, off + (j + 1) * 6 + 5, none⟩ = some (.int .i64 yl)) := Lib.hid (fun V hV => ⟨hV.cell d1, hV.cell qx0, hV.cell qx1, hV.cell qx2, hV.cell qx3, hV.cell qx4, hV.cell qx5, hV.cell qy0, hV.cell qy1, hV.cell qy2, hV.cell qy3, hV.cell qy4, hV.cell qy5⟩)
      have hgl : g < wr.heap.size := World.block_lt_of_cell? wr _ (HC.out wr (Gr.refl _)).2.1
      have hc0 := HC.out wr (Gr.refl _)
      have Hx := Lib.hid hx
      have Hy := Lib.hid hy
      have HSt := Lib.hid hst
      clear hx hy hst hcx hcy qx0 qx1 qx2 qx3 qx4 qx5 qy0 qy1 qy2 qy3 qy4 qy5
      go_upto_region 5 with fail
      clear d0 d2 d3
      go_region_held3 (fun w' => w'.cell? ⟨bx, 1, none⟩ = some (.slice (some ⟨g, off, none⟩) cs.length c2) ∧ w'.cell? ⟨g, off + j * 6, none⟩ = some (.int .i64 xr) ∧ w'.cell? ⟨g, off + j * 6 + 1, none⟩ = some (.int .i64 xc) ∧ w'.cell? ⟨g, off + j * 6 + 2, none⟩ = some (.bool xs) ∧ w'.cell? ⟨g, off + j * 6 + 3, none⟩ = some (.int .i64 xv) ∧ w'.cell? ⟨g, off + j * 6 + 4, none⟩ = some (.int .i64 xt) ∧ w'.cell? ⟨g, off + j * 6 + 5, none⟩ = some (.int .i64 xl) ∧ w'.cell? ⟨g, off + (j + 1) * 6, none⟩ = some (.int .i64 yr) ∧ w'.cell? ⟨g, off + (j + 1) * 6 + 1, none⟩ = some (.int .i64 yc) ∧ w'.cell? ⟨g, off + (j + 1) * 6 + 2, none⟩ = some (.bool ys) ∧ w'.cell? ⟨g, off + (j + 1) * 6 + 3, none⟩ = some (.int .i64 yv) ∧ w'.cell? ⟨g, off + (j + 1) * 6 + 4, none⟩ = some (.int .i64 yt) ∧ w'.cell? ⟨g, off + (j + 1) * 6 + 5, none⟩ = some (.int .i64 yl)) ((refine HC.out _ ?_; repeat (first | exact Gr.refl _ | (refine Gr.trans ?_ (Gr.alloc _ _)) | (refine Gr.trans ?_ (Gr.drew _))))) (first | fail)
      all_goals (rename_i hq; clear hq hc0 d1)
      · refine thenGen (F := (fun y => Gr wr y ∧ y.cell? ⟨wr.heap.size, 0, none⟩ = some (.int .i64 xr) ∧ y.cell? ⟨wr.heap.size, 1, none⟩ = some (.int .i64 xc) ∧ y.cell? ⟨wr.heap.size + 1, 0, none⟩ = some (.int .i64 yr) ∧ y.cell? ⟨wr.heap.size + 1, 1, none⟩ = some (.int .i64 yc))) (two_box wr (.int .i64 xr) (.int .i64 xc) (.bool xs) (.int .i64 xv) (.int .i64 xt) (.int .i64 xl) (.int .i64 yr) (.int .i64 yc) (.bool ys) (.int .i64 yv) (.int .i64 yt) (.int .i64 yl) 63 63) ?_
        rintro wB ⟨hgB, m0, m1, m2, m3⟩
        have HG1 := Lib.hid (HG.out.trans hgB)
        clear hgB hbl
        cases b with
        | false =>
          have HN : Hid (ascK cs (j + 1 + 1) = false) := Lib.hid (by rw [HSt.out, HK.out]; simp [aheadB])
          clear HK HSt HC
          go_wp2_with fail
          go_roundw
          case rel => exact ⟨j + 1 + 1, false, by omega, .inl (by omega), rfl, by go_num, HN, HG1⟩
          case measure => simp [intOf]; omega
        | true =>
          by_cases u1 : xr < yr
          · have v1 : decide (xr < yr) = true := decide_eq_true u1
            have HN : Hid (ascK cs (j + 1 + 1) = true) := Lib.hid (by rw [HSt.out, HK.out]; simp [aheadB, v1])
            clear HK HSt HC u1
            go_wp2_with fail
            go_roundw
            case rel => exact ⟨j + 1 + 1, true, by omega, .inl (by omega), rfl, by go_num, HN, HG1⟩
            case measure => simp [intOf]; omega
          · have v1 : decide (xr < yr) = false := decide_eq_false u1
            by_cases u2 : xr = yr
            · subst u2
              have v2 : decide (xr = xr) = true := decide_eq_true rfl
              have v2' : (xr == xr) = true := beq_self_eq_true _
              by_cases u3 : xc < yc
              · have v3 : decide (xc < yc) = true := decide_eq_true u3
                have HN : Hid (ascK cs (j + 1 + 1) = true) := Lib.hid (by rw [HSt.out, HK.out]; simp [aheadB, v3])
                clear HK HSt HC u1 u3
                go_wp2_with fail
                go_roundw
                case rel => exact ⟨j + 1 + 1, true, by omega, .inl (by omega), rfl, by go_num, HN, HG1⟩
                case measure => simp [intOf]; omega
              · have v3 : decide (xc < yc) = false := decide_eq_false u3
                have HN : Hid (ascK cs (j + 1 + 1) = false) := Lib.hid (by rw [HSt.out, HK.out]; simp [aheadB, v3])
                clear HK HSt HC u1 u3
                go_wp2_with fail
                go_roundw
                case rel => exact ⟨j + 1 + 1, false, by omega, .inl (by omega), rfl, by go_num, HN, HG1⟩
                case measure => simp [intOf]; omega
            · have v2 : decide (xr = yr) = false := decide_eq_false u2
              have v2' : (xr == yr) = false := beq_eq_false_iff_ne.2 u2
              have HN : Hid (ascK cs (j + 1 + 1) = false) := Lib.hid (by rw [HSt.out, HK.out]; simp [aheadB, v1, v2'])
              clear HK HSt HC u1
              go_wp2_with fail
              go_roundw
              case rel => exact ⟨j + 1 + 1, false, by omega, .inl (by omega), rfl, by go_num, HN, HG1⟩
              case measure => simp [intOf]; omega
      · refine thenGen (F := (fun y => Gr wr y ∧ y.cell? ⟨wr.heap.size + 1, 0, none⟩ = some (.int .i64 xr) ∧ y.cell? ⟨wr.heap.size + 1, 1, none⟩ = some (.int .i64 xc) ∧ y.cell? ⟨wr.heap.size, 0, none⟩ = some (.int .i64 yr) ∧ y.cell? ⟨wr.heap.size, 1, none⟩ = some (.int .i64 yc))) (by obtain ⟨q, q1, q2, q3, q4⟩ := two_box wr (.int .i64 yr) (.int .i64 yc) (.bool ys) (.int .i64 yv) (.int .i64 yt) (.int .i64 yl) (.int .i64 xr) (.int .i64 xc) (.bool xs) (.int .i64 xv) (.int .i64 xt) (.int .i64 xl) 63 63; exact ⟨q, q3, q4, q1, q2⟩) ?_
        rintro wB ⟨hgB, m0, m1, m2, m3⟩
        have HG1 := Lib.hid (HG.out.trans hgB)
        clear hgB hbl
        cases b with
        | false =>
          have HN : Hid (ascK cs (j + 1 + 1) = false) := Lib.hid (by rw [HSt.out, HK.out]; simp [aheadB])
          clear HK HSt HC
          go_wp2_with fail
          go_roundw
          case rel => exact ⟨j + 1 + 1, false, by omega, .inl (by omega), rfl, by go_num, HN, HG1⟩
          case measure => simp [intOf]; omega
        | true =>
          by_cases u1 : xr < yr
          · have v1 : decide (xr < yr) = true := decide_eq_true u1
            have HN : Hid (ascK cs (j + 1 + 1) = true) := Lib.hid (by rw [HSt.out, HK.out]; simp [aheadB, v1])
            clear HK HSt HC u1
            go_wp2_with fail
            go_roundw
            case rel => exact ⟨j + 1 + 1, true, by omega, .inl (by omega), rfl, by go_num, HN, HG1⟩
            case measure => simp [intOf]; omega
          · have v1 : decide (xr < yr) = false := decide_eq_false u1
            by_cases u2 : xr = yr
            · subst u2
              have v2 : decide (xr = xr) = true := decide_eq_true rfl
              have v2' : (xr == xr) = true := beq_self_eq_true _
              by_cases u3 : xc < yc
              · have v3 : decide (xc < yc) = true := decide_eq_true u3
                have HN : Hid (ascK cs (j + 1 + 1) = true) := Lib.hid (by rw [HSt.out, HK.out]; simp [aheadB, v3])
                clear HK HSt HC u1 u3
                go_wp2_with fail
                go_roundw
                case rel => exact ⟨j + 1 + 1, true, by omega, .inl (by omega), rfl, by go_num, HN, HG1⟩
                case measure => simp [intOf]; omega
              · have v3 : decide (xc < yc) = false := decide_eq_false u3
                have HN : Hid (ascK cs (j + 1 + 1) = false) := Lib.hid (by rw [HSt.out, HK.out]; simp [aheadB, v3])
                clear HK HSt HC u1 u3
                go_wp2_with fail
                go_roundw
                case rel => exact ⟨j + 1 + 1, false, by omega, .inl (by omega), rfl, by go_num, HN, HG1⟩
                case measure => simp [intOf]; omega
            · have v2 : decide (xr = yr) = false := decide_eq_false u2
              have v2' : (xr == yr) = false := beq_eq_false_iff_ne.2 u2
              have HN : Hid (ascK cs (j + 1 + 1) = false) := Lib.hid (by rw [HSt.out, HK.out]; simp [aheadB, v1, v2'])
              clear HK HSt HC u1
              go_wp2_with fail
              go_roundw
              case rel => exact ⟨j + 1 + 1, false, by omega, .inl (by omega), rfl, by go_num, HN, HG1⟩
              case measure => simp [intOf]; omega
    · have hE := ascK_end cs k hkl hk1 hlt
      rw [HK.out] at hE
      have HE := Lib.hid hE
      have tk : decide (k < cs.length) = false := decide_eq_false hlt
      clear HK hE
      have HGw := Lib.hid (HGA.out.trans HG.out)
      clear HG H0 HK0 HRA hbl
      by_cases h1 : ls.length ≤ 64
      · have t1 : decide (ls.length ≤ 64) = true := decide_eq_true h1
        have t1' : decide ((ls.length : Int) ≤ 64) = true := decide_eq_true (by omega)
        by_cases h2 : cs.length ≤ 64
        · have t2 : decide (cs.length ≤ 64) = true := decide_eq_true h2
          have t2' : decide ((cs.length : Int) ≤ 64) = true := decide_eq_true (by omega)
          cases b with
          | true =>
            obtain ⟨bl, hbl⟩ : ∃ bl, ls.all lnB = bl := ⟨_, rfl⟩
            rw [hbl] at HL
            have Hbl := Lib.hid hbl
            obtain ⟨bc, hbc⟩ : ∃ bc, cs.all ceB = bc := ⟨_, rfl⟩
            rw [hbc] at HCe
            have Hbc := Lib.hid hbc
            obtain ⟨br, hbr⟩ : ∃ br, rasterB wd bits = br := ⟨_, rfl⟩
            rw [hbr] at HRa
            have Hbr := Lib.hid hbr
            have HV : Hid (validB ls cs wd bits = (bl && (bc && br))) := Lib.hid (by unfold validB; rw [t1, t2, HE.out, hbl, hbc, hbr]; simp)
            clear hbl hbc hbr h1 h2
            go_wp2_with fail
            refine (HL.out _ HGw.out).mono ?_
            rintro e wB ⟨rfl, hgB⟩
            have d0 := hgB.cell d0
            have d1 := hgB.cell d1
            have d2 := hgB.cell d2
            have d3 := hgB.cell d3
            have HG2 := Lib.hid (HGw.out.trans hgB)
            cases bl with
            | false =>
              obtain rfl : B = false := by rw [← HB.out, HV.out]; rfl
              go_wp2_with fail
              go_ret
              exact ⟨rfl, HG2.out⟩
            | true =>
              go_wp2_with fail
              refine (HCe.out _ HG2.out).mono ?_
              rintro e wC ⟨rfl, hgC⟩
              have d0 := hgC.cell d0
              have d1 := hgC.cell d1
              have d2 := hgC.cell d2
              have d3 := hgC.cell d3
              have HG3 := Lib.hid (HG2.out.trans hgC)
              cases bc with
              | false =>
                obtain rfl : B = false := by rw [← HB.out, HV.out]; rfl
                go_wp2_with fail
                go_ret
                exact ⟨rfl, HG3.out⟩
              | true =>
                obtain rfl : B = br := by rw [← HB.out, HV.out]; simp
                go_wp2_with fail
                refine (HRa.out _).mono ?_
                rintro e wD ⟨rfl, hgD⟩
                have HG4 := Lib.hid (HG3.out.trans hgD)
                go_wp2_with fail
                go_ret
                exact ⟨rfl, HG4.out⟩
          | false =>
            obtain rfl : B = false := by rw [← HB.out]; simp [validB, HE.out]
            go_wp2_with fail
            go_ret
            exact ⟨rfl, HGw.out⟩
        · have t2 : decide (cs.length ≤ 64) = false := decide_eq_false h2
          have t2' : decide ((cs.length : Int) ≤ 64) = false := decide_eq_false (by omega)
          obtain rfl : B = false := by rw [← HB.out]; simp [validB, t2]
          clear h1 h2
          go_wp2_with fail
          go_ret
          exact ⟨rfl, HGw.out⟩
      · have t1 : decide (ls.length ≤ 64) = false := decide_eq_false h1
        have t1' : decide ((ls.length : Int) ≤ 64) = false := decide_eq_false (by omega)
        obtain rfl : B = false := by rw [← HB.out]; simp [validB, t1]
        clear h1
        go_wp2_with fail
        go_ret
        exact ⟨rfl, HGw.out⟩
end
section
open Go Go.RowKit Go.Shelf

theorem get_data (s : ByteArray) (i : Nat) (h : i < s.size) : s.get! i = s.data.toList[i]'(by simpa using h) := by
  have h2 : i < s.data.size := h
  show s.data[i]! = _
  rw [getElem!_pos s.data i h2]
  simp
theorem dec_low (s : ByteArray) (i : Nat) (h : (s.get! i).toNat < 128) : Utf8.decode s i = ((s.get! i).toNat, 1) := by
  unfold Utf8.decode
  simp only [Nat.add_zero]
  rw [if_pos h]
theorem dec_high (s : ByteArray) (i : Nat) (h : 128 ≤ (s.get! i).toNat) : 128 ≤ (Utf8.decode s i).1 := by
  unfold Utf8.decode
  simp only [Nat.add_zero]
  rw [if_neg (by omega)]
  split
  · split <;> simp_all [Utf8.runeError]
  · split
    · split
      · rename_i hc; simp at hc; simp; omega
      · simp [Utf8.runeError]
    · split
      · split
        · rename_i hc; simp at hc; simp; omega
        · simp [Utf8.runeError]
      · simp [Utf8.runeError]
/-- printable ASCII throughout -/
def printB (t : ByteArray) : Bool := t.data.toList.all fun b => decide (32 ≤ b.toNat) && decide (b.toNat ≤ 126)
theorem idx_neg (s : ByteArray) : ∀ (f pos : Nat), s.size ≤ pos + f → (Lib.idxFuncFrom otherR true s f pos < 0 ↔ (s.data.toList.drop pos).all (fun b => decide (32 ≤ b.toNat) && decide (b.toNat ≤ 126)) = true)
  | 0, pos, h => by
    rw [Lib.idxFuncFrom_end _ _ _ _ _ (by omega), List.drop_of_length_le (by simpa using h)]
    simp
  | f + 1, pos, h => by
    by_cases hp : pos < s.size
    · have hp' : pos < s.data.toList.length := by simpa using hp
      rw [List.drop_eq_getElem_cons hp', List.all_cons]
      unfold Lib.idxFuncFrom
      rw [if_pos hp]
      have hg := get_data s pos hp
      by_cases h1 : (s.get! pos).toNat < 128
      · rw [dec_low s pos h1, ← hg]
        by_cases h2 : otherR (s.get! pos).toNat = true
        · rw [if_pos h2]
          unfold otherR at h2
          simp at h2
          constructor
          · intro h3; omega
          · intro h3; simp at h3; omega
        · rw [if_neg h2, idx_neg s f (pos + 1) (by omega)]
          unfold otherR at h2
          simp at h2
          have e1 : (decide (32 ≤ (s.get! pos).toNat) && decide ((s.get! pos).toNat ≤ 126)) = true := by simp; omega
          rw [e1, Bool.true_and]
      · have h3 := dec_high s pos (by omega)
        have h2 : otherR (Utf8.decode s pos).1 = true := by unfold otherR; simp; omega
        rw [if_pos h2, ← hg]
        constructor
        · intro h4; omega
        · intro h4; simp at h4; omega
    · rw [Lib.idxFuncFrom_end _ _ _ _ _ hp, List.drop_of_length_le (by simp; omega)]
      simp
theorem lineB_eq (t : ByteArray) (m : Int) : lineB t m = (decide (t.size ≤ 80) && (printB t && withinB m 0 7)) := by
  unfold lineB
  have h := idx_neg t t.size 0 (by omega)
  rw [List.drop_zero] at h
  have e : decide (Lib.idxFunc otherR true t < 0) = printB t := by
    rw [Bool.eq_iff_iff, decide_eq_true_eq]
    exact h
  rw [e]
theorem printB_append (a b : ByteArray) : printB (a ++ b) = (printB a && printB b) := by
  unfold printB
  rw [show (a ++ b).data = a.data ++ b.data from by simp, Array.toList_append, List.all_append]
/-- ascending, as a list -/
theorem asc_of_pairwise (l : List Ce) (h : l.Pairwise fun a b => aheadB a b = true) : ascK l l.length = true := by
  unfold ascK
  rw [List.all_eq_true]
  intro i hi
  rw [List.mem_range] at hi
  have h1 : i < l.length := by omega
  have h2 : i + 1 < l.length := by omega
  have := List.pairwise_iff_getElem.1 h i (i + 1) h1 h2 (by omega)
  rw [List.getD_eq_getElem?_getD, List.getD_eq_getElem?_getD, List.getElem?_eq_getElem h1, List.getElem?_eq_getElem h2]
  exact this
theorem raster_ok (wd h : Nat) (bits : ByteArray) (hw : wd ≤ 32) (h1 : 1 ≤ h) (h2 : h ≤ 32) (hs : bits.size = wd * h) (hb : inB [48, 49] bits = true) : rasterB (wd : Int) bits = true := by
  unfold rasterB
  rw [hb, Bool.true_and, Bool.and_eq_true]
  refine ⟨by unfold withinB; simp; omega, ?_⟩
  by_cases h0 : wd = 0
  · subst h0
    simp at hs
    simp [hs]
  · rw [if_neg (by omega)]
    have hh : heightD (wd : Int) bits = (h : Int) := by
      unfold heightD
      rw [if_neg (by omega), hs]
      rw [show ((wd * h : Nat) : Int) = (wd : Int) * (h : Int) by simp]
      exact Int.mul_ediv_cancel_left _ (by omega)
    rw [hh, hs]
    unfold withinB
    simp
    omega
end
end Go.Proofs.YtaoggehdkddgeaaGreatDoor
