/- The contract of manifest.Prove. -/
import Derived.Test.YtaoggehdkddgeaaGreatDoorProof
import Derived.Test.YtaoggehdkddgeaaGreatDoorGEnA
import Derived.Test.YtaoggehdkddgeaaGreatDoorGNN
namespace Go.Proofs.YtaoggehdkddgeaaGreatDoor
section
open Go Go.RowKit Go.Shelf
attribute [local go_sem] gAt gUpon
attribute [local simp] Gr.refl Gr.alloc

theorem same_any1 (x : En) (path : ByteArray) (b : Nat) (w : World) (h : w.cell? ⟨b, 0, none⟩ = some (.string path)) :
    Calls Tryz.prog 33 #[.agg #[.string x.path, .int .i64 x.fmt, .int .i64 x.len, .string x.dig], .pointer (some ⟨b, 0, none⟩)] w fun e w' => e = .returned (.bool (decide (x.path = path))) ∧ Gr w w' := by
  have hlt := World.block_lt_of_cell? w _ h
  obtain ⟨C, hC⟩ : ∃ C, decide (x.path = path) = C := ⟨_, rfl⟩
  have t : (x.path.toList == path.toList) = C := by rw [beq_str, hC]
  rw [hC]
  obtain ⟨pa, f, n, d⟩ := x
  simp only at t ⊢
  have HG := Lib.hid (Gr.alloc w (.cells #[.string pa, .int .i64 f, .int .i64 n, .string d] 51))
  have hc := HG.out.cell h
  clear hC h hlt
  go_enter Tryz.func33, Tryz.ntmps33
  go_wp2_with fail
  go_ret
  exact ⟨rfl, HG.out⟩
/-- the place of a path -/
def idxP (l : List En) (path : ByteArray) : Option Nat := l.findIdx? fun x => decide (x.path = path)
def idxV : Option Nat → Int
  | none => -1
  | some i => (i : Int)
theorem idx_no {l : List En} {path : ByteArray} (h : ∀ (i : Nat) (x : En), l[i]? = some x → x.path ≠ path) : idxP l path = none := by
  unfold idxP
  rw [List.findIdx?_eq_none_iff]
  intro x hx
  obtain ⟨i, hi⟩ := List.getElem?_of_mem hx
  exact decide_eq_false (h i x hi)
theorem idx_yes {l : List En} {path : ByteArray} {k : Nat} {x : En} (hx : l[k]? = some x) (hp : x.path = path) (h : ∀ (i : Nat) (y : En), i < k → l[i]? = some y → y.path ≠ path) : idxP l path = some k := by
  unfold idxP
  rw [List.findIdx?_eq_some_iff_getElem]
  obtain ⟨hk1, hk2⟩ := List.getElem?_eq_some_iff.1 hx
  refine ⟨hk1, by rw [hk2]; exact decide_eq_true hp, fun j hj => ?_⟩
  have hj' : j < l.length := by omega
  have := h j l[j] hj (List.getElem?_eq_getElem hj')
  simpa using this
set_option maxRecDepth 100000 in
theorem index_any (v : Value) (l : List En) (path : ByteArray) (b : Nat) (w : World) (hv : Rws 4 enC v l w) (h : w.cell? ⟨b, 0, none⟩ = some (.string path)) (hl : l.length ≤ 9223372036854775806) :
    Calls Tryz.prog 32 #[v, .func (.func 33) #[] #[.pointer (some ⟨b, 0, none⟩)]] w fun e w' => e = .returned (.int .i64 (idxV (idxP l path))) ∧ Gr w w' := by
  obtain ⟨pv, cv, rfl⟩ := hv.shape
  have HV := Lib.hid hv
  have HC := Lib.hid h
  obtain ⟨O, hO⟩ : ∃ O, idxP l path = O := ⟨_, rfl⟩
  have HNo : Hid ((∀ (i : Nat) (x : En), l[i]? = some x → x.path ≠ path) → O = none) := Lib.hid (fun h => by rw [← hO]; exact idx_no h)
  have HYes : Hid (∀ (k : Nat) (x : En), l[k]? = some x → x.path = path → (∀ (i : Nat) (y : En), i < k → l[i]? = some y → y.path ≠ path) → O = some k) := Lib.hid (fun k x h1 h2 h3 => by rw [← hO]; exact idx_yes h1 h2 h3)
  rw [hO]
  clear hv h hO
  go_enter Tryz.func32, Tryz.ntmps32
  go_wp2_with fail
  go_loopw [8] (fun v8 W => ∃ k : Nat, k ≤ l.length ∧ v8 = .int .i64 (k : Int) ∧ Hid (Gr w W) ∧ Hid (∀ (i : Nat) (y : En), i < k → l[i]? = some y → y.path ≠ path)) (fun v8 _ => l.length - (intOf v8).toNat)
  case atStart => exact ⟨0, Nat.zero_le _, rfl, Lib.hid (Gr.refl _), Lib.hid (fun i y h => by omega)⟩
  case round =>
    obtain ⟨k, hk, rfl, HG, HB⟩ := hrel
    by_cases hlt : k < l.length
    · have ht : decide (k < l.length) = true := decide_eq_true hlt
      have ht' : decide ((k : Int) < (l.length : Int)) = true := decide_eq_true (by omega)
      obtain ⟨x, hx⟩ : ∃ x, l[k]? = some x := ⟨_, List.getElem?_eq_getElem hlt⟩
      obtain ⟨g, off, rfl, hlc, hcy⟩ := (HV.out.gr HG.out).at_ hx
      have y0 := hcy 0 _ rfl
      have y1 := hcy 1 _ rfl
      have y2 := hcy 2 _ rfl
      have y3 := hcy 3 _ rfl
      rw [Nat.add_zero] at y0
      rw [← Nat.add_assoc] at y1 y2 y3
      have HS := Lib.hid (fun y (hy : Gr w y) => same_any1 x path b y (hy.cell HC.out))
      obtain ⟨C, hCx⟩ : ∃ C, decide (x.path = path) = C := ⟨_, rfl⟩
      rw [hCx] at HS
      have HY : Hid (C = true → O = some k) := Lib.hid (fun h => HYes.out k x hx (of_decide_eq_true (hCx.trans h)) HB.out)
      have HN : Hid (C = false → ∀ (i : Nat) (y : En), i < k + 1 → l[i]? = some y → y.path ≠ path) := Lib.hid (fun h i y hi hy => by
        rcases Nat.lt_or_ge i k with h1 | h1
        · exact HB.out i y h1 hy
        · obtain rfl : i = k := by omega
          rw [hx] at hy; injection hy with hy
          rw [← hy]; exact of_decide_eq_false (hCx.trans h))
      obtain ⟨pa, f, n, d⟩ := x
      simp only at y0 y1 y2 y3 HS
      clear hcy hx hCx HB
      go_wp2_with fail
      refine (HS.out _ HG.out).mono ?_
      rintro e w1 ⟨rfl, hg⟩
      have HG1 := Lib.hid (HG.out.trans hg)
      clear hg HS y0 y1 y2 y3 HG
      cases C with
      | true =>
        obtain rfl : O = some k := HY.out rfl
        go_wp2_with fail
        go_ret
        exact ⟨rfl, HG1.out⟩
      | false =>
        have HB1 := Lib.hid (HN.out rfl)
        clear HN HY
        go_wp2_with fail
        go_roundw
        case rel => exact ⟨k + 1, by omega, by go_num, HG1, HB1⟩
        case measure => simp [intOf]; omega
    · have ht : decide (k < l.length) = false := decide_eq_false hlt
      have ht' : decide ((k : Int) < (l.length : Int)) = false := decide_eq_false (by omega)
      obtain rfl : O = none := HNo.out (fun i x hx => HB.out i x (by have := (List.getElem?_eq_some_iff.1 hx).1; omega) hx)
      go_wp2_with fail
      go_ret
      exact ⟨rfl, HG.out⟩
end
section
open Go Go.RowKit Go.Shelf
attribute [local go_sem] gAt gUpon pUpon
attribute [local simp] Gr.refl Gr.alloc

def prI (id ver : Int) (l : List En) (path : ByteArray) : Option Nat := if validD id ver l then idxP l path else none
def prE (l : List En) : Option Nat → En
  | none => en0
  | some i => l.getD i en0
def prN : Option Nat → Int
  | none => 0
  | some i => (i : Int)
def prP (l : List En) : Option Nat → List ByteArray
  | none => []
  | some i => rootD (l.map lineD) :: proofD (l.map lineD) i
def prC : Option Nat → Int
  | none => 140
  | some _ => 0
/-- what Prove gives -/
def PvRes (w : World) (l : List En) (o : Option Nat) (e : Ending) (w' : World) : Prop :=
  ∃ u, e = .returned (.tuple #[enV (prE l o), .int .i64 (prN o), u, .int .i64 (prC o)]) ∧ OwnL w.heap.size (prP l o) u w' ∧ Gr w w'
theorem idxP_some {l : List En} {path : ByteArray} {i : Nat} (h : idxP l path = some i) : ∃ x, l[i]? = some x ∧ x.path = path := by
  unfold idxP at h
  rw [List.findIdx?_eq_some_iff_getElem] at h
  obtain ⟨h1, h2, -⟩ := h
  exact ⟨_, List.getElem?_eq_getElem h1, of_decide_eq_true h2⟩
theorem OwnL.keepC {B : Nat} {L : List ByteArray} {v : Value} {w x : World} {b : Nat} (h : OwnL B L v w) (hc : Chg (some b) w x) (hb : ∀ g, v.ownBlock = some g → b < g) : OwnL B L v x := by
  refine Own.keep h hc ?_
  by_cases e : v.ownBlock = none
  · exact .inl e
  · exact .inr (fun h => by have := hb b h; omega)
set_option maxRecDepth 100000 in
set_option maxHeartbeats 2000000 in
theorem prove_any (id ver : Int) (v : Value) (l : List En) (path : ByteArray) (w : World) (hv : Rws 4 enC v l w) (hl : l.length ≤ 9223372036854775806) (hp : ∀ x ∈ l, x.path.size ≤ 9223372036854775807) (hT : Tab w) :
    Calls Tryz.prog 12 #[.agg #[.int .i64 id, .int .i64 ver, v], .string path] w (PvRes w l (prI id ver l path)) := by
  obtain ⟨pv, cv, rfl⟩ := hv.shape
  have HV := Lib.hid hv
  have HT := Lib.hid hT
  have HVa := Lib.hid (fun y (hg : Gr w y) => valid_any id ver _ l y (hv.gr hg) hl hp)
  obtain ⟨bp, hbp⟩ : ∃ b, w.heap.size = b := ⟨_, rfl⟩
  have hX : ∃ wX, ((w.alloc (.cells #[.int .i64 id, .int .i64 ver, .slice pv l.length cv] 43)).alloc (.cells #[.string path] 9)).alloc (.cells #[.string ⟨#[]⟩, .int .i64 0, .int .i64 0, .string ⟨#[]⟩] 51) = wX ∧ Gr w wX ∧
      wX.heap[bp]? = some (.cells #[.int .i64 id, .int .i64 ver, .slice pv l.length cv] 43 (0, 0)) ∧ wX.heap[bp + 1]? = some (.cells #[.string path] 9 (0, 0)) ∧ wX.heap[bp + 2]? = some (.cells #[.string ⟨#[]⟩, .int .i64 0, .int .i64 0, .string ⟨#[]⟩] 51 (0, 0)) := by
    refine ⟨_, rfl, ((Gr.alloc _ _).trans (Gr.alloc _ _)).trans (Gr.alloc _ _), ?_, ?_, ?_⟩
    · rw [← hbp]; exact (Gr.alloc _ _).block ((Gr.alloc _ _).block (heap_alloc_new _ _))
    · rw [← hbp]
      have := (Gr.alloc ((w.alloc (.cells #[.int .i64 id, .int .i64 ver, .slice pv l.length cv] 43)).alloc (.cells #[.string path] 9)) (.cells #[.string ⟨#[]⟩, .int .i64 0, .int .i64 0, .string ⟨#[]⟩] 51)).block (heap_alloc_new (w.alloc (.cells #[.int .i64 id, .int .i64 ver, .slice pv l.length cv] 43)) (.cells #[.string path] 9))
      rw [World.size_alloc] at this; exact this
    · have := heap_alloc_new ((w.alloc (.cells #[.int .i64 id, .int .i64 ver, .slice pv l.length cv] 43)).alloc (.cells #[.string path] 9)) (.cells #[.string ⟨#[]⟩, .int .i64 0, .int .i64 0, .string ⟨#[]⟩] 51)
      rw [World.size_alloc, World.size_alloc, hbp] at this; exact this
  obtain ⟨O, hO⟩ : ∃ O, idxP l path = O := ⟨_, rfl⟩
  have HO := Lib.hid hO
  obtain ⟨B, hB⟩ : ∃ B, validD id ver l = B := ⟨_, rfl⟩
  have HB := Lib.hid hB
  obtain ⟨RR, hRR⟩ : ∃ R, prI id ver l path = R := ⟨_, rfl⟩
  have HRR : Hid (RR = if B then O else none) := Lib.hid (by rw [← hRR]; unfold prI; rw [hO, hB])
  rw [hRR]
  rw [hB] at HVa
  have hmf : ∀ (fn : Fn) (first cap : Array Value) (w : World), (Instr.makeFunc fn first cap).run Tryz.prog w = .ok (.func fn first cap) w := fun _ _ _ _ => rfl
  have HX := Lib.hid hX
  have Hbp := Lib.hid hbp
  have HL := Lib.hid hl
  clear hv hp hT hX hO hB hRR hl
  go_enter Tryz.func12, Tryz.ntmps12
  go_upto_region 1 with fail
  obtain ⟨wX, hX, hG, hA, hP, hR⟩ := HX.out
  rw [hX]
  obtain ⟨bR, hbR⟩ : ∃ b, bp + 2 = b := ⟨_, rfl⟩
  have e2 : bp + 1 + 1 = bR := hbR
  rw [hbR] at hR
  rw [e2]
  have HG := Lib.hid hG
  have HA := Lib.hid hA
  have HR := Lib.hid hR
  have Hbp := Lib.hid (show w.heap.size = bp ∧ bR = bp + 2 from ⟨hbp, hbR.symm⟩)
  obtain ⟨k0, k1, k2⟩ := row3 hA
  have hc1 := (show wX.cell? ⟨bp + 1, 0, none⟩ = some (.string path) by rw [cell_of_row _ _ _ _ _ _ hP]; rfl)
  have HI := Lib.hid (index_any _ l path (bp + 1) wX (HV.out.gr hG) hc1 HL.out)
  rw [HO.out] at HI
  clear hX hG hA hP hR hbp hbR e2 hc1 HX
  go_wp2_with fail
  refine HI.out.mono ?_
  rintro e wa ⟨rfl, hga⟩
  have HGa := Lib.hid (HG.out.trans hga)
  have HAa := Lib.hid (hga.block HA.out)
  have HRa := Lib.hid (hga.block HR.out)
  clear hga HG HA HR HI k0 k1 k2
  cases O with
  | none =>
    obtain rfl : RR = none := by rw [HRR.out]; cases B <;> rfl
    unfold idxV
    obtain ⟨r0, r1, r2, r3⟩ := row4 HRa.out
    obtain ⟨f0, f1, f2, f3⟩ := frozen4 HRa.out
    go_wp2_with fail
    have hch : Chg (some bR) wa ((((wa.setCell ⟨bR, 0, none⟩ (.string ⟨#[]⟩)).setCell ⟨bR, 1, none⟩ (.int .i64 0)).setCell ⟨bR, 2, none⟩ (.int .i64 0)).setCell ⟨bR, 3, none⟩ (.string ⟨#[]⟩)) := setCells_chg bR [.string ⟨#[]⟩, .int .i64 0, .int .i64 0, .string ⟨#[]⟩] 0 wa
    have hrow := row_set4 (a' := .string ⟨#[]⟩) (b' := .int .i64 0) (c' := .int .i64 0) (d' := .string ⟨#[]⟩) HRa.out
    have hGx := gr_step HGa.out (Gr.refl _) hch (fun g e => by cases e; have := Hbp.out; omega)
    obtain ⟨m0, m1, m2, m3⟩ := row4 hrow
    refine bodyPost_ret (v := .tuple #[.agg #[.string ⟨#[]⟩, .int .i64 0, .int .i64 0, .string ⟨#[]⟩], .int .i64 0, .slice none 0 0, .int .i64 140]) ?_ rfl ⟨_, rfl, Own.nil _ _ _, hGx⟩
    simp [results, Tryz.results12, go_sem, m0, m1, m2, m3]
  | some i =>
  unfold idxV
  have t1 : decide ((i : Int) < 0) = false := decide_eq_false (by omega)
  obtain ⟨a0, a1, a2⟩ := row3 HAa.out
  go_wp2_with fail
  refine (HVa.out _ HGa.out).mono ?_
  rintro e wb ⟨rfl, hgb⟩
  have HGb := Lib.hid (HGa.out.trans hgb)
  have HAb := Lib.hid (hgb.block HAa.out)
  have HRb := Lib.hid (hgb.block HRa.out)
  clear hgb HGa HAa HRa HVa a0 a1 a2
  cases B with
  | false =>
    obtain rfl : RR = none := HRR.out
    obtain ⟨r0, r1, r2, r3⟩ := row4 HRb.out
    obtain ⟨f0, f1, f2, f3⟩ := frozen4 HRb.out
    go_wp2_with fail
    have hch : Chg (some bR) wb ((((wb.setCell ⟨bR, 0, none⟩ (.string ⟨#[]⟩)).setCell ⟨bR, 1, none⟩ (.int .i64 0)).setCell ⟨bR, 2, none⟩ (.int .i64 0)).setCell ⟨bR, 3, none⟩ (.string ⟨#[]⟩)) := setCells_chg bR [.string ⟨#[]⟩, .int .i64 0, .int .i64 0, .string ⟨#[]⟩] 0 wb
    have hrow := row_set4 (a' := .string ⟨#[]⟩) (b' := .int .i64 0) (c' := .int .i64 0) (d' := .string ⟨#[]⟩) HRb.out
    have hGx := gr_step HGb.out (Gr.refl _) hch (fun g e => by cases e; have := Hbp.out; omega)
    obtain ⟨m0, m1, m2, m3⟩ := row4 hrow
    refine bodyPost_ret (v := .tuple #[.agg #[.string ⟨#[]⟩, .int .i64 0, .int .i64 0, .string ⟨#[]⟩], .int .i64 0, .slice none 0 0, .int .i64 140]) ?_ rfl ⟨_, rfl, Own.nil _ _ _, hGx⟩
    simp [results, Tryz.results12, go_sem, m0, m1, m2, m3]
  | true =>
  obtain rfl : RR = some i := HRR.out
  obtain ⟨x, hx, hxp⟩ := idxP_some HO.out
  obtain ⟨hH, hlen, -, hLo, -⟩ := valid_head HB.out
  have hi : i < l.length := (List.getElem?_eq_some_iff.1 hx).1
  have HLn := Lib.hid (lines_any id ver _ l wb (HV.out.gr HGb.out) (by omega) hLo)
  obtain ⟨M, hM⟩ : ∃ M, l.map lineD = M := ⟨_, rfl⟩
  have hMl : M.length = l.length := by rw [← hM, List.length_map]
  have hMs : ∀ y ∈ M, y.size ≤ 140737488354000 := fun y hy => by
    rw [← hM] at hy
    obtain ⟨z, hz, rfl⟩ := List.mem_map.1 hy
    exact Nat.le_trans (lineD_size (hLo z hz)) (by decide)
  have hPR : prP l (some i) = rootD M :: proofD M i := by unfold prP; rw [hM]
  rw [hM] at HLn
  have HMs := Lib.hid hMs
  have HPR := Lib.hid hPR
  clear hM hMs hPR hLo hH
  obtain ⟨a0, a1, a2⟩ := row3 HAb.out
  go_wp2_with fail
  refine HLn.out.mono ?_
  rintro e wc ⟨u, rfl, hou, hgc⟩
  have HGc := Lib.hid (HGb.out.trans hgc)
  have HAc := Lib.hid (hgc.block HAb.out)
  have HRc := Lib.hid (hgc.block HRb.out)
  have HOu := Lib.hid hou
  obtain ⟨pu, cu, rfl⟩ := hou.strs.shape
  have HPf := Lib.hid (proof_in _ M i wc HOu.out.strs (by omega) (by omega) HMs.out (HT.out.gr HGc.out))
  have HRt := Lib.hid (fun y (hg : Gr wc y) => root_any _ M y (HOu.out.strs.gr hg) (by omega) HMs.out (HT.out.gr (HGc.out.trans hg)))
  obtain ⟨PP, hPP⟩ : ∃ P, proofD M i = P := ⟨_, rfl⟩
  rw [hPP] at HPf
  have HPR : Hid (prP l (some i) = rootD M :: PP) := Lib.hid (by rw [← hPP]; exact HPR.out)
  have HPl : Hid (PP.length ≤ 6) := Lib.hid (by rw [← hPP]; exact proof_short 6 M i (by rw [hMl]; exact hlen))
  clear hPP
  have HMl := Lib.hid hMl
  clear hou hgc HGb HAb HRb HLn a0 a1 a2 hMl
  go_wp2_with fail
  refine HPf.out.mono ?_
  rintro e wd ⟨q, rfl, hoq, hgd⟩
  have HGd := Lib.hid (HGc.out.trans hgd)
  have HAd := Lib.hid (hgd.block HAc.out)
  have HRd := Lib.hid (hgd.block HRc.out)
  have HOq := Lib.hid hoq
  have HRt := Lib.hid (fun y (hg : Gr wd y) => HRt.out y (hgd.trans hg))
  obtain ⟨pq, cq, rfl⟩ : ∃ p c, q = .slice p PP.length c := by
    rcases hoq.2 with ⟨h1, h2⟩ | ⟨g, off, cap, h1, _⟩
    · exact ⟨none, 0, by rw [h1, h2]⟩
    · exact ⟨_, cap, h1⟩
  clear hgd hoq HGc HAc HRc HPf
  obtain ⟨g, off, rfl, hlc, hcy⟩ := (HV.out.gr HGd.out).at_ hx
  have y0 := hcy 0 _ rfl
  have y1 := hcy 1 _ rfl
  have y2 := hcy 2 _ rfl
  have y3 := hcy 3 _ rfl
  rw [Nat.add_zero] at y0
  rw [← Nat.add_assoc] at y1 y2 y3
  have i0 : (0 : Int) ≤ (i : Int) := by omega
  have i1 : (i : Int) < (l.length : Int) := by omega
  have HX := Lib.hid hx
  have HXp := Lib.hid hxp
  have HGz := Lib.hid (Gr.drew wd)
  have hS0 : (fun y : World => y.cell? ⟨bp, 2, none⟩ = some (.slice (some ⟨g, off, none⟩) l.length cv) ∧ y.cell? ⟨g, off + i * 4, none⟩ = some (.string x.path) ∧ y.cell? ⟨g, off + i * 4 + 1, none⟩ = some (.int .i64 x.fmt) ∧ y.cell? ⟨g, off + i * 4 + 2, none⟩ = some (.int .i64 x.len) ∧ y.cell? ⟨g, off + i * 4 + 3, none⟩ = some (.string x.dig)) wd.drew := ⟨(row3 HAd.out).2.2, y0, y1, y2, y3⟩
  have HAz := Lib.hid (HGz.out.block HAd.out)
  have HRz := Lib.hid (HGz.out.block HRd.out)
  have HOz := Lib.hid (HOq.out.gr HGz.out)
  have HGw := Lib.hid (HGd.out.trans HGz.out)
  have hgb : g < bp := by
    have := World.block_lt_of_cell? wd _ y0
    obtain ⟨g', off', he, _, hcy'⟩ := HV.out.at_ hx
    injection he with e1; injection e1 with e1 e2
    subst e1
    have := World.block_lt_of_cell? w _ (hcy' 0 _ rfl)
    have := Hbp.out.1; simp at *; omega
  clear hcy y0 y1 y2 y3 hx hxp HAd HRd HOq HGd
  go_upto_region 6 with fail
  refine u_begin (fun y : World => y.cell? ⟨bp, 2, none⟩ = some (.slice (some ⟨g, off, none⟩) l.length cv) ∧ y.cell? ⟨g, off + i * 4, none⟩ = some (.string x.path) ∧ y.cell? ⟨g, off + i * 4 + 1, none⟩ = some (.int .i64 x.fmt) ∧ y.cell? ⟨g, off + i * 4 + 2, none⟩ = some (.int .i64 x.len) ∧ y.cell? ⟨g, off + i * 4 + 3, none⟩ = some (.string x.dig)) (fun _ => false) (by kernel_rfl) (by assumption) (fun hHeld => ?_)
  have HRt := Lib.hid (HRt.out _ HGz.out)
  clear HGz
  generalize wd.drew = wz at *
  refine u_take 0 (v := ?_) rfl rfl (by kernel_rfl) (by kernel_rfl) (by kernel_rfl) (by kernel_rfl) (fun _ _ _ h => h) (by rfl) (by assumption) ?_ ?_
  rotate_left
  · (intro w hSw; (try dsimp only at hSw); go_simp; try with_reducible rfl)
  try simp only [Act.put, List.setIfInBounds_toArray, List.set_cons_zero, List.set_cons_succ]
  refine u_take 1 (v := ?_) rfl rfl (by kernel_rfl) (by kernel_rfl) (by kernel_rfl) (by kernel_rfl) (fun _ _ _ h => h) (by rfl) (by assumption) ?_ ?_
  rotate_left
  · (intro w hSw; (try dsimp only at hSw); go_simp; try with_reducible rfl)
  try simp only [Act.put, List.setIfInBounds_toArray, List.set_cons_zero, List.set_cons_succ]
  refine u_take 2 (v := ?_) rfl rfl (by kernel_rfl) (by kernel_rfl) (by kernel_rfl) (by kernel_rfl) (fun _ _ _ h => h) (by rfl) (by assumption) ?_ ?_
  rotate_left
  · (intro w hSw; (try dsimp only at hSw); go_simp; try with_reducible rfl)
  try simp only [Act.put, List.setIfInBounds_toArray, List.set_cons_zero, List.set_cons_succ]
  refine u_take 3 (v := ?_) rfl rfl (by kernel_rfl) (by kernel_rfl) (by kernel_rfl) (by kernel_rfl) (fun _ _ _ h => h) (by rfl) (by assumption) ?_ ?_
  rotate_left
  · (intro w hSw; (try dsimp only at hSw); go_simp; try with_reducible rfl)
  try simp only [Act.put, List.setIfInBounds_toArray, List.set_cons_zero, List.set_cons_succ]
  refine u_take 4 (v := ?_) rfl rfl (by kernel_rfl) (by kernel_rfl) (by kernel_rfl) (by kernel_rfl) (fun _ _ _ h => h) (by rfl) (by assumption) ?_ ?_
  rotate_left
  · (intro w hSw; (try dsimp only at hSw); go_simp; try with_reducible rfl)
  try simp only [Act.put, List.setIfInBounds_toArray, List.set_cons_zero, List.set_cons_succ]
  refine u_take 5 (v := ?_) rfl rfl (by kernel_rfl) (by kernel_rfl) (by kernel_rfl) (by kernel_rfl) (fun _ _ _ h => h) (by rfl) (by assumption) ?_ ?_
  rotate_left
  · (intro w hSw; (try dsimp only at hSw); go_simp; try with_reducible rfl)
  try simp only [Act.put, List.setIfInBounds_toArray, List.set_cons_zero, List.set_cons_succ]
  refine u_take 6 (v := ?_) rfl rfl (by kernel_rfl) (by kernel_rfl) (by kernel_rfl) (by kernel_rfl) (fun _ _ _ h => h) (by rfl) (by assumption) ?_ ?_
  rotate_left
  · (intro w hSw; (try dsimp only at hSw); go_simp; try with_reducible rfl)
  try simp only [Act.put, List.setIfInBounds_toArray, List.set_cons_zero, List.set_cons_succ]
  refine u_take 9 (v := ?_) rfl rfl (by kernel_rfl) (by kernel_rfl) (by kernel_rfl) (by kernel_rfl) (fun _ _ _ h => h) (by rfl) (by assumption) ?_ ?_
  rotate_left
  · (intro w hSw; (try dsimp only at hSw); go_simp; try with_reducible rfl)
  try simp only [Act.put, List.setIfInBounds_toArray, List.set_cons_zero, List.set_cons_succ]
  refine u_step 7 (by kernel_rfl) rfl (by rfl) ?_
  go_simp
  refine HRt.out.mono ?_
  rintro e wy ⟨rfl, hgy⟩
  have HGy := Lib.hid (HGw.out.trans hgy)
  have HAy := Lib.hid (hgy.block HAz.out)
  have HRy := Lib.hid (hgy.block HRz.out)
  have HOy := Lib.hid (HOz.out.gr hgy)
  have hSy : (fun y : World => y.cell? ⟨bp, 2, none⟩ = some (.slice (some ⟨g, off, none⟩) l.length cv) ∧ y.cell? ⟨g, off + i * 4, none⟩ = some (.string x.path) ∧ y.cell? ⟨g, off + i * 4 + 1, none⟩ = some (.int .i64 x.fmt) ∧ y.cell? ⟨g, off + i * 4 + 2, none⟩ = some (.int .i64 x.len) ∧ y.cell? ⟨g, off + i * 4 + 3, none⟩ = some (.string x.dig)) wy :=
    ⟨hgy.cell hS0.1, hgy.cell hS0.2.1, hgy.cell hS0.2.2.1, hgy.cell hS0.2.2.2.1, hgy.cell hS0.2.2.2.2⟩
  clear hgy HGw HAz HRz HOz hS0 HRt hHeld
  refine .inl ⟨_, rfl, hSy, ?_⟩
  refine u_step 8 (by kernel_rfl) rfl (by rfl) ?_
  go_simp
  have HGe := Lib.hid (Gr.alloc wy (.cells #[.string (rootD M)] 9))
  have HNw : Hid (OwnL wy.heap.size [rootD M] (.slice (some ⟨wy.heap.size, 0, none⟩) 1 1) (wy.alloc (.cells #[.string (rootD M)] 9))) := Lib.hid (strs_new wy [rootD M] (by rw [List.length_singleton]; unfold maxLen; omega))
  have HAe := Lib.hid (HGe.out.block HAy.out)
  have HRe := Lib.hid (HGe.out.block HRy.out)
  have HOe := Lib.hid (HOy.out.gr HGe.out)
  have HGf := Lib.hid (HGy.out.trans HGe.out)
  have hSe : (fun y : World => y.cell? ⟨bp, 2, none⟩ = some (.slice (some ⟨g, off, none⟩) l.length cv) ∧ y.cell? ⟨g, off + i * 4, none⟩ = some (.string x.path) ∧ y.cell? ⟨g, off + i * 4 + 1, none⟩ = some (.int .i64 x.fmt) ∧ y.cell? ⟨g, off + i * 4 + 2, none⟩ = some (.int .i64 x.len) ∧ y.cell? ⟨g, off + i * 4 + 3, none⟩ = some (.string x.dig)) (wy.alloc (.cells #[.string (rootD M)] 9)) :=
    ⟨HGe.out.cell hSy.1, HGe.out.cell hSy.2.1, HGe.out.cell hSy.2.2.1, HGe.out.cell hSy.2.2.2.1, HGe.out.cell hSy.2.2.2.2⟩
  have hbn : bR < wy.heap.size := (Array.getElem?_eq_some_iff.1 HRy.out).1
  have HBn := Lib.hid HGy.out.size
  have Hbn := Lib.hid hbn
  have HSn : Hid (wy.heap.size ≤ (wy.alloc (.cells #[.string (rootD M)] 9)).heap.size) := Lib.hid HGe.out.size
  refine ⟨hSe, ?_⟩
  clear hSy HAy HRy HOy HGy HGe
  generalize wy.alloc (.cells #[.string (rootD M)] 9) = wf at *
  generalize wy.heap.size = bn at *
  refine u_one 10 (by kernel_rfl) rfl ?_
  refine append_strs rfl (.tmp 40) (.tmp 41) rfl (B := bn) (v := .slice (some ⟨bn, 0, none⟩) 1 1) (u := .slice pq PP.length cq) (L := [rootD M]) (M := PP) rfl HNw.out rfl HOe.out.strs.2 ?b1 ?b2 ?_
  case b1 => have := HPl.out; rw [List.length_singleton]; omega
  case b2 => exact HSn.out
  intro v9 w9 hown hchg
  have hb3 : bR = bp + 2 := Hbp.out.2
  have hS9 : (fun y : World => y.cell? ⟨bp, 2, none⟩ = some (.slice (some ⟨g, off, none⟩) l.length cv) ∧ y.cell? ⟨g, off + i * 4, none⟩ = some (.string x.path) ∧ y.cell? ⟨g, off + i * 4 + 1, none⟩ = some (.int .i64 x.fmt) ∧ y.cell? ⟨g, off + i * 4 + 2, none⟩ = some (.int .i64 x.len) ∧ y.cell? ⟨g, off + i * 4 + 3, none⟩ = some (.string x.dig)) w9 :=
    ⟨hchg.cell hSe.1 (by simp [Value.ownBlock]; omega), hchg.cell hSe.2.1 (by simp [Value.ownBlock]; omega), hchg.cell hSe.2.2.1 (by simp [Value.ownBlock]; omega), hchg.cell hSe.2.2.2.1 (by simp [Value.ownBlock]; omega), hchg.cell hSe.2.2.2.2 (by simp [Value.ownBlock]; omega)⟩
  have HR9 := Lib.hid (hchg.block HRe.out (by simp [Value.ownBlock]; omega))
  have HG9 : Hid (Gr w w9) := Lib.hid (gr_step HGf.out (Gr.refl _) hchg (fun g' e => by simp [Value.ownBlock] at e; have := HBn.out; omega))
  have HO9 := Lib.hid (hown.mono HBn.out)
  have HBx : Hid (∀ g', v9.ownBlock = some g' → bR < g') := Lib.hid (fun g' e => by have := Own.ge hown e; have := Hbn.out; omega)
  clear hown hchg hSe HRe HOe HGf HNw HSn HAe hb3
  refine ⟨fun _ => hS9, ?_⟩
  try simp only [Act.put, List.setIfInBounds_toArray]
  obtain ⟨r0, r1, r2, r3⟩ := row4 HR9.out
  obtain ⟨f0, f1, f2, f3⟩ := frozen4 HR9.out
  have hc3 : Chg (some bR) w9 (((w9.setCell ⟨bR, 0, none⟩ (.string x.path)).setCell ⟨bR, 1, none⟩ (.int .i64 x.fmt)).setCell ⟨bR, 2, none⟩ (.int .i64 x.len)) := setCells_chg bR [.string x.path, .int .i64 x.fmt, .int .i64 x.len] 0 w9
  have hc4 : Chg (some bR) w9 ((((w9.setCell ⟨bR, 0, none⟩ (.string x.path)).setCell ⟨bR, 1, none⟩ (.int .i64 x.fmt)).setCell ⟨bR, 2, none⟩ (.int .i64 x.len)).setCell ⟨bR, 3, none⟩ (.string x.dig)) := setCells_chg bR [.string x.path, .int .i64 x.fmt, .int .i64 x.len, .string x.dig] 0 w9
  have hrow := row_set4 (a' := .string x.path) (b' := .int .i64 x.fmt) (c' := .int .i64 x.len) (d' := .string x.dig) HR9.out
  have HG0 : Hid (Gr w ((((w9.setCell ⟨bR, 0, none⟩ (.string x.path)).setCell ⟨bR, 1, none⟩ (.int .i64 x.fmt)).setCell ⟨bR, 2, none⟩ (.int .i64 x.len)).setCell ⟨bR, 3, none⟩ (.string x.dig))) := Lib.hid (gr_step HG9.out (Gr.refl _) hc4 (fun g' e => by cases e; have := Hbp.out; omega))
  have HO0 := Lib.hid (OwnL.keepC HO9.out hc4 HBx.out)
  have HRow := Lib.hid hrow
  have HC3 := Lib.hid hc3
  have HC4 := Lib.hid hc4
  have HS9 := Lib.hid hS9
  have Hbb : Hid (bR = bp + 2 ∧ g < bp) := Lib.hid ⟨Hbp.out.2, hgb⟩
  clear hc3 hc4 hrow HG9 HO9 HR9
  refine u_step 11 (by kernel_rfl) rfl (by rfl) ?_
  go_simp
  clear r0 r1 r2 r3 f0 f1 f2 f3 hS9 hgb
  have hS0 : (fun y : World => y.cell? ⟨bp, 2, none⟩ = some (.slice (some ⟨g, off, none⟩) l.length cv) ∧ y.cell? ⟨g, off + i * 4, none⟩ = some (.string x.path) ∧ y.cell? ⟨g, off + i * 4 + 1, none⟩ = some (.int .i64 x.fmt) ∧ y.cell? ⟨g, off + i * 4 + 2, none⟩ = some (.int .i64 x.len) ∧ y.cell? ⟨g, off + i * 4 + 3, none⟩ = some (.string x.dig)) ((((w9.setCell ⟨bR, 0, none⟩ (.string x.path)).setCell ⟨bR, 1, none⟩ (.int .i64 x.fmt)).setCell ⟨bR, 2, none⟩ (.int .i64 x.len)).setCell ⟨bR, 3, none⟩ (.string x.dig)) :=
    ⟨HC4.out.cell HS9.out.1 (by simp; have := Hbb.out; omega), HC4.out.cell HS9.out.2.1 (by simp; have := Hbb.out; omega), HC4.out.cell HS9.out.2.2.1 (by simp; have := Hbb.out; omega), HC4.out.cell HS9.out.2.2.2.1 (by simp; have := Hbb.out; omega), HC4.out.cell HS9.out.2.2.2.2 (by simp; have := Hbb.out; omega)⟩
  refine ⟨⟨HC3.out.cell HS9.out.1 (by simp; have := Hbb.out; omega), hS0.2⟩, ?_⟩
  generalize (((w9.setCell ⟨bR, 0, none⟩ (.string x.path)).setCell ⟨bR, 1, none⟩ (.int .i64 x.fmt)).setCell ⟨bR, 2, none⟩ (.int .i64 x.len)).setCell ⟨bR, 3, none⟩ (.string x.dig) = w0 at *
  refine u_take 12 (v := ?_) rfl rfl (by kernel_rfl) (by kernel_rfl) (by kernel_rfl) (by kernel_rfl) (fun _ _ _ h => h) (by rfl) (by assumption) ?_ ?_
  rotate_left
  · (intro w hSw; (try dsimp only at hSw); go_simp; try with_reducible rfl)
  try simp only [Act.put, List.setIfInBounds_toArray, List.set_cons_zero, List.set_cons_succ]
  refine u_take 13 (v := ?_) rfl rfl (by kernel_rfl) (by kernel_rfl) (by kernel_rfl) (by kernel_rfl) (fun _ _ _ h => h) (by rfl) (by assumption) ?_ ?_
  rotate_left
  · (intro w hSw; (try dsimp only at hSw); go_simp; try with_reducible rfl)
  try simp only [Act.put, List.setIfInBounds_toArray, List.set_cons_zero, List.set_cons_succ]
  refine u_take 14 (v := ?_) rfl rfl (by kernel_rfl) (by kernel_rfl) (by kernel_rfl) (by kernel_rfl) (fun _ _ _ h => h) (by rfl) (by assumption) ?_ ?_
  rotate_left
  · (intro w hSw; (try dsimp only at hSw); go_simp; try with_reducible rfl)
  try simp only [Act.put, List.setIfInBounds_toArray, List.set_cons_zero, List.set_cons_succ]
  refine u_done (by kernel_rfl) ?_ _
  go_wp2_with fail
  obtain ⟨m0, m1, m2, m3⟩ := row4 HRow.out
  refine bodyPost_ret (v := .tuple #[enV (prE l (some i)), .int .i64 (i : Int), v9, .int .i64 0]) ?_ rfl ⟨v9, rfl, by rw [HPR.out]; exact HO0.out, HG0.out⟩
  have he : enV (prE l (some i)) = .agg #[.string x.path, .int .i64 x.fmt, .int .i64 x.len, .string x.dig] := by
    unfold prE
    simp only
    rw [getD_at HX.out]; rfl
  rw [he]
  simp [results, Tryz.results12, go_sem, m0, m1, m2, m3]
end
section
open Go Go.RowKit Go.Shelf
attribute [local go_sem] gAt gUpon
attribute [local simp] Gr.refl Gr.alloc

/-- what Verify gives -/
def verM (root : ByteArray) (id ver n i : Int) (x : En) (l : List ByteArray) : Bool :=
  headB id ver n && (entB x && (decide (l.length ≠ 0) && (decide (root = boundD id ver n (l.getD 0 ⟨#[]⟩)) && verD (l.getD 0 ⟨#[]⟩) n i (lineD x) (l.drop 1))))
set_option maxRecDepth 100000 in
set_option maxHeartbeats 2000000 in
theorem verifyM_any (root : ByteArray) (id ver n i : Int) (x : En) (v : Value) (l : List ByteArray) (w : World) (hv : StrsAt v l w) (hl : l.length ≤ 1000000) (hn : n ≤ 9223372036854775807) (hx : x.path.size ≤ 9223372036854775807) (hs : ∀ y ∈ l, y.size ≤ 1000) (hT : Tab w) :
    Calls Tryz.prog 15 #[.string root, .int .i64 id, .int .i64 ver, .int .i64 n, .int .i64 i, .agg #[.string x.path, .int .i64 x.fmt, .int .i64 x.len, .string x.dig], v] w fun e w' => e = .returned (.bool (verM root id ver n i x l)) ∧ Gr w w' := by
  obtain ⟨p, c, rfl⟩ := hv.shape
  have HV := Lib.hid hv
  have HT := Lib.hid hT
  have HS := Lib.hid hs
  obtain ⟨B, hB⟩ : ∃ B, verM root id ver n i x l = B := ⟨_, rfl⟩
  rw [hB]
  have HB : Hid ((headB id ver n && (entB x && (decide (l.length ≠ 0) && (decide (root = boundD id ver n (l.getD 0 ⟨#[]⟩)) && verD (l.getD 0 ⟨#[]⟩) n i (lineD x) (l.drop 1))))) = B) := Lib.hid hB
  have HHd : Hid (∀ y, _) := Lib.hid (fun y => isHead_any id ver n y)
  have HEn : Hid (∀ y, _) := Lib.hid (fun y => isEntry_any x y hx)
  obtain ⟨B1, hB1⟩ : ∃ B, headB id ver n = B := ⟨_, rfl⟩
  obtain ⟨B2, hB2⟩ : ∃ B, entB x = B := ⟨_, rfl⟩
  have HB1 := Lib.hid hB1
  have HB2 := Lib.hid hB2
  rw [hB1] at HHd HB
  rw [hB2] at HEn HB
  obtain ⟨pa, f, m, d⟩ := x
  have HLn := Lib.hid (fun (h : B2 = true) y => line_any ⟨pa, f, m, d⟩ (ent_line (HB2.out.trans h)) y)
  simp only at HEn HLn
  obtain ⟨bb, hbb⟩ : ∃ b, w.heap.size = b := ⟨_, rfl⟩
  have hrow := heap_alloc_new w (.cells #[.string pa, .int .i64 f, .int .i64 m, .string d] 51)
  rw [hbb] at hrow
  have HA := Lib.hid hrow
  have HGA := Lib.hid (Gr.alloc w (.cells #[.string pa, .int .i64 f, .int .i64 m, .string d] 51))
  clear hv hT hs hB hB1 hB2 hrow hx
  go_enter Tryz.func15, Tryz.ntmps15
  go_upto_region 1 with fail
  clear hbb
  generalize w.alloc (.cells #[.string pa, .int .i64 f, .int .i64 m, .string d] 51) = wa at HA HGA ⊢
  obtain ⟨a0, a1, a2, a3⟩ := row4 HA.out
  cases B1 with
  | false =>
    obtain rfl : B = false := HB.out.symm
    go_wp2_with fail
    refine (HHd.out _).mono ?_
    rintro e w1 ⟨rfl, rfl⟩
    go_wp2_with fail
    go_ret
    exact ⟨rfl, HGA.out⟩
  | true =>
  go_wp2_with fail
  refine (HHd.out _).mono ?_
  rintro e w1 ⟨rfl, rfl⟩
  go_wp2_with fail
  refine (HEn.out _).mono ?_
  rintro e wb ⟨rfl, hg1⟩
  have HG1 := Lib.hid (HGA.out.trans hg1)
  have HA1 := Lib.hid (hg1.block HA.out)
  clear hg1 HGA HA HHd HEn a0 a1 a2 a3
  cases B2 with
  | false =>
    obtain rfl : B = false := HB.out.symm
    go_wp2_with fail
    go_ret
    exact ⟨rfl, HG1.out⟩
  | true =>
  by_cases h0 : l.length = 0
  · have t0 : ((l.length : Int) == 0) = true := by rw [h0]; rfl
    obtain rfl : B = false := by rw [← HB.out, h0]; rfl
    go_wp2_with fail
    go_ret
    exact ⟨rfl, HG1.out⟩
  · have t0 : ((l.length : Int) == 0) = false := by rw [beq_eq_false_iff_ne]; omega
    obtain ⟨g, off, rfl, -, hcap, hcm, hcut⟩ := (HV.out.gr HG1.out).cut (by omega)
    obtain ⟨y0, hy0⟩ : ∃ y, l[0]? = some y := ⟨_, List.getElem?_eq_getElem (by omega)⟩
    have hg0 : l.getD 0 ⟨#[]⟩ = y0 := by rw [List.getD_eq_getElem?_getD, hy0]; rfl
    have hys := HS.out y0 (List.mem_of_getElem? hy0)
    have hc0 : wb.cell? ⟨g, off, none⟩ = some (.string y0) := by
      rcases HV.out.gr HG1.out with ⟨he, h1⟩ | ⟨g', off', cap', he, _, _, hc⟩
      · cases he
      · injection he with e1 e2 e3
        injection e1 with e1; injection e1 with e1 e4
        subst e1 e4
        exact hc 0 y0 hy0
    obtain ⟨o1, hD, ho1⟩ : ∃ o1, StrsAt (.slice (some ⟨g, o1, none⟩) (l.length - 1) (c - 1)) (l.drop 1) wb ∧ ((c = 1 ∧ o1 = off) ∨ (c ≠ 1 ∧ o1 = off + 1)) := by
      by_cases h1 : c = 1
      · refine ⟨off, .inr ⟨g, off, c - 1, by rw [List.length_drop], by rw [List.length_drop]; omega, by omega, fun j x hj => ?_⟩, .inl ⟨h1, rfl⟩⟩
        have := (List.getElem?_eq_some_iff.1 hj).1
        rw [List.length_drop] at this; omega
      · exact ⟨off + 1, (hcut 1 (by omega)).2, .inr ⟨h1, rfl⟩⟩
    have HD := Lib.hid hD
    have HO1 := Lib.hid ho1
    have HBo := Lib.hid (fun y (ht : Tab y) => bound_any id ver n (head_ok HB1.out) y0 hys y ht)
    have HVf := Lib.hid (fun y (hg : Gr wb y) => verify_any y0 (lineD ⟨pa, f, m, d⟩) n i _ (l.drop 1) y (HD.out.gr hg) (by rw [List.length_drop]; omega) hn (Nat.le_trans (lineD_size (ent_line HB2.out)) (by decide)) (HT.out.gr (HG1.out.trans hg)))
    rw [hg0] at HB
    obtain ⟨R, hR⟩ : ∃ R, boundD id ver n y0 = R := ⟨_, rfl⟩
    obtain ⟨Ln, hLn⟩ : ∃ R, lineD ⟨pa, f, m, d⟩ = R := ⟨_, rfl⟩
    obtain ⟨C, hC⟩ : ∃ C, decide (root = R) = C := ⟨_, rfl⟩
    rw [hR] at HBo HB
    rw [hLn] at HVf HB HLn
    obtain ⟨X, hX⟩ : ∃ X, verD y0 n i Ln (l.drop 1) = X := ⟨_, rfl⟩
    rw [hX] at HVf HB
    rw [hC] at HB
    have t1 : (root.toList == R.toList) = C := by rw [beq_str, hC]
    have S0 : ∀ q : GrS wb.drew, q.w.cell? ⟨g, off, none⟩ = some (.string y0) := fun q => q.h.cell (w := wb.drew) hc0
    have S1 : ∀ q : GrS wb.drew, q.w.cell? ⟨bb, 0, none⟩ = some (.string pa) := fun q => q.h.cell (w := wb.drew) (row4 HA1.out).1
    have S2 : ∀ q : GrS wb.drew, q.w.cell? ⟨bb, 1, none⟩ = some (.int .i64 f) := fun q => q.h.cell (w := wb.drew) (row4 HA1.out).2.1
    have S3 : ∀ q : GrS wb.drew, q.w.cell? ⟨bb, 2, none⟩ = some (.int .i64 m) := fun q => q.h.cell (w := wb.drew) (row4 HA1.out).2.2.1
    have S4 : ∀ q : GrS wb.drew, q.w.cell? ⟨bb, 3, none⟩ = some (.string d) := fun q => q.h.cell (w := wb.drew) (row4 HA1.out).2.2.2
    have i0 : (0 : Int) < (l.length : Int) := by omega
    have i1 : (1 : Int) ≤ (l.length : Int) := by omega
    have i2 : (l.length : Int) ≤ (c : Int) := by omega
    clear hR hLn hC hX hg0 hy0 hys hcut hc0 hD ho1
    cases C with
    | false =>
      obtain rfl : B = false := by rw [← HB.out]; simp
      go_upto_region 3 with fail
      refine region_grow 22 51 (by kernel_rfl) rfl (by kernel_rfl) rfl rfl ?_
      simp only [List.take_succ_cons, List.take_zero, List.drop_succ_cons, List.drop_zero]
      refine seg 7 rfl rfl rfl rfl ?_
      simp only [List.take_succ_cons, List.take_zero, List.drop_succ_cons, List.drop_zero]
      repeat (go_big_quiet_step (fail))
      refine wpQuiet_nil ?_
      intro _
      refine grow_det (v := .string R) rfl rfl rfl rfl rfl ?_ ?_
      · intro w1 hG
        go_simp
        refine (HBo.out w1 (HT.out.gr (HG1.out.trans ((Gr.drew wb).trans hG)))).mono ?_
        rintro e w' ⟨rfl, hb⟩
        exact ⟨rfl, hb⟩
      simp only [Act.put, List.setIfInBounds_toArray, List.set_cons_zero, List.set_cons_succ]
      refine seg 8 rfl rfl rfl rfl ?_
      simp only [List.take_succ_cons, List.take_zero, List.drop_succ_cons, List.drop_zero]
      repeat (go_big_quiet_step (fail))
      refine wpQuiet_nil ?_
      intro _
      refine grow_skip rfl rfl rfl rfl ?_
      simp only [Act.put, List.setIfInBounds_toArray, List.set_cons_zero, List.set_cons_succ]
      refine seg 2 rfl rfl rfl rfl ?_
      simp only [List.take_succ_cons, List.take_zero, List.drop_succ_cons, List.drop_zero]
      repeat (go_big_quiet_step (fail))
      refine wpQuiet_nil ?_
      intro _
      refine grow_skip rfl rfl rfl rfl ?_
      simp only [Act.put, List.setIfInBounds_toArray, List.set_cons_zero, List.set_cons_succ]
      refine seg 2 rfl rfl rfl rfl ?_
      simp only [List.take_succ_cons, List.take_zero, List.drop_succ_cons, List.drop_zero]
      repeat (go_big_quiet_step (fail))
      refine wpQuiet_nil ?_
      intro _
      refine grow_end0 rfl rfl ?_
      intro w8 hG
      have HG8 : Hid (Gr w w8) := Lib.hid (HG1.out.trans ((Gr.drew wb).trans hG))
      clear hG S0 S1 S2 S3 S4
      go_wp2_with fail
      go_ret
      exact ⟨rfl, HG8.out⟩
    | true =>
      obtain rfl : B = X := by rw [← HB.out, decide_eq_true h0]; simp
      go_upto_region 3 with fail
      refine region_grow 22 51 (by kernel_rfl) rfl (by kernel_rfl) rfl rfl ?_
      simp only [List.take_succ_cons, List.take_zero, List.drop_succ_cons, List.drop_zero]
      refine seg 7 rfl rfl rfl rfl ?_
      simp only [List.take_succ_cons, List.take_zero, List.drop_succ_cons, List.drop_zero]
      repeat (go_big_quiet_step (fail))
      refine wpQuiet_nil ?_
      intro _
      refine grow_det (v := .string R) rfl rfl rfl rfl rfl ?_ ?_
      · intro w1 hG
        go_simp
        refine (HBo.out w1 (HT.out.gr (HG1.out.trans ((Gr.drew wb).trans hG)))).mono ?_
        rintro e w' ⟨rfl, hb⟩
        exact ⟨rfl, hb⟩
      simp only [Act.put, List.setIfInBounds_toArray, List.set_cons_zero, List.set_cons_succ]
      refine seg 8 rfl rfl rfl rfl ?_
      simp only [List.take_succ_cons, List.take_zero, List.drop_succ_cons, List.drop_zero]
      repeat (go_big_quiet_step (fail))
      refine wpQuiet_nil ?_
      intro _
      refine grow_det (v := .string Ln) rfl rfl rfl rfl rfl ?_ ?_
      · intro w1 hG
        go_simp
        refine (HLn.out trivial w1).mono ?_
        rintro e w' ⟨rfl, hb⟩
        exact ⟨rfl, hb⟩
      simp only [Act.put, List.setIfInBounds_toArray, List.set_cons_zero, List.set_cons_succ]
      refine seg 1 rfl rfl rfl rfl ?_
      simp only [List.take_succ_cons, List.take_zero, List.drop_succ_cons, List.drop_zero]
      repeat (go_big_quiet_step (fail))
      refine wpQuiet_nil ?_
      intro _
      refine grow_det (v := .slice (some ⟨g, o1, none⟩) (l.length - 1) (c - 1)) rfl rfl rfl rfl rfl ?_ ?_
      · intro w1 hG
        rcases HO1.out with ⟨h1, h2⟩ | ⟨h1, h2⟩
        · rw [h2]
          go_simp
        · rw [h2]
          go_simp
      simp only [Act.put, List.setIfInBounds_toArray, List.set_cons_zero, List.set_cons_succ]
      refine grow_det (v := .bool B) rfl rfl rfl rfl rfl ?_ ?_
      · intro w1 hG
        go_simp
        refine (HVf.out w1 ((Gr.drew wb).trans hG)).mono ?_
        rintro e w' ⟨rfl, hb⟩
        exact ⟨rfl, hb⟩
      simp only [Act.put, List.setIfInBounds_toArray, List.set_cons_zero, List.set_cons_succ]
      refine seg 2 rfl rfl rfl rfl ?_
      simp only [List.take_succ_cons, List.take_zero, List.drop_succ_cons, List.drop_zero]
      repeat (go_big_quiet_step (fail))
      refine wpQuiet_nil ?_
      intro _
      refine grow_end0 rfl rfl ?_
      intro w8 hG
      have HG8 : Hid (Gr w w8) := Lib.hid (HG1.out.trans ((Gr.drew wb).trans hG))
      clear hG S0 S1 S2 S3 S4
      go_wp2_with fail
      go_ret
      exact ⟨rfl, HG8.out⟩
end
end Go.Proofs.YtaoggehdkddgeaaGreatDoor
