/- More arguments: sixteen bytes, leaves, documents. -/
import Derived.Test.YtakhomofckcckaaGreatDoorLaidP
import Derived.Test.YtakhomofckcckaaGreatDoorRrA
namespace Go.Proofs.YtakhomofckcckaaGreatDoor
open Go Go.ChangeShapes Go.WideShapes Go.ChangeAt Go.RowKit
open Go.ChangeMaps (open_string shut_string)

theorem bytes_of {n : Nat} {cs : List Value} (hl : cs.length = n) (h : ∀ i, i < n → ∃ x : UInt8, cs[i]? = some (.int .u8 (x.toNat : Int))) : ∃ b : ByteArray, b.size = n ∧ cs = bysC b := by
  obtain ⟨L, hL, hr⟩ := list_of n h
  refine ⟨⟨L.toArray⟩, by simpa [ByteArray.size] using hL, ?_⟩
  unfold bysC
  apply List.ext_getElem?
  intro i
  show cs[i]? = (L.map fun x => Value.int .u8 (x.toNat : Int))[i]?
  rw [List.getElem?_map]
  by_cases hi : i < L.length
  · rw [List.getElem?_eq_getElem hi]
    exact hr i _ (List.getElem?_eq_getElem hi)
  · rw [List.getElem?_eq_none (by omega), List.getElem?_eq_none (by omega)]; rfl
theorem u8_of_wf {x : Int} (h : (Lit.int .u8 x).wf = true) : ∃ y : UInt8, x = (y.toNat : Int) := by
  simp [Lit.wf, IntKind.min, IntKind.max, IntKind.signed, IntKind.bits] at h
  refine ⟨UInt8.ofNat x.toNat, ?_⟩
  rw [UInt8.toNat_ofNat_of_lt' (by unfold UInt8.size; omega)]
  omega
section
variable {H : Type} {enc : TypeId × Value → H} {P : Program} {w : World}
theorem arr_bytes {t e : TypeId} {n k : Nat} {cs : List Value} {D : DataW H × List MemPlace} (ht : P.underlying t = some (.array k e)) (he : P.underlying e = some (.int .u8)) (hc : P.cellsOf e = 1) (hl : cs.length = k) (h : DataW.trod enc P w 0 (fun _ => true) true n t cs = some D) : ∃ b : ByteArray, b.size = k ∧ cs = bysC b := by
  obtain ⟨xs, m, _, _, _, hlen, hf⟩ := DataW.trod_array ht h
  refine bytes_of hl (fun i hi => ?_)
  have h0 := hf i hi
  rw [hc, List.getElem?_eq_getElem (by omega)] at h0
  obtain ⟨x, hx, _, hw⟩ := DataW.trod_int he h0
  obtain ⟨y, rfl⟩ := u8_of_wf hw
  refine ⟨y, ?_⟩
  have h1 : ((cs.drop (i * 1)).take 1)[0]? = some (.int .u8 (y.toNat : Int)) := by rw [hx]; rfl
  rw [List.getElem?_take_of_lt (by decide), List.getElem?_drop, Nat.mul_one, Nat.add_zero] at h1
  exact h1
theorem okWide_array {k : Nat} {t e : TypeId} {r : Reach} {b0 : Nat} {v : Value} (hu : P.underlying t = some (.array k e)) (h : Value.okWide P w r b0 t v) : ∃ cs, v = .agg cs ∧ cs.size = P.cellsOf t := by
  simp only [Value.okWide, hu] at h
  obtain ⟨cs, h1, h2, _⟩ := h
  exact ⟨cs, h1, h2⟩
end
theorem c16 : Tryz.prog.cellsOf 61 = 16 := by kernel_rfl
theorem cU8 : Tryz.prog.cellsOf 5 = 1 := by kernel_rfl
set_option maxRecDepth 100000 in
/-- sixteen bytes among the arguments -/
theorem open_bytes16 {H : Type} {enc : TypeId × Value → H} {w : World} {r : Reach} {b0 : Nat} {v : Value} {d : DataW H} {p : List MemPlace} (hok : Value.okWide Tryz.prog w r b0 61 v) (h : DataW.Trod enc Tryz.prog w 0 (fun _ => true) true 61 v d p) :
    ∃ b : ByteArray, v = .agg (bysC b).toArray ∧ b.size = 16 := by
  have hu := Tryz.underlying61
  have u0 := Tryz.underlying5
  have c0 := c16
  have c1 := cU8
  generalize Tryz.prog = P at *
  obtain ⟨cs, rfl, hsz⟩ := okWide_array hu hok
  obtain ⟨fuel, hf⟩ := h
  obtain ⟨b, hb, hcs⟩ := arr_bytes hu u0 c1 (by simpa [Value.cells] using hsz.trans c0) hf
  refine ⟨b, ?_, hb⟩
  have h2 : cs.toList = bysC b := hcs
  congr 1
  rw [← Array.toArray_toList (xs := cs), h2]
/-- what is known of a leaf that came in -/
def LfIn (x : Lf) : Prop := I64 x.mark ∧ x.text.size ≤ maxLen ∧ x.salt.size ≤ maxLen ∧ x.digest.size ≤ maxLen
section
variable {H : Type} {enc : TypeId × Value → H} {P : Program} {w : World}
theorem line_cells {t ts ti : TypeId} {f0 f1 : Field} {n : Nat} {cs : List Value} {D : DataW H × List MemPlace} (he : P.underlying t = some (.struct #[f0, f1])) (o0 : f0.offset = 0) (o1 : f1.offset = 1) (k0 : f0.type = ts) (k1 : f1.type = ti)
    (us : P.underlying ts = some .string) (ui : P.underlying ti = some (.int .i64)) (c0 : P.cellsOf ts = 1) (c1 : P.cellsOf ti = 1) (hC : cs.length = 2) (h : DataW.trod enc P w 0 (fun _ => true) true n t cs = some D) : ∃ x : Ln, cs = lnC x ∧ (x.1.size ≤ maxLen ∧ I64 x.2) := by
  match cs, hC with
  | [x0, x1], _ =>
    obtain ⟨xs, m, _, _, _, hlen, hf⟩ := DataW.trod_struct he h
    match xs, hlen with
    | [y0, y1], _ =>
      have h0 := hf 0 f0 rfl
      have h1 := hf 1 f1 rfl
      rw [o0, k0, c0] at h0
      rw [o1, k1, c1] at h1
      obtain ⟨s, hs, _, hsz⟩ := DataW.trod_string us h0
      obtain ⟨a, ha, hb⟩ := int_cells ui h1
      simp at hs ha
      subst hs ha
      exact ⟨(s, a), rfl, hsz, hb⟩
theorem leaf_cells {t tb tl ts ti : TypeId} {f0 f1 f2 f3 g0 g1 : Field} {n : Nat} {cs : List Value} {D : DataW H × List MemPlace} (he : P.underlying t = some (.struct #[f0, f1, f2, f3])) (o0 : f0.offset = 0) (o1 : f1.offset = 1) (o2 : f2.offset = 3) (o3 : f3.offset = 4)
    (k0 : f0.type = tb) (k1 : f1.type = tl) (k2 : f2.type = ts) (k3 : f3.type = ts) (hl : P.underlying tl = some (.struct #[g0, g1])) (l0 : g0.offset = 0) (l1 : g1.offset = 1) (j0 : g0.type = ts) (j1 : g1.type = ti)
    (ub : P.underlying tb = some .bool) (us : P.underlying ts = some .string) (ui : P.underlying ti = some (.int .i64)) (cb : P.cellsOf tb = 1) (cl : P.cellsOf tl = 2) (c0 : P.cellsOf ts = 1) (c1 : P.cellsOf ti = 1) (hC : cs.length = 5)
    (h : DataW.trod enc P w 0 (fun _ => true) true n t cs = some D) : ∃ x : Lf, cs = lfC x ∧ LfIn x := by
  match cs, hC with
  | [x0, x1, x2, x3, x4], _ =>
    obtain ⟨xs, m, _, _, _, hlen, hf⟩ := DataW.trod_struct he h
    match xs, hlen with
    | [y0, y1, y2, y3], _ =>
      have h0 := hf 0 f0 rfl
      have h1 := hf 1 f1 rfl
      have h2 := hf 2 f2 rfl
      have h3 := hf 3 f3 rfl
      rw [o0, k0, cb] at h0
      rw [o1, k1, cl] at h1
      rw [o2, k2, c0] at h2
      rw [o3, k3, c0] at h3
      obtain ⟨b, hb, _⟩ := DataW.trod_bool ub h0
      obtain ⟨⟨tx, mk⟩, hl1, hl2, hl3⟩ := line_cells hl l0 l1 j0 j1 us ui c0 c1 rfl h1
      obtain ⟨s, hs, _, hsz⟩ := DataW.trod_string us h2
      obtain ⟨dg, hd, _, hdz⟩ := DataW.trod_string us h3
      simp [lnC] at hb hl1 hs hd
      obtain ⟨rfl, rfl⟩ := hl1
      subst hb hs hd
      exact ⟨⟨b, tx, mk, s, dg⟩, rfl, hl3, hl2, hsz, hdz⟩
end
theorem cLeaf : Tryz.prog.cellsOf 35 = 5 := by kernel_rfl
theorem cLine : Tryz.prog.cellsOf 33 = 2 := by kernel_rfl
theorem cBool : Tryz.prog.cellsOf 4 = 1 := by kernel_rfl
set_option maxRecDepth 100000 in
/-- leaves among the arguments -/
theorem open_leaves {H : Type} {enc : TypeId × Value → H} {w : World} {r : Reach} {b0 : Nat} {v : Value} {d : DataW H} {p : List MemPlace} (hok : Value.okWide Tryz.prog w r b0 31 v) (h : DataW.Trod enc Tryz.prog w 0 (fun _ => true) true 31 v d p) :
    ∃ l, Rws 5 lfC v l w ∧ l.length ≤ 9223372036854775807 ∧ ∀ x ∈ l, LfIn x := by
  have hs := Tryz.underlying31
  have he := Tryz.underlying35
  have hl := Tryz.underlying33
  have ub := Tryz.underlying4
  have us := Tryz.underlying9
  have ui := Tryz.underlying3
  have c0 := cLeaf
  have c1 := cLine
  have c2 := cBool
  have c3 := cString
  have c4 := cInt
  generalize Tryz.prog = P at *
  obtain ⟨a0, len, cap, rfl⟩ := okWide_slice hs hok
  obtain ⟨fuel, hf⟩ := h
  obtain ⟨v, l, hv, hr, hl, hq⟩ := open_rws (EN := lfC) (Q := LfIn) hs (by omega) hf (fun n cs D hn ht => leaf_cells he rfl rfl rfl rfl rfl rfl rfl rfl hl rfl rfl rfl rfl ub us ui c2 c1 c3 c4 (by omega) ht)
  simp [Value.cells] at hv
  subst hv
  rw [c0] at hr
  exact ⟨l, hr, hl, hq⟩
set_option maxRecDepth 100000 in
/-- a leaf among the arguments -/
theorem open_leaf {H : Type} {enc : TypeId × Value → H} {w : World} {r : Reach} {b0 : Nat} {v : Value} {d : DataW H} {p : List MemPlace} (hok : Value.okWide Tryz.prog w r b0 35 v) (h : DataW.Trod enc Tryz.prog w 0 (fun _ => true) true 35 v d p) :
    ∃ x : Lf, v = .agg #[.bool x.shown, .string x.text, .int .i64 x.mark, .string x.salt, .string x.digest] ∧ LfIn x := by
  have he := Tryz.underlying35
  have hl := Tryz.underlying33
  have ub := Tryz.underlying4
  have us := Tryz.underlying9
  have ui := Tryz.underlying3
  have c0 := cLeaf
  have c1 := cLine
  have c2 := cBool
  have c3 := cString
  have c4 := cInt
  generalize Tryz.prog = P at *
  obtain ⟨cs, rfl, hsz⟩ := okWide_struct he hok
  obtain ⟨fuel, hf⟩ := h
  obtain ⟨x, hcs, hx⟩ := leaf_cells he rfl rfl rfl rfl rfl rfl rfl rfl hl rfl rfl rfl rfl ub us ui c2 c1 c3 c4 (by simpa [Value.cells] using hsz.trans c0) hf
  refine ⟨x, ?_, hx⟩
  have h2 : cs.toList = lfC x := hcs
  congr 1
  rw [← Array.toArray_toList (xs := cs), h2]
  rfl
end Go.Proofs.YtakhomofckcckaaGreatDoor
