/- What the row's condition gives: the table of words lies in memory; the arguments; the frame of a law's proof. -/
import Derived.Test.YtakhomofckcckaaGreatDoorRows
import Derived.Test.YtakhomofckcckaaGreatDoorMV
import Derived.ProofKit
import Derived.LaidMore
import Derived.LaidSub
import Derived.Lay
import Derived.OpenShut
import Derived.ShutString
import Derived.SliceStrings
import Derived.Carry
import Derived.Stop.Joined
import Derived.Lib.LaidTab
import Derived.Deep.Slices
import Derived.ChangeArms
import Derived.WideShapes
import Derived.Test.YtakhomofckcckaaGreatDoorRrA
namespace Go.Proofs.YtakhomofckcckaaGreatDoor
section
open Go Go.ChangeShapes Go.WideShapes Go.ChangeAt Go.RowKit
open Go.ChangeMaps (open_string shut_string)

theorem ownKn : ownKnob Tryz.prog.godebug = none := by kernel_rfl
theorem laidOutP : laidOutB Tryz.prog = true := by kernel_rfl
theorem gRound : Tryz.prog.globalNamed "evergreen/digest.round" = some 0 := by kernel_rfl
theorem tRound : (Tryz.prog.globals[0]?).map (·.type) = some 156 := by kernel_rfl
theorem cRound : Tryz.prog.cellsOf 156 = 64 := by kernel_rfl
theorem cU32 : Tryz.prog.cellsOf 129 = 1 := by kernel_rfl
theorem cString : Tryz.prog.cellsOf 9 = 1 := by kernel_rfl
theorem cInt : Tryz.prog.cellsOf 3 = 1 := by kernel_rfl
def laidL : List (String × DataW Unit) := [("unicode/utf8.acceptRanges", Rows.laid_unicode_utf8_acceptRanges), ("evergreen/digest.round", Rows.laid_evergreen_digest_round), ("unicode/utf8.first", Rows.laid_unicode_utf8_first)]
theorem laid_is : (Rows.laid_evergreen_digest_round : DataW Unit) = Lib.tabData .u32 (kRound.map fun x : Nat => (x : Int)) := by kernel_rfl
theorem laid_one : (laidL.filter fun x => x.1 == "evergreen/digest.round") = [("evergreen/digest.round", Rows.laid_evergreen_digest_round)] := by
  unfold laidL
  rw [List.filter_cons_of_neg (by decide), List.filter_cons_of_pos (by decide), List.filter_cons_of_neg (by decide)]
  rfl
set_option maxRecDepth 100000 in
theorem tab_of_laid {W : World} (hh : laidMetH Tryz.prog laidL W) : Tab W := by
  have h := laidMetH.filter (fun x => x.1 == "evergreen/digest.round") hh
  rw [laid_one] at h
  rw [MakeChecks.laidMetH_plain _ _ _ (by kernel_rfl)] at h
  have h' : laidMet Tryz.prog [("evergreen/digest.round", Lib.tabData .u32 (kRound.map fun x : Nat => (x : Int)))] W := by
    rw [← laid_is]; exact h
  have hT := Lib.tabIs_of_head gRound tRound Tryz.underlying156 Tryz.underlying129 cU32 cRound h'
  obtain ⟨ps, ⟨g0, t0, cs0, f0, p0, q0, hg0, ht0, hv0, hd0, hq, rfl⟩, _, hfr⟩ := h'
  obtain rfl := Option.some.inj (gRound.symm.trans hg0)
  have hcs : cs0 = ((kRound.map fun x : Nat => (x : Int)).map fun z => Value.int .u32 z).toArray := Option.some.inj (hv0.symm.trans hT)
  have hsz : 0 < cs0.size := by rw [hcs]; simp [kRound]
  obtain ⟨⟨c, t, hc⟩, _⟩ := hfr 0 0 (by
    refine List.mem_append_left _ (List.mem_append_left _ ?_)
    exact List.mem_map.2 ⟨0, List.mem_range.2 hsz, rfl⟩)
  refine ⟨t, ?_⟩
  have hv := hv0
  simp only [World.var?, hg0, Option.bind_some] at hv
  rw [hc] at hv
  simp at hv
  rw [hc, hv, hcs]
  simp [roundCells]
set_option maxRecDepth 100000 in
theorem laid_plain (W : World) : laidMetH Tryz.prog laidL W = laidMet Tryz.prog laidL W := MakeChecks.laidMetH_plain _ _ _ (by kernel_rfl)
set_option maxRecDepth 100000 in
theorem laid_met (os : Os) (args : Array Value) : laidMetH Tryz.prog laidL ((World.laidAll Tryz.prog os laidL).forCall (fun _ _ => 0) ⟨#[], args, []⟩).memory := by
  rw [laid_plain]
  exact laidMet_laidAll _ (by kernel_rfl) (by kernel_rfl)
theorem i64_of_wf {n : Int} (h : (Lit.int .i64 n).wf = true) : I64 n := by
  simp [Lit.wf, IntKind.min, IntKind.max, IntKind.signed, IntKind.bits] at h
  exact h
theorem list_of {α : Type} {R : Nat → α → Prop} : ∀ n : Nat, (∀ i, i < n → ∃ x, R i x) → ∃ l : List α, l.length = n ∧ ∀ i x, l[i]? = some x → R i x
  | 0, _ => ⟨[], rfl, fun i x h => by simp at h⟩
  | n + 1, h => by
    obtain ⟨l, hl, hr⟩ := list_of n fun i hi => h i (by omega)
    obtain ⟨y, hy⟩ := h n (by omega)
    refine ⟨l ++ [y], by simp [hl], fun i x hx => ?_⟩
    by_cases hi : i < l.length
    · rw [List.getElem?_append_left hi] at hx; exact hr i x hx
    · rw [List.getElem?_append_right (by omega)] at hx
      have : i = n := by
        have := (List.getElem?_eq_some_iff.1 hx).1
        simp at this; omega
      subst this
      rw [show i - l.length = 0 by omega] at hx
      simp at hx; subst hx; exact hy
section
variable {H : Type} {enc : TypeId × Value → H} {P : Program} {w : World}
/-- the cells of a slice among the arguments: what is shown of each element's reading holds of its cells -/
theorem open_rws {α : Type} {EN : α → List Value} {Q : α → Prop} {t e : TypeId} {fuel : Nat} {cs : List Value} {x : DataW H × List MemPlace} (ht : P.underlying t = some (.slice e)) (hs0 : 0 < P.cellsOf e)
    (hf : DataW.trod enc P w 0 (fun _ => true) true fuel t cs = some x)
    (hR : ∀ (n : Nat) (cs : List Value) (D : DataW H × List MemPlace), cs.length = P.cellsOf e → DataW.trod enc P w 0 (fun _ => true) true n e cs = some D → ∃ x, cs = EN x ∧ Q x) :
    ∃ v l, cs = [v] ∧ Rws (P.cellsOf e) EN v l w ∧ l.length ≤ 9223372036854775807 ∧ ∀ x ∈ l, Q x := by
  rcases Go.Deep.open_slice ht hf with ⟨hcs, _⟩ | ⟨a, len, cap, m, n, D, Pl, hcs, _, hl, hm, hmm, _, hi⟩
  · exact ⟨.slice none 0 0, [], hcs, .inl ⟨rfl, none, 0, rfl⟩, by simp, fun x h => by cases h⟩
  · simp only [if_true] at hmm
    by_cases h0 : len = 0
    · subst h0
      exact ⟨.slice (some a) 0 cap, [], hcs, .inl ⟨rfl, _, _, rfl⟩, by simp, fun x h => by cases h⟩
    · have hel : ∀ i, i < len → ∃ x : α, Q x ∧ ∀ j u, (EN x)[j]? = some u → w.cell? (a.add (i * P.cellsOf e + j)) = some u := by
        intro i hlt
        obtain ⟨cs, hc, htr⟩ := hi i (by omega)
        obtain ⟨_, hcl, hat⟩ := World.cells?_some hc
        obtain ⟨x, rfl, hx⟩ := hR n cs _ hcl htr
        refine ⟨x, hx, fun j u hj => ?_⟩
        have hj' : j < P.cellsOf e := by have := (List.getElem?_eq_some_iff.1 hj).1; omega
        rw [← Go.Deep.add_add, hat j hj', hj]
      obtain ⟨l, hll, hlr⟩ := list_of len hel
      obtain ⟨b, off, spot⟩ := a
      have hspot : spot = none := by
        obtain ⟨cs, hc, _⟩ := hi 0 (by omega)
        obtain ⟨_, hcl, hat⟩ := World.cells?_some hc
        have h1 := hat 0 (by omega)
        rw [List.getElem?_eq_getElem (by omega)] at h1
        have := World.cell?_spot h1
        simpa [Addr.add] using this
      subst hspot
      refine ⟨.slice (some ⟨b, off, none⟩) len cap, l, hcs, .inr ⟨b, off, cap, by rw [hll], by omega, fun i x j u hx hu => ?_⟩, by unfold maxLen at hm; omega, fun x hx => ?_⟩
      · have := (hlr i x hx).2 j u hu
        rwa [Addr.add_mid] at this
      · obtain ⟨i, hix⟩ := List.getElem?_of_mem hx
        exact (hlr i x hix).1
theorem int_cells {e : TypeId} {n : Nat} {cs : List Value} {D : DataW H × List MemPlace} (he : P.underlying e = some (.int .i64)) (h : DataW.trod enc P w 0 (fun _ => true) true n e cs = some D) : ∃ x, cs = [.int .i64 x] ∧ I64 x := by
  obtain ⟨x, hx, _, hw⟩ := DataW.trod_int he h
  exact ⟨x, hx, i64_of_wf hw⟩
theorem arr2_cells {t e : TypeId} {n : Nat} {cs : List Value} {D : DataW H × List MemPlace} (ht : P.underlying t = some (.array 2 e)) (he : P.underlying e = some (.int .i64)) (hc : P.cellsOf e = 1) (hl : cs.length = 2) (h : DataW.trod enc P w 0 (fun _ => true) true n t cs = some D) : ∃ x : Int × Int, cs = p2C x ∧ (I64 x.1 ∧ I64 x.2) := by
  match cs, hl with
  | [u0, u1], _ =>
    obtain ⟨xs, m, _, _, _, hlen, hf⟩ := DataW.trod_array ht h
    match xs, hlen with
    | [y0, y1], _ =>
      have h0 := hf 0 (by decide)
      have h1 := hf 1 (by decide)
      rw [hc] at h0 h1
      obtain ⟨a, ha, ha2⟩ := int_cells he h0
      obtain ⟨b, hb, hb2⟩ := int_cells he h1
      simp at ha hb
      subst ha hb
      exact ⟨(a, b), rfl, ha2, hb2⟩
theorem arr3_cells {t e : TypeId} {n : Nat} {cs : List Value} {D : DataW H × List MemPlace} (ht : P.underlying t = some (.array 3 e)) (he : P.underlying e = some (.int .i64)) (hc : P.cellsOf e = 1) (hl : cs.length = 3) (h : DataW.trod enc P w 0 (fun _ => true) true n t cs = some D) : ∃ x : Int × Int × Int, cs = p3C x ∧ (I64 x.1 ∧ I64 x.2.1 ∧ I64 x.2.2) := by
  match cs, hl with
  | [u0, u1, u2], _ =>
    obtain ⟨xs, m, _, _, _, hlen, hf⟩ := DataW.trod_array ht h
    match xs, hlen with
    | [y0, y1, y2], _ =>
      have h0 := hf 0 (by decide)
      have h1 := hf 1 (by decide)
      have h2 := hf 2 (by decide)
      rw [hc] at h0 h1 h2
      obtain ⟨a, ha, ha2⟩ := int_cells he h0
      obtain ⟨b, hb, hb2⟩ := int_cells he h1
      obtain ⟨c, hc, hc2⟩ := int_cells he h2
      simp at ha hb hc
      subst ha hb hc
      exact ⟨(a, b, c), rfl, ha2, hb2, hc2⟩
end
set_option maxRecDepth 100000 in
/-- numbers among the arguments -/
theorem open_ints {H : Type} {enc : TypeId × Value → H} {w : World} {r : Reach} {b0 : Nat} {v : Value} {d : DataW H} {p : List MemPlace} (hok : Value.okWide Tryz.prog w r b0 36 v) (h : DataW.Trod enc Tryz.prog w 0 (fun _ => true) true 36 v d p) :
    ∃ l, Rws 1 inC v l w ∧ l.length ≤ 9223372036854775807 ∧ ∀ x ∈ l, I64 x := by
  have hi := Tryz.underlying3
  have hs := Tryz.underlying36
  have ho := cInt
  generalize Tryz.prog = P at *
  obtain ⟨a0, len, cap, rfl⟩ := okWide_slice hs hok
  obtain ⟨fuel, hf⟩ := h
  obtain ⟨v, l, hv, hr, hl, hq⟩ := open_rws (EN := inC) (Q := I64) hs (by omega) hf (fun n cs D _ ht => by obtain ⟨x, hx, h2⟩ := int_cells hi ht; exact ⟨x, hx, h2⟩)
  simp [Value.cells] at hv
  subst hv
  rw [ho] at hr
  exact ⟨l, hr, hl, hq⟩
theorem cCase : Tryz.prog.cellsOf 30 = 5 := by kernel_rfl
theorem cL2 : Tryz.prog.cellsOf 28 = 2 := by kernel_rfl
theorem cL3 : Tryz.prog.cellsOf 107 = 3 := by kernel_rfl
theorem cS2 : Tryz.prog.cellsOf 26 = 1 := by kernel_rfl
theorem cS3 : Tryz.prog.cellsOf 27 = 1 := by kernel_rfl
theorem case_parts {H : Type} {enc : TypeId × Value → H} {P : Program} {w : World} {t t0 t1 t2 t3 e0 e1 ti : TypeId} {f0 f1 f2 f3 : Field} {n : Nat} {cs : List Value} {D : DataW H × List MemPlace} (he : P.underlying t = some (.struct #[f0, f1, f2, f3]))
    (o0 : f0.offset = 0) (o1 : f1.offset = 1) (o2 : f2.offset = 2) (o3 : f3.offset = 4) (k0 : f0.type = t0) (k1 : f1.type = t1) (k2 : f2.type = t2) (k3 : f3.type = t3) (c0 : P.cellsOf t0 = 1) (c1 : P.cellsOf t1 = 1) (c2 : P.cellsOf t2 = 2) (c3 : P.cellsOf t3 = 1)
    (u0 : P.underlying t0 = some (.slice e0)) (u1 : P.underlying t1 = some (.slice e1)) (u2 : P.underlying t2 = some (.array 2 ti)) (u3 : P.underlying t3 = some .string) (a0 : P.underlying e0 = some (.array 2 ti)) (a1 : P.underlying e1 = some (.array 3 ti)) (ai : P.underlying ti = some (.int .i64)) (ci : P.cellsOf ti = 1)
    (ce0 : P.cellsOf e0 = 2) (ce1 : P.cellsOf e1 = 3) (hC : cs.length = 5) (h : DataW.trod enc P w 0 (fun _ => true) true n t cs = some D) :
    ∃ v1 v2 r0 r1 s, cs = [v1, v2, .int .i64 r0, .int .i64 r1, .string s] ∧ CaseIn v1 v2 r0 r1 w ∧ s.size ≤ maxLen := by
  match cs, hC with
  | [x0, x1, x2, x3, x4], _ =>
    obtain ⟨xs, m, _, _, _, hlen, hf⟩ := DataW.trod_struct he h
    match xs, hlen with
    | [y0, y1, y2, y3], _ =>
      have h0 := hf 0 f0 rfl
      have h1 := hf 1 f1 rfl
      have h2 := hf 2 f2 rfl
      have h3 := hf 3 f3 rfl
      rw [o0, k0, c0] at h0
      rw [o1, k1, c1] at h1
      rw [o2, k2, c2] at h2
      rw [o3, k3, c3] at h3
      obtain ⟨v1, L1, hv1, hr1, hl1, hq1⟩ := open_rws (EN := p2C) (Q := fun x => I64 x.1 ∧ I64 x.2) u0 (by omega) h0 (fun n cs D hl ht => arr2_cells a0 ai ci (by omega) ht)
      obtain ⟨v2, L2, hv2, hr2, hl2, hq2⟩ := open_rws (EN := p3C) (Q := fun x => I64 x.1 ∧ I64 x.2.1 ∧ I64 x.2.2) u1 (by omega) h1 (fun n cs D hl ht => arr3_cells a1 ai ci (by omega) ht)
      obtain ⟨⟨ra, rb⟩, hra, hrb⟩ := arr2_cells u2 ai ci rfl h2
      obtain ⟨s, hs, _, hsz⟩ := DataW.trod_string u3 h3
      simp [p2C] at hv1 hv2 hra hs
      obtain ⟨rfl, rfl⟩ := hra
      subst hv1 hv2 hs
      rw [ce0] at hr1
      rw [ce1] at hr2
      exact ⟨_, _, _, _, _, rfl, ⟨⟨L1, L2, hr1, hr2, hl1, hl2, hq1, hq2⟩, hrb⟩, hsz⟩
set_option maxRecDepth 100000 in
/-- a case among the arguments -/
theorem open_case {H : Type} {enc : TypeId × Value → H} {w : World} {r : Reach} {b0 : Nat} {v : Value} {d : DataW H} {p : List MemPlace} (hok : Value.okWide Tryz.prog w r b0 30 v) (h : DataW.Trod enc Tryz.prog w 0 (fun _ => true) true 30 v d p) :
    ∃ v1 v2 r0 r1 s, v = .agg #[v1, v2, .int .i64 r0, .int .i64 r1, .string s] ∧ CaseIn v1 v2 r0 r1 w ∧ s.size ≤ maxLen := by
  have hu := Tryz.underlying30
  have u0 := Tryz.underlying26
  have u1 := Tryz.underlying27
  have u2 := Tryz.underlying28
  have u3 := Tryz.underlying9
  have u4 := Tryz.underlying107
  have u5 := Tryz.underlying3
  have c0 := cCase
  have c1 := cL2
  have c2 := cL3
  have c3 := cS2
  have c4 := cS3
  have c5 := cString
  have c6 := cInt
  generalize Tryz.prog = P at *
  obtain ⟨cs, rfl, hsz⟩ := okWide_struct hu hok
  obtain ⟨fuel, hf⟩ := h
  obtain ⟨v1, v2, r0, r1, s, hcs, hc, hs⟩ := case_parts hu rfl rfl rfl rfl rfl rfl rfl rfl c3 c4 c1 c5 u0 u1 u2 u3 u2 u4 u5 c6 c1 c2 (by simpa [Value.cells] using hsz.trans c0) hf
  refine ⟨v1, v2, r0, r1, s, ?_, hc, hs⟩
  congr 1
  have : cs.toList = [v1, v2, .int .i64 r0, .int .i64 r1, .string s] := hcs
  rw [← Array.toArray_toList (xs := cs), this]
theorem trodAll_below {H : Type} {enc : TypeId × Value → H} {W W' : World} (hb : Below W.heap.size W W') : ∀ {ts : List TypeId} {vs : List Value} {ds : List (DataW H)} {ps : List MemPlace},
    (∀ t ∈ ts, Tryz.prog.readableRec t = true ∧ t < Tryz.prog.types.size) → DataW.TrodAll enc Tryz.prog W 0 (fun _ => true) true ts vs ds ps → (∀ x ∈ ps, x.block < W.heap.size) → DataW.TrodAll enc Tryz.prog W' 0 (fun b => decide (b < W.heap.size)) true ts vs ds ps
  | [], [], [], _, _, h, _ => h
  | t :: ts, _ :: _, _ :: _, _, hT, ⟨p, q, h1, h2, e⟩, hs => ⟨p, q, Below.trod laidOutP (hT t (List.mem_cons_self ..)).1 (hT t (List.mem_cons_self ..)).2 h1 hb (fun x hx => hs x (by rw [e]; exact List.mem_append_left _ hx)),
      trodAll_below hb (fun t ht => hT t (List.mem_cons_of_mem _ ht)) h2 (fun x hx => hs x (by rw [e]; exact List.mem_append_right _ hx)), e⟩
end
section
open Go Go.ChangeShapes Go.WideShapes Go.ChangeAt Go.RowKit
open Go.ChangeMaps (open_string shut_string)

theorem bytes_of {n : Nat} {cs : List Value} (hl : cs.length = n) (h : ∀ i, i < n → ∃ x : UInt8, cs[i]? = some (.int .u8 (x.toNat : Int))) : ∃ b : ByteArray, b.size = n ∧ cs = bysC b := by
  obtain ⟨L, hL, hr⟩ := list_of n h
  refine ⟨⟨L.toArray⟩, by simpa [ByteArray.size] using hL, ?_⟩
  unfold bysC
  apply List.ext_getElem?
  intro i
  show cs[i]? = (L.map fun x => Value.int .u8 (x.toNat : Int))[i]?
  rw [List.getElem?_map]
  by_cases hi : i < L.length
  · rw [List.getElem?_eq_getElem hi]
    exact hr i _ (List.getElem?_eq_getElem hi)
  · rw [List.getElem?_eq_none (by omega), List.getElem?_eq_none (by omega)]; rfl
theorem u8_of_wf {x : Int} (h : (Lit.int .u8 x).wf = true) : ∃ y : UInt8, x = (y.toNat : Int) := by
  simp [Lit.wf, IntKind.min, IntKind.max, IntKind.signed, IntKind.bits] at h
  refine ⟨UInt8.ofNat x.toNat, ?_⟩
  rw [UInt8.toNat_ofNat_of_lt' (by unfold UInt8.size; omega)]
  omega
section
variable {H : Type} {enc : TypeId × Value → H} {P : Program} {w : World}
theorem arr_bytes {t e : TypeId} {n k : Nat} {cs : List Value} {D : DataW H × List MemPlace} (ht : P.underlying t = some (.array k e)) (he : P.underlying e = some (.int .u8)) (hc : P.cellsOf e = 1) (hl : cs.length = k) (h : DataW.trod enc P w 0 (fun _ => true) true n t cs = some D) : ∃ b : ByteArray, b.size = k ∧ cs = bysC b := by
  obtain ⟨xs, m, _, _, _, hlen, hf⟩ := DataW.trod_array ht h
  refine bytes_of hl (fun i hi => ?_)
  have h0 := hf i hi
  rw [hc, List.getElem?_eq_getElem (by omega)] at h0
  obtain ⟨x, hx, _, hw⟩ := DataW.trod_int he h0
  obtain ⟨y, rfl⟩ := u8_of_wf hw
  refine ⟨y, ?_⟩
  have h1 : ((cs.drop (i * 1)).take 1)[0]? = some (.int .u8 (y.toNat : Int)) := by rw [hx]; rfl
  rw [List.getElem?_take_of_lt (by decide), List.getElem?_drop, Nat.mul_one, Nat.add_zero] at h1
  exact h1
theorem okWide_array {k : Nat} {t e : TypeId} {r : Reach} {b0 : Nat} {v : Value} (hu : P.underlying t = some (.array k e)) (h : Value.okWide P w r b0 t v) : ∃ cs, v = .agg cs ∧ cs.size = P.cellsOf t := by
  simp only [Value.okWide, hu] at h
  obtain ⟨cs, h1, h2, _⟩ := h
  exact ⟨cs, h1, h2⟩
end
theorem c16 : Tryz.prog.cellsOf 61 = 16 := by kernel_rfl
theorem cU8 : Tryz.prog.cellsOf 5 = 1 := by kernel_rfl
set_option maxRecDepth 100000 in
/-- sixteen bytes among the arguments -/
theorem open_bytes16 {H : Type} {enc : TypeId × Value → H} {w : World} {r : Reach} {b0 : Nat} {v : Value} {d : DataW H} {p : List MemPlace} (hok : Value.okWide Tryz.prog w r b0 61 v) (h : DataW.Trod enc Tryz.prog w 0 (fun _ => true) true 61 v d p) :
    ∃ b : ByteArray, v = .agg (bysC b).toArray ∧ b.size = 16 := by
  have hu := Tryz.underlying61
  have u0 := Tryz.underlying5
  have c0 := c16
  have c1 := cU8
  generalize Tryz.prog = P at *
  obtain ⟨cs, rfl, hsz⟩ := okWide_array hu hok
  obtain ⟨fuel, hf⟩ := h
  obtain ⟨b, hb, hcs⟩ := arr_bytes hu u0 c1 (by simpa [Value.cells] using hsz.trans c0) hf
  refine ⟨b, ?_, hb⟩
  have h2 : cs.toList = bysC b := hcs
  congr 1
  rw [← Array.toArray_toList (xs := cs), h2]
/-- what is known of a leaf that came in -/
def LfIn (x : Lf) : Prop := I64 x.mark ∧ x.text.size ≤ maxLen ∧ x.salt.size ≤ maxLen ∧ x.digest.size ≤ maxLen
section
variable {H : Type} {enc : TypeId × Value → H} {P : Program} {w : World}
theorem line_cells {t ts ti : TypeId} {f0 f1 : Field} {n : Nat} {cs : List Value} {D : DataW H × List MemPlace} (he : P.underlying t = some (.struct #[f0, f1])) (o0 : f0.offset = 0) (o1 : f1.offset = 1) (k0 : f0.type = ts) (k1 : f1.type = ti)
    (us : P.underlying ts = some .string) (ui : P.underlying ti = some (.int .i64)) (c0 : P.cellsOf ts = 1) (c1 : P.cellsOf ti = 1) (hC : cs.length = 2) (h : DataW.trod enc P w 0 (fun _ => true) true n t cs = some D) : ∃ x : Ln, cs = lnC x ∧ (x.1.size ≤ maxLen ∧ I64 x.2) := by
  match cs, hC with
  | [x0, x1], _ =>
    obtain ⟨xs, m, _, _, _, hlen, hf⟩ := DataW.trod_struct he h
    match xs, hlen with
    | [y0, y1], _ =>
      have h0 := hf 0 f0 rfl
      have h1 := hf 1 f1 rfl
      rw [o0, k0, c0] at h0
      rw [o1, k1, c1] at h1
      obtain ⟨s, hs, _, hsz⟩ := DataW.trod_string us h0
      obtain ⟨a, ha, hb⟩ := int_cells ui h1
      simp at hs ha
      subst hs ha
      exact ⟨(s, a), rfl, hsz, hb⟩
theorem leaf_cells {t tb tl ts ti : TypeId} {f0 f1 f2 f3 g0 g1 : Field} {n : Nat} {cs : List Value} {D : DataW H × List MemPlace} (he : P.underlying t = some (.struct #[f0, f1, f2, f3])) (o0 : f0.offset = 0) (o1 : f1.offset = 1) (o2 : f2.offset = 3) (o3 : f3.offset = 4)
    (k0 : f0.type = tb) (k1 : f1.type = tl) (k2 : f2.type = ts) (k3 : f3.type = ts) (hl : P.underlying tl = some (.struct #[g0, g1])) (l0 : g0.offset = 0) (l1 : g1.offset = 1) (j0 : g0.type = ts) (j1 : g1.type = ti)
    (ub : P.underlying tb = some .bool) (us : P.underlying ts = some .string) (ui : P.underlying ti = some (.int .i64)) (cb : P.cellsOf tb = 1) (cl : P.cellsOf tl = 2) (c0 : P.cellsOf ts = 1) (c1 : P.cellsOf ti = 1) (hC : cs.length = 5)
    (h : DataW.trod enc P w 0 (fun _ => true) true n t cs = some D) : ∃ x : Lf, cs = lfC x ∧ LfIn x := by
  match cs, hC with
  | [x0, x1, x2, x3, x4], _ =>
    obtain ⟨xs, m, _, _, _, hlen, hf⟩ := DataW.trod_struct he h
    match xs, hlen with
    | [y0, y1, y2, y3], _ =>
      have h0 := hf 0 f0 rfl
      have h1 := hf 1 f1 rfl
      have h2 := hf 2 f2 rfl
      have h3 := hf 3 f3 rfl
      rw [o0, k0, cb] at h0
      rw [o1, k1, cl] at h1
      rw [o2, k2, c0] at h2
      rw [o3, k3, c0] at h3
      obtain ⟨b, hb, _⟩ := DataW.trod_bool ub h0
      obtain ⟨⟨tx, mk⟩, hl1, hl2, hl3⟩ := line_cells hl l0 l1 j0 j1 us ui c0 c1 rfl h1
      obtain ⟨s, hs, _, hsz⟩ := DataW.trod_string us h2
      obtain ⟨dg, hd, _, hdz⟩ := DataW.trod_string us h3
      simp [lnC] at hb hl1 hs hd
      obtain ⟨rfl, rfl⟩ := hl1
      subst hb hs hd
      exact ⟨⟨b, tx, mk, s, dg⟩, rfl, hl3, hl2, hsz, hdz⟩
end
theorem cLeaf : Tryz.prog.cellsOf 35 = 5 := by kernel_rfl
theorem cLine : Tryz.prog.cellsOf 33 = 2 := by kernel_rfl
theorem cBool : Tryz.prog.cellsOf 4 = 1 := by kernel_rfl
set_option maxRecDepth 100000 in
/-- leaves among the arguments -/
theorem open_leaves {H : Type} {enc : TypeId × Value → H} {w : World} {r : Reach} {b0 : Nat} {v : Value} {d : DataW H} {p : List MemPlace} (hok : Value.okWide Tryz.prog w r b0 31 v) (h : DataW.Trod enc Tryz.prog w 0 (fun _ => true) true 31 v d p) :
    ∃ l, Rws 5 lfC v l w ∧ l.length ≤ 9223372036854775807 ∧ ∀ x ∈ l, LfIn x := by
  have hs := Tryz.underlying31
  have he := Tryz.underlying35
  have hl := Tryz.underlying33
  have ub := Tryz.underlying4
  have us := Tryz.underlying9
  have ui := Tryz.underlying3
  have c0 := cLeaf
  have c1 := cLine
  have c2 := cBool
  have c3 := cString
  have c4 := cInt
  generalize Tryz.prog = P at *
  obtain ⟨a0, len, cap, rfl⟩ := okWide_slice hs hok
  obtain ⟨fuel, hf⟩ := h
  obtain ⟨v, l, hv, hr, hl, hq⟩ := open_rws (EN := lfC) (Q := LfIn) hs (by omega) hf (fun n cs D hn ht => leaf_cells he rfl rfl rfl rfl rfl rfl rfl rfl hl rfl rfl rfl rfl ub us ui c2 c1 c3 c4 (by omega) ht)
  simp [Value.cells] at hv
  subst hv
  rw [c0] at hr
  exact ⟨l, hr, hl, hq⟩
set_option maxRecDepth 100000 in
/-- a leaf among the arguments -/
theorem open_leaf {H : Type} {enc : TypeId × Value → H} {w : World} {r : Reach} {b0 : Nat} {v : Value} {d : DataW H} {p : List MemPlace} (hok : Value.okWide Tryz.prog w r b0 35 v) (h : DataW.Trod enc Tryz.prog w 0 (fun _ => true) true 35 v d p) :
    ∃ x : Lf, v = .agg #[.bool x.shown, .string x.text, .int .i64 x.mark, .string x.salt, .string x.digest] ∧ LfIn x := by
  have he := Tryz.underlying35
  have hl := Tryz.underlying33
  have ub := Tryz.underlying4
  have us := Tryz.underlying9
  have ui := Tryz.underlying3
  have c0 := cLeaf
  have c1 := cLine
  have c2 := cBool
  have c3 := cString
  have c4 := cInt
  generalize Tryz.prog = P at *
  obtain ⟨cs, rfl, hsz⟩ := okWide_struct he hok
  obtain ⟨fuel, hf⟩ := h
  obtain ⟨x, hcs, hx⟩ := leaf_cells he rfl rfl rfl rfl rfl rfl rfl rfl hl rfl rfl rfl rfl ub us ui c2 c1 c3 c4 (by simpa [Value.cells] using hsz.trans c0) hf
  refine ⟨x, ?_, hx⟩
  have h2 : cs.toList = lfC x := hcs
  congr 1
  rw [← Array.toArray_toList (xs := cs), h2]
  rfl
end
section
open Go Go.ChangeShapes Go.WideShapes Go.ChangeAt Go.RowKit
open Go.ChangeMaps (open_string shut_string)

section
variable {H : Type} {enc : TypeId × Value → H} {P : Program} {w : World}
theorem cell_cells {t ti tb : TypeId} {f0 f1 f2 f3 f4 f5 : Field} {n : Nat} {cs : List Value} {D : DataW H × List MemPlace} (he : P.underlying t = some (.struct #[f0, f1, f2, f3, f4, f5])) (o0 : f0.offset = 0) (o1 : f1.offset = 1) (o2 : f2.offset = 2) (o3 : f3.offset = 3) (o4 : f4.offset = 4) (o5 : f5.offset = 5)
    (k0 : f0.type = ti) (k1 : f1.type = ti) (k2 : f2.type = tb) (k3 : f3.type = ti) (k4 : f4.type = ti) (k5 : f5.type = ti) (ub : P.underlying tb = some .bool) (ui : P.underlying ti = some (.int .i64)) (cb : P.cellsOf tb = 1) (c1 : P.cellsOf ti = 1) (hC : cs.length = 6)
    (h : DataW.trod enc P w 0 (fun _ => true) true n t cs = some D) : ∃ x : Ce, cs = ceC x ∧ True := by
  match cs, hC with
  | [x0, x1, x2, x3, x4, x5], _ =>
    obtain ⟨xs, m, _, _, _, hlen, hf⟩ := DataW.trod_struct he h
    match xs, hlen with
    | [y0, y1, y2, y3, y4, y5], _ =>
      have h0 := hf 0 f0 rfl
      have h1 := hf 1 f1 rfl
      have h2 := hf 2 f2 rfl
      have h3 := hf 3 f3 rfl
      have h4 := hf 4 f4 rfl
      have h5 := hf 5 f5 rfl
      rw [o0, k0, c1] at h0
      rw [o1, k1, c1] at h1
      rw [o2, k2, cb] at h2
      rw [o3, k3, c1] at h3
      rw [o4, k4, c1] at h4
      rw [o5, k5, c1] at h5
      obtain ⟨a0, e0, _⟩ := int_cells ui h0
      obtain ⟨a1, e1, _⟩ := int_cells ui h1
      obtain ⟨b, e2, _⟩ := DataW.trod_bool ub h2
      obtain ⟨a3, e3, _⟩ := int_cells ui h3
      obtain ⟨a4, e4, _⟩ := int_cells ui h4
      obtain ⟨a5, e5, _⟩ := int_cells ui h5
      simp at e0 e1 e2 e3 e4 e5
      subst e0 e1 e2 e3 e4 e5
      exact ⟨⟨a0, a1, b, a3, a4, a5⟩, rfl, trivial⟩
/-- a document that came in -/
def DocRaw (v1 v2 : Value) (ls : List Ln) (cs : List Ce) (wd : Int) (bits : ByteArray) (w : World) : Prop := DocIn v1 v2 ls cs w ∧ ls.length ≤ 9223372036854775807 ∧ cs.length ≤ 9223372036854775807 ∧ I64 wd ∧ bits.size ≤ maxLen ∧ ∀ x ∈ ls, x.1.size ≤ maxLen
theorem doc_parts {t tl tc ti ts el ec tb : TypeId} {f0 f1 f2 f3 g0 g1 h0 h1 h2 h3 h4 h5 : Field} {n : Nat} {cs : List Value} {D : DataW H × List MemPlace} (he : P.underlying t = some (.struct #[f0, f1, f2, f3])) (o0 : f0.offset = 0) (o1 : f1.offset = 1) (o2 : f2.offset = 2) (o3 : f3.offset = 3)
    (k0 : f0.type = tl) (k1 : f1.type = tc) (k2 : f2.type = ti) (k3 : f3.type = ts) (u0 : P.underlying tl = some (.slice el)) (u1 : P.underlying tc = some (.slice ec)) (ui : P.underlying ti = some (.int .i64)) (us : P.underlying ts = some .string) (ub : P.underlying tb = some .bool)
    (ul : P.underlying el = some (.struct #[g0, g1])) (l0 : g0.offset = 0) (l1 : g1.offset = 1) (j0 : g0.type = ts) (j1 : g1.type = ti)
    (uc : P.underlying ec = some (.struct #[h0, h1, h2, h3, h4, h5])) (p0 : h0.offset = 0) (p1 : h1.offset = 1) (p2 : h2.offset = 2) (p3 : h3.offset = 3) (p4 : h4.offset = 4) (p5 : h5.offset = 5) (q0 : h0.type = ti) (q1 : h1.type = ti) (q2 : h2.type = tb) (q3 : h3.type = ti) (q4 : h4.type = ti) (q5 : h5.type = ti)
    (cl : P.cellsOf tl = 1) (cc : P.cellsOf tc = 1) (ci : P.cellsOf ti = 1) (cs1 : P.cellsOf ts = 1) (cb : P.cellsOf tb = 1) (cel : P.cellsOf el = 2) (cec : P.cellsOf ec = 6) (hC : cs.length = 4) (h : DataW.trod enc P w 0 (fun _ => true) true n t cs = some D) :
    ∃ v1 v2 ls ks wd bits, cs = [v1, v2, .int .i64 wd, .string bits] ∧ DocRaw v1 v2 ls ks wd bits w := by
  match cs, hC with
  | [x0, x1, x2, x3], _ =>
    obtain ⟨xs, m, _, _, _, hlen, hf⟩ := DataW.trod_struct he h
    match xs, hlen with
    | [y0, y1, y2, y3], _ =>
      have t0 := hf 0 f0 rfl
      have t1 := hf 1 f1 rfl
      have t2 := hf 2 f2 rfl
      have t3 := hf 3 f3 rfl
      rw [o0, k0, cl] at t0
      rw [o1, k1, cc] at t1
      rw [o2, k2, ci] at t2
      rw [o3, k3, cs1] at t3
      obtain ⟨v1, L1, hv1, hr1, hl1, hq1⟩ := open_rws (EN := lnC) (Q := fun x : Ln => x.1.size ≤ maxLen ∧ I64 x.2) u0 (by omega) t0 (fun n cs D hl ht => line_cells ul l0 l1 j0 j1 us ui cs1 ci (by omega) ht)
      obtain ⟨v2, L2, hv2, hr2, hl2, hq2⟩ := open_rws (EN := ceC) (Q := fun _ : Ce => True) u1 (by omega) t1 (fun n cs D hl ht => cell_cells uc p0 p1 p2 p3 p4 p5 q0 q1 q2 q3 q4 q5 ub ui cb ci (by omega) ht)
      obtain ⟨wd, hw, hwi⟩ := int_cells ui t2
      obtain ⟨s, hs, _, hsz⟩ := DataW.trod_string us t3
      simp at hv1 hv2 hw hs
      subst hv1 hv2 hw hs
      rw [cel] at hr1
      rw [cec] at hr2
      exact ⟨_, _, L1, L2, _, _, rfl, ⟨hr1, hr2⟩, hl1, hl2, hwi, hsz, fun x hx => (hq1 x hx).1⟩
end
theorem cDoc : Tryz.prog.cellsOf 25 = 4 := by kernel_rfl
theorem cCell : Tryz.prog.cellsOf 106 = 6 := by kernel_rfl
theorem cLines : Tryz.prog.cellsOf 22 = 1 := by kernel_rfl
theorem cCells : Tryz.prog.cellsOf 23 = 1 := by kernel_rfl
set_option maxRecDepth 100000 in
/-- a document among the arguments -/
theorem open_doc {H : Type} {enc : TypeId × Value → H} {w : World} {r : Reach} {b0 : Nat} {v : Value} {d : DataW H} {p : List MemPlace} (hok : Value.okWide Tryz.prog w r b0 25 v) (h : DataW.Trod enc Tryz.prog w 0 (fun _ => true) true 25 v d p) :
    ∃ v1 v2 ls ks wd bits, v = .agg #[v1, v2, .int .i64 wd, .string bits] ∧ DocRaw v1 v2 ls ks wd bits w := by
  have hu := Tryz.underlying25
  have u0 := Tryz.underlying22
  have u1 := Tryz.underlying23
  have ui := Tryz.underlying3
  have us := Tryz.underlying9
  have ub := Tryz.underlying4
  have ul := Tryz.underlying33
  have uc := Tryz.underlying106
  have c0 := cDoc
  have c1 := cLines
  have c2 := cCells
  have c3 := cInt
  have c4 := cString
  have c5 := cBool
  have c6 := cLine
  have c7 := cCell
  generalize Tryz.prog = P at *
  obtain ⟨cs, rfl, hsz⟩ := okWide_struct hu hok
  obtain ⟨fuel, hf⟩ := h
  obtain ⟨v1, v2, ls, ks, wd, bits, hcs, hd⟩ := doc_parts hu rfl rfl rfl rfl rfl rfl rfl rfl u0 u1 ui us ub ul rfl rfl rfl rfl uc rfl rfl rfl rfl rfl rfl rfl rfl rfl rfl rfl rfl c1 c2 c3 c4 c5 c6 c7 (by simpa [Value.cells] using hsz.trans c0) hf
  refine ⟨v1, v2, ls, ks, wd, bits, ?_, hd⟩
  congr 1
  have h2 : cs.toList = [v1, v2, .int .i64 wd, .string bits] := hcs
  rw [← Array.toArray_toList (xs := cs), h2]
end
end Go.Proofs.YtakhomofckcckaaGreatDoor
