/- More arguments: numbers, entries, packages, claims. -/
import Derived.Test.YtjnnhhengpinmaaGreatDoorLaid
import Derived.Test.YtjnnhhengpinmaaGreatDoorMdA
namespace Go.Proofs.YtjnnhhengpinmaaGreatDoor
open Go Go.ChangeShapes Go.WideShapes Go.ChangeAt Go.RowKit
open Go.ChangeMaps (open_string shut_string)

theorem list_of {α : Type} {R : Nat → α → Prop} : ∀ n : Nat, (∀ i, i < n → ∃ x, R i x) → ∃ l : List α, l.length = n ∧ ∀ i x, l[i]? = some x → R i x
  | 0, _ => ⟨[], rfl, fun i x h => by simp at h⟩
  | n + 1, h => by
    obtain ⟨l, hl, hr⟩ := list_of n fun i hi => h i (by omega)
    obtain ⟨y, hy⟩ := h n (by omega)
    refine ⟨l ++ [y], by simp [hl], fun i x hx => ?_⟩
    by_cases hi : i < l.length
    · rw [List.getElem?_append_left hi] at hx; exact hr i x hx
    · rw [List.getElem?_append_right (by omega)] at hx
      have : i = n := by
        have := (List.getElem?_eq_some_iff.1 hx).1
        simp at this; omega
      subst this
      rw [show i - l.length = 0 by omega] at hx
      simp at hx; subst hx; exact hy
section
variable {H : Type} {enc : TypeId × Value → H} {P : Program} {w : World}
/-- the cells of a slice among the arguments: what is shown of each element's reading holds of its cells -/
theorem open_rws {α : Type} {EN : α → List Value} {Q : α → Prop} {t e : TypeId} {fuel : Nat} {cs : List Value} {x : DataW H × List MemPlace} (ht : P.underlying t = some (.slice e)) (hs0 : 0 < P.cellsOf e)
    (hf : DataW.trod enc P w 0 (fun _ => true) true fuel t cs = some x)
    (hR : ∀ (n : Nat) (cs : List Value) (D : DataW H × List MemPlace), cs.length = P.cellsOf e → DataW.trod enc P w 0 (fun _ => true) true n e cs = some D → ∃ x, cs = EN x ∧ Q x) :
    ∃ v l, cs = [v] ∧ Rws (P.cellsOf e) EN v l w ∧ l.length ≤ 9223372036854775807 ∧ ∀ x ∈ l, Q x := by
  rcases Go.Deep.open_slice ht hf with ⟨hcs, _⟩ | ⟨a, len, cap, m, n, D, Pl, hcs, _, hl, hm, hmm, _, hi⟩
  · exact ⟨.slice none 0 0, [], hcs, .inl ⟨rfl, none, 0, rfl⟩, by simp, fun x h => by cases h⟩
  · simp only [if_true] at hmm
    by_cases h0 : len = 0
    · subst h0
      exact ⟨.slice (some a) 0 cap, [], hcs, .inl ⟨rfl, _, _, rfl⟩, by simp, fun x h => by cases h⟩
    · have hel : ∀ i, i < len → ∃ x : α, Q x ∧ ∀ j u, (EN x)[j]? = some u → w.cell? (a.add (i * P.cellsOf e + j)) = some u := by
        intro i hlt
        obtain ⟨cs, hc, htr⟩ := hi i (by omega)
        obtain ⟨_, hcl, hat⟩ := World.cells?_some hc
        obtain ⟨x, rfl, hx⟩ := hR n cs _ hcl htr
        refine ⟨x, hx, fun j u hj => ?_⟩
        have hj' : j < P.cellsOf e := by have := (List.getElem?_eq_some_iff.1 hj).1; omega
        rw [← Go.Deep.add_add, hat j hj', hj]
      obtain ⟨l, hll, hlr⟩ := list_of len hel
      obtain ⟨b, off, spot⟩ := a
      have hspot : spot = none := by
        obtain ⟨cs, hc, _⟩ := hi 0 (by omega)
        obtain ⟨_, hcl, hat⟩ := World.cells?_some hc
        have h1 := hat 0 (by omega)
        rw [List.getElem?_eq_getElem (by omega)] at h1
        have := World.cell?_spot h1
        simpa [Addr.add] using this
      subst hspot
      refine ⟨.slice (some ⟨b, off, none⟩) len cap, l, hcs, .inr ⟨b, off, cap, by rw [hll], by omega, fun i x j u hx hu => ?_⟩, by unfold maxLen at hm; omega, fun x hx => ?_⟩
      · have := (hlr i x hx).2 j u hu
        rwa [Addr.add_mid] at this
      · obtain ⟨i, hix⟩ := List.getElem?_of_mem hx
        exact (hlr i x hix).1
theorem int_cells {e : TypeId} {n : Nat} {cs : List Value} {D : DataW H × List MemPlace} (he : P.underlying e = some (.int .i64)) (h : DataW.trod enc P w 0 (fun _ => true) true n e cs = some D) : ∃ x, cs = [.int .i64 x] ∧ I64 x := by
  obtain ⟨x, hx, _, hw⟩ := DataW.trod_int he h
  exact ⟨x, hx, i64_of_wf hw⟩
theorem entry_cells {t ts ti : TypeId} {f0 f1 f2 f3 : Field} {n : Nat} {cs : List Value} {D : DataW H × List MemPlace} (he : P.underlying t = some (.struct #[f0, f1, f2, f3])) (o0 : f0.offset = 0) (o1 : f1.offset = 1) (o2 : f2.offset = 2) (o3 : f3.offset = 3) (k0 : f0.type = ts) (k1 : f1.type = ti) (k2 : f2.type = ti) (k3 : f3.type = ts)
    (us : P.underlying ts = some .string) (ui : P.underlying ti = some (.int .i64)) (c0 : P.cellsOf ts = 1) (c1 : P.cellsOf ti = 1) (hC : cs.length = 4) (h : DataW.trod enc P w 0 (fun _ => true) true n t cs = some D) : ∃ x : En, cs = enC x ∧ EnIn x := by
  match cs, hC with
  | [x0, x1, x2, x3], _ =>
    obtain ⟨xs, m, _, _, _, hlen, hf⟩ := DataW.trod_struct he h
    match xs, hlen with
    | [y0, y1, y2, y3], _ =>
      have h0 := hf 0 f0 rfl
      have h1 := hf 1 f1 rfl
      have h2 := hf 2 f2 rfl
      have h3 := hf 3 f3 rfl
      rw [o0, k0, c0] at h0
      rw [o1, k1, c1] at h1
      rw [o2, k2, c1] at h2
      rw [o3, k3, c0] at h3
      obtain ⟨s, hs, _, hsz⟩ := DataW.trod_string us h0
      obtain ⟨a, ha, hb⟩ := int_cells ui h1
      obtain ⟨b, hb1, hb2⟩ := int_cells ui h2
      obtain ⟨dg, hd, _, hdz⟩ := DataW.trod_string us h3
      simp at hs ha hb1 hd
      subst hs ha hb1 hd
      exact ⟨⟨s, a, b, dg⟩, rfl, hsz, hb, hb2, hdz⟩
/-- a package that came in -/
def PkRaw (v : Value) (l : List En) (id ver : Int) (w : World) : Prop := Rws 4 enC v l w ∧ l.length ≤ 9223372036854775807 ∧ (∀ x ∈ l, EnIn x) ∧ I64 id ∧ I64 ver
theorem pkg_parts {t tl te ti ts : TypeId} {f0 f1 f2 g0 g1 g2 g3 : Field} {n : Nat} {cs : List Value} {D : DataW H × List MemPlace} (he : P.underlying t = some (.struct #[f0, f1, f2])) (o0 : f0.offset = 0) (o1 : f1.offset = 1) (o2 : f2.offset = 2) (k0 : f0.type = ti) (k1 : f1.type = ti) (k2 : f2.type = tl)
    (ul : P.underlying tl = some (.slice te)) (ue : P.underlying te = some (.struct #[g0, g1, g2, g3])) (l0 : g0.offset = 0) (l1 : g1.offset = 1) (l2 : g2.offset = 2) (l3 : g3.offset = 3) (j0 : g0.type = ts) (j1 : g1.type = ti) (j2 : g2.type = ti) (j3 : g3.type = ts)
    (us : P.underlying ts = some .string) (ui : P.underlying ti = some (.int .i64)) (cs1 : P.cellsOf ts = 1) (ci : P.cellsOf ti = 1) (cl : P.cellsOf tl = 1) (ce : P.cellsOf te = 4) (hC : cs.length = 3) (h : DataW.trod enc P w 0 (fun _ => true) true n t cs = some D) :
    ∃ id ver v l, cs = [.int .i64 id, .int .i64 ver, v] ∧ PkRaw v l id ver w := by
  match cs, hC with
  | [x0, x1, x2], _ =>
    obtain ⟨xs, m, _, _, _, hlen, hf⟩ := DataW.trod_struct he h
    match xs, hlen with
    | [y0, y1, y2], _ =>
      have h0 := hf 0 f0 rfl
      have h1 := hf 1 f1 rfl
      have h2 := hf 2 f2 rfl
      rw [o0, k0, ci] at h0
      rw [o1, k1, ci] at h1
      rw [o2, k2, cl] at h2
      obtain ⟨a, ha, ha2⟩ := int_cells ui h0
      obtain ⟨b, hb, hb2⟩ := int_cells ui h1
      obtain ⟨v, L, hv, hr, hl, hq⟩ := open_rws (EN := enC) (Q := EnIn) ul (by omega) h2 (fun n cs D hl ht => entry_cells ue l0 l1 l2 l3 j0 j1 j2 j3 us ui cs1 ci (by omega) ht)
      simp at ha hb hv
      subst ha hb hv
      rw [ce] at hr
      exact ⟨_, _, _, L, rfl, hr, hl, hq, ha2, hb2⟩
theorem pk_in {v : Value} {l : List En} {id ver : Int} {w : World} (h : PkRaw v l id ver w) : PkIn v l w := ⟨h.1, fun x hx => ⟨(h.2.2.1 x hx).1, (h.2.2.1 x hx).2.2.2⟩⟩
end
set_option maxRecDepth 100000 in
/-- numbers among the arguments -/
theorem open_ints {H : Type} {enc : TypeId × Value → H} {w : World} {r : Reach} {b0 : Nat} {v : Value} {d : DataW H} {p : List MemPlace} (hok : Value.okWide Tryz.prog w r b0 26 v) (h : DataW.Trod enc Tryz.prog w 0 (fun _ => true) true 26 v d p) :
    ∃ l, Rws 1 inC v l w ∧ l.length ≤ 9223372036854775807 ∧ ∀ x ∈ l, I64 x := by
  have hi := Tryz.underlying3
  have hs := Tryz.underlying26
  have ho := cInt
  generalize Tryz.prog = P at *
  obtain ⟨a0, len, cap, rfl⟩ := okWide_slice hs hok
  obtain ⟨fuel, hf⟩ := h
  obtain ⟨v, l, hv, hr, hl, hq⟩ := open_rws (EN := inC) (Q := I64) hs (by omega) hf (fun n cs D _ ht => by obtain ⟨x, hx, h2⟩ := int_cells hi ht; exact ⟨x, hx, h2⟩)
  simp [Value.cells] at hv
  subst hv
  rw [ho] at hr
  exact ⟨l, hr, hl, hq⟩
theorem cEntry : Tryz.prog.cellsOf 28 = 4 := by kernel_rfl
theorem cEntries : Tryz.prog.cellsOf 22 = 1 := by kernel_rfl
theorem cPackage : Tryz.prog.cellsOf 24 = 3 := by kernel_rfl
set_option maxRecDepth 100000 in
/-- an entry among the arguments -/
theorem open_entry {H : Type} {enc : TypeId × Value → H} {w : World} {r : Reach} {b0 : Nat} {v : Value} {d : DataW H} {p : List MemPlace} (hok : Value.okWide Tryz.prog w r b0 28 v) (h : DataW.Trod enc Tryz.prog w 0 (fun _ => true) true 28 v d p) :
    ∃ x : En, v = .agg #[.string x.path, .int .i64 x.fmt, .int .i64 x.len, .string x.dig] ∧ EnIn x := by
  have he := Tryz.underlying28
  have us := Tryz.underlying9
  have ui := Tryz.underlying3
  have c0 := cEntry
  have c3 := cString
  have c4 := cInt
  generalize Tryz.prog = P at *
  obtain ⟨cs, rfl, hsz⟩ := okWide_struct he hok
  obtain ⟨fuel, hf⟩ := h
  obtain ⟨x, hcs, hx⟩ := entry_cells he rfl rfl rfl rfl rfl rfl rfl rfl us ui c3 c4 (by simpa [Value.cells] using hsz.trans c0) hf
  refine ⟨x, ?_, hx⟩
  have h2 : cs.toList = enC x := hcs
  congr 1
  rw [← Array.toArray_toList (xs := cs), h2]
  rfl
set_option maxRecDepth 100000 in
/-- a package among the arguments -/
theorem open_pkg {H : Type} {enc : TypeId × Value → H} {w : World} {r : Reach} {b0 : Nat} {v : Value} {d : DataW H} {p : List MemPlace} (hok : Value.okWide Tryz.prog w r b0 24 v) (h : DataW.Trod enc Tryz.prog w 0 (fun _ => true) true 24 v d p) :
    ∃ id ver u l, v = .agg #[.int .i64 id, .int .i64 ver, u] ∧ PkRaw u l id ver w := by
  have hu := Tryz.underlying24
  have ul := Tryz.underlying22
  have ue := Tryz.underlying28
  have us := Tryz.underlying9
  have ui := Tryz.underlying3
  have c0 := cPackage
  have c1 := cEntries
  have c2 := cEntry
  have c3 := cString
  have c4 := cInt
  generalize Tryz.prog = P at *
  obtain ⟨cs, rfl, hsz⟩ := okWide_struct hu hok
  obtain ⟨fuel, hf⟩ := h
  obtain ⟨id, ver, u, l, hcs, hd⟩ := pkg_parts hu rfl rfl rfl rfl rfl rfl ul ue rfl rfl rfl rfl rfl rfl rfl rfl us ui c3 c4 c1 c2 (by simpa [Value.cells] using hsz.trans c0) hf
  refine ⟨id, ver, u, l, ?_, hd⟩
  congr 1
  have h2 : cs.toList = [.int .i64 id, .int .i64 ver, u] := hcs
  rw [← Array.toArray_toList (xs := cs), h2]
end Go.Proofs.YtjnnhhengpinmaaGreatDoor
