/- What a valid package is, in plain words; within, isHead, isEntry. -/
import Derived.Sort.Walk0
import Derived.Test.YtaoggehdkddgeaaGreatDoorGenA
import Derived.Test.YtaoggehdkddgeaaGreatDoorGIsA
namespace Go.Proofs.YtaoggehdkddgeaaGreatDoor
section
open Go Go.RowKit Go.Shelf
attribute [local go_sem] gAt gUpon
attribute [local simp] Gr.refl Gr.alloc

/-- the order of strings -/
def ltB (a b : ByteArray) : Bool := Op.bytesLess a.toList b.toList
theorem ltB_eq (a b : ByteArray) : ltB a b = decide (a.data.toList < b.data.toList) := by
  unfold ltB; rw [ByteArray.toList_eq, ByteArray.toList_eq, bytesLess_eq]
theorem bl_cons (a b : UInt8) (x y : List UInt8) : Op.bytesLess (a :: x) (b :: y) = true ↔ (a.toNat < b.toNat ∨ (a = b ∧ Op.bytesLess x y = true)) := by
  rw [Op.bytesLess, Bool.or_eq_true, Bool.and_eq_true, beq_iff_eq, decide_eq_true_eq, UInt8.lt_iff_toNat_lt]
theorem bl_nil (a : List UInt8) : Op.bytesLess a [] = false := by cases a <;> rfl
theorem bl_tri : ∀ a b : List UInt8, Op.bytesLess a b = true ∨ a = b ∨ Op.bytesLess b a = true
  | [], [] => .inr (.inl rfl)
  | [], _ :: _ => .inl rfl
  | _ :: _, [] => .inr (.inr rfl)
  | a :: x, b :: y => by
    rw [bl_cons, bl_cons]
    rcases Nat.lt_trichotomy a.toNat b.toNat with h | h | h
    · exact .inl (.inl h)
    · have e := UInt8.toNat_inj.1 h
      subst e
      rcases bl_tri x y with h1 | h1 | h1
      · exact .inl (.inr ⟨rfl, h1⟩)
      · exact .inr (.inl (by rw [h1]))
      · exact .inr (.inr (.inr ⟨rfl, h1⟩))
    · exact .inr (.inr (.inl h))
theorem bl_trans : ∀ a b c : List UInt8, Op.bytesLess a b = true → Op.bytesLess b c = true → Op.bytesLess a c = true
  | _, [], _, h, _ => by rw [bl_nil] at h; cases h
  | _, _ :: _, [], _, h => by rw [bl_nil] at h; cases h
  | [], _ :: _, _ :: _, _, _ => rfl
  | a :: x, b :: y, c :: z, h1, h2 => by
    rw [bl_cons] at h1 h2 ⊢
    rcases h1 with h1 | ⟨rfl, h1⟩
    · rcases h2 with h2 | ⟨rfl, h2⟩
      · exact .inl (by omega)
      · exact .inl h1
    · rcases h2 with h2 | ⟨rfl, h2⟩
      · exact .inl h2
      · exact .inr ⟨rfl, bl_trans x y z h1 h2⟩
theorem bl_irr : ∀ a : List UInt8, Op.bytesLess a a = false
  | [] => rfl
  | a :: x => by
    apply vfalse
    intro h
    rw [bl_cons] at h
    rcases h with h | ⟨_, h⟩
    · omega
    · rw [bl_irr x] at h; cases h
theorem bl_asym {a b : List UInt8} (h : Op.bytesLess a b = true) : Op.bytesLess b a = false := by
  apply vfalse
  intro h2
  have := bl_trans _ _ _ h h2
  rw [bl_irr] at this; cases this
theorem str_inj {a b : ByteArray} (h : a.toList = b.toList) : a = b := by
  rw [ByteArray.toList_eq, ByteArray.toList_eq] at h
  exact ByteArray.ext (Array.toList_inj.1 h)
/-- not above: below or the same -/
theorem le_not_lt (a b : ByteArray) : (Op.bytesLess a.toList b.toList || a.toList == b.toList) = !ltB b a := by
  unfold ltB
  rcases bl_tri a.toList b.toList with h | h | h
  · rw [h, bl_asym h]; rfl
  · rw [h, bl_irr]; simp
  · rw [h, bl_asym h]
    have : a.toList ≠ b.toList := fun e => by rw [e, bl_irr] at h; cases h
    rw [beq_eq_false_iff_ne.2 this]; rfl
def en0 : En := ⟨⟨#[]⟩, 0, 0, ⟨#[]⟩⟩
def entB (x : En) : Bool := goodB x.path && (withinB x.fmt 0 1000000 && (withinB x.len 0 65536 && decide (x.dig.size = 32)))
def headB (id ver n : Int) : Bool := withinB id 1 1000000 && (withinB ver 1 1000000 && withinB n 1 64)
def ascN (l : List En) (k : Nat) : Bool := (List.range (k - 1)).all fun i => ltB (l.getD i en0).path (l.getD (i + 1) en0).path
def validD (id ver : Int) (l : List En) : Bool := headB id ver l.length && (l.all entB && ascN l l.length)
theorem asc_step (l : List En) (j : Nat) : ascN l (j + 2) = (ascN l (j + 1) && ltB (l.getD j en0).path (l.getD (j + 1) en0).path) := by
  unfold ascN
  rw [show j + 2 - 1 = j + 1 from rfl, List.range_succ, List.all_append, Nat.add_sub_cancel]
  simp
theorem asc_bad {l : List En} {k : Nat} (hk : k ≤ l.length) (h : ascN l k = false) : ascN l l.length = false := by
  apply vfalse
  intro ha
  unfold ascN at h ha
  have : ((List.range (k - 1)).all fun i => ltB (l.getD i en0).path (l.getD (i + 1) en0).path) = true := by
    rw [List.all_eq_true] at ha ⊢
    intro i hi
    exact ha i (List.mem_range.2 (by have := List.mem_range.1 hi; omega))
  rw [h] at this; cases this
theorem getD_at {l : List En} {k : Nat} {x : En} (h : l[k]? = some x) : l.getD k en0 = x := by rw [List.getD_eq_getElem?_getD, h]; rfl
theorem withinB_iff {n lo hi : Int} : withinB n lo hi = true ↔ lo ≤ n ∧ n ≤ hi := by
  unfold withinB
  simp only [Bool.and_eq_true, decide_eq_true_eq]
theorem within_any (n lo hi : Int) (w : World) : Calls Tryz.prog 92 #[.int .i64 n, .int .i64 lo, .int .i64 hi] w fun e w' => e = .returned (.bool (withinB n lo hi)) ∧ w = w' := by
  by_cases h : lo ≤ n
  · have t1 : decide (lo ≤ n) = true := decide_eq_true h
    have e : withinB n lo hi = decide (n ≤ hi) := by unfold withinB; rw [t1]; simp
    rw [e]
    clear e h
    go_enter Tryz.func92, Tryz.ntmps92
    go_wp2
    go_ret
    exact ⟨rfl, rfl⟩
  · have t1 : decide (lo ≤ n) = false := decide_eq_false h
    have e : withinB n lo hi = false := by unfold withinB; rw [t1]; simp
    rw [e]
    clear e h
    go_enter Tryz.func92, Tryz.ntmps92
    go_wp2
    go_ret
    exact ⟨rfl, rfl⟩
theorem isHead_any (a b c : Int) (w : World) : Calls Tryz.prog 43 #[.int .i64 a, .int .i64 b, .int .i64 c] w fun e w' => e = .returned (.bool (headB a b c)) ∧ w = w' := by
  have H1 : Hid (∀ y, _) := Lib.hid (fun y => within_any a 1 1000000 y)
  have H2 : Hid (∀ y, _) := Lib.hid (fun y => within_any b 1 1000000 y)
  have H3 : Hid (∀ y, _) := Lib.hid (fun y => within_any c 1 64 y)
  unfold headB
  generalize withinB a 1 1000000 = A at H1 ⊢
  generalize withinB b 1 1000000 = B at H2 ⊢
  generalize withinB c 1 64 = C at H3 ⊢
  go_enter Tryz.func43, Tryz.ntmps43
  cases A with
  | false =>
    go_wp2_with fail
    refine (H1.out _).mono ?_
    rintro e w' ⟨rfl, rfl⟩
    go_wp2_with fail
    go_ret
    exact ⟨rfl, rfl⟩
  | true =>
    cases B with
    | false =>
      go_wp2_with fail
      refine (H1.out _).mono ?_
      rintro e w' ⟨rfl, rfl⟩
      go_wp2_with fail
      refine (H2.out _).mono ?_
      rintro e w' ⟨rfl, rfl⟩
      go_wp2_with fail
      go_ret
      exact ⟨rfl, rfl⟩
    | true =>
      go_wp2_with fail
      refine (H1.out _).mono ?_
      rintro e w' ⟨rfl, rfl⟩
      go_wp2_with fail
      refine (H2.out _).mono ?_
      rintro e w' ⟨rfl, rfl⟩
      go_wp2_with fail
      refine (H3.out _).mono ?_
      rintro e w' ⟨rfl, rfl⟩
      go_wp2_with fail
      go_ret
      exact ⟨rfl, rfl⟩
def enV (x : En) : Value := .agg #[.string x.path, .int .i64 x.fmt, .int .i64 x.len, .string x.dig]
theorem isEntry_any (x : En) (w : World) (hs : x.path.size ≤ 9223372036854775807) : Calls Tryz.prog 44 #[.agg #[.string x.path, .int .i64 x.fmt, .int .i64 x.len, .string x.dig]] w fun e w' => e = .returned (.bool (entB x)) ∧ Gr w w' := by
  obtain ⟨pa, f, n, d⟩ := x
  simp only at hs ⊢
  have H1 : Hid (∀ y, _) := Lib.hid (fun y => isPath_any pa hs y)
  have H2 : Hid (∀ y, _) := Lib.hid (fun y => within_any f 0 1000000 y)
  have H3 : Hid (∀ y, _) := Lib.hid (fun y => within_any n 0 65536 y)
  unfold entB
  simp only
  obtain ⟨D, hD⟩ : ∃ D, decide (d.size = 32) = D := ⟨_, rfl⟩
  have hD' : decide ((d.size : Int) = 32) = D := by
    rw [← hD]
    by_cases h : d.size = 32
    · rw [decide_eq_true h, decide_eq_true (by omega)]
    · rw [decide_eq_false h, decide_eq_false (by omega)]
  have hD2 : ((d.size : Int) == 32) = D := hD'
  have hD3 : (d.size == 32) = D := hD
  rw [hD]
  generalize goodB pa = A at H1 ⊢
  generalize withinB f 0 1000000 = B at H2 ⊢
  generalize withinB n 0 65536 = C at H3 ⊢
  clear hs
  go_enter Tryz.func44, Tryz.ntmps44
  go_upto_region 1 with fail
  refine wp_gen (F := fun z => Gr w z ∧ z.heap[w.heap.size]? = some (.cells #[.string pa, .int .i64 f, .int .i64 n, .string d] 51 (0, 0))) ⟨Gr.alloc _ _, heap_alloc_new _ _⟩ ?_
  rintro wA ⟨hgA, hrA⟩
  obtain ⟨a0, a1, a2, a3⟩ := row4 hrA
  generalize w.heap.size = bx at a0 a1 a2 a3 hrA ⊢
  have HGA := Lib.hid hgA
  clear hgA hrA
  cases A with
  | false =>
    go_wp2_with fail
    refine (H1.out _).mono ?_
    rintro e w1 ⟨rfl, hg⟩
    have HG := Lib.hid hg
    clear hg
    go_wp2_with fail
    go_ret
    exact ⟨rfl, HGA.out.trans HG.out⟩
  | true =>
    cases B with
    | false =>
      go_wp2_with fail
      refine (H1.out _).mono ?_
      rintro e w1 ⟨rfl, hg⟩
      have b1 := hg.cell a1
      have HG := Lib.hid hg
      clear hg a0 a1 a2 a3
      go_wp2_with fail
      refine (H2.out _).mono ?_
      rintro e w2 ⟨rfl, rfl⟩
      go_wp2_with fail
      go_ret
      exact ⟨rfl, HGA.out.trans HG.out⟩
    | true =>
      cases C with
      | false =>
        go_wp2_with fail
        refine (H1.out _).mono ?_
        rintro e w1 ⟨rfl, hg⟩
        have b1 := hg.cell a1
        have b2 := hg.cell a2
        have HG := Lib.hid hg
        clear hg a0 a1 a2 a3
        go_wp2_with fail
        refine (H2.out _).mono ?_
        rintro e w2 ⟨rfl, rfl⟩
        go_wp2_with fail
        refine (H3.out _).mono ?_
        rintro e w2 ⟨rfl, rfl⟩
        go_wp2_with fail
        go_ret
        exact ⟨rfl, HGA.out.trans HG.out⟩
      | true =>
        go_wp2_with fail
        refine (H1.out _).mono ?_
        rintro e w1 ⟨rfl, hg⟩
        have b1 := hg.cell a1
        have b2 := hg.cell a2
        have b3 := hg.cell a3
        have HG := Lib.hid hg
        clear hg a0 a1 a2 a3
        go_wp2_with fail
        refine (H2.out _).mono ?_
        rintro e w2 ⟨rfl, rfl⟩
        go_wp2_with fail
        refine (H3.out _).mono ?_
        rintro e w2 ⟨rfl, rfl⟩
        go_wp2_with fail
        go_ret
        exact ⟨rfl, HGA.out.trans HG.out⟩
end
section
open Go Go.RowKit Go.Shelf
attribute [local go_sem] gAt gUpon
attribute [local simp] Gr.refl Gr.alloc

/-- what the loop keeps of the entries before place k -/
structure VaS (l : List En) (k : Nat) (last : ByteArray) : Prop where
  all : (l.take k).all entB = true
  asc : ascN l k = true
  zero : k = 0 → last = ⟨#[]⟩
  last : ∀ j y, k = j + 1 → l[j]? = some y → last = y.path
theorem VaS.start (l : List En) : VaS l 0 ⟨#[]⟩ := ⟨rfl, rfl, fun _ => rfl, fun j y h _ => by omega⟩
theorem goodB_empty : goodB ⟨#[]⟩ = false := by unfold goodB splB; rw [show spl ((⟨#[]⟩ : ByteArray).data.toList) = [[]] from rfl]; simp [badB, ByteArray.toList_eq]
theorem VaS.bad1 {l : List En} {k : Nat} {x : En} (hx : l[k]? = some x) (h : entB x = false) (id ver : Int) : validD id ver l = false := by
  unfold validD; rw [all_bad hx h]; simp
theorem VaS.bad2 {l : List En} {k : Nat} {last : ByteArray} {x : En} (hv : VaS l k last) (hx : l[k]? = some x) (hk : k < l.length) (h : entB x = true) (hle : (Op.bytesLess x.path.toList last.toList || x.path.toList == last.toList) = true) (id ver : Int) : validD id ver l = false := by
  unfold validD
  cases k with
  | zero =>
    have e := hv.zero rfl
    subst e
    have h1 : goodB x.path = true := by unfold entB at h; simp only [Bool.and_eq_true] at h; exact h.1
    have : x.path = ⟨#[]⟩ := by
      have hb : ∀ a : List UInt8, Op.bytesLess a [] = false := fun a => by cases a <;> rfl
      rw [show (⟨#[]⟩ : ByteArray).toList = [] from by rw [ByteArray.toList_eq], hb, Bool.false_or] at hle
      have h2 := eq_of_beq hle
      rw [ByteArray.toList_eq] at h2
      apply ByteArray.ext
      exact Array.toList_inj.1 h2
    rw [this, goodB_empty] at h1; cases h1
  | succ j =>
    obtain ⟨y, hy⟩ : ∃ y, l[j]? = some y := ⟨_, List.getElem?_eq_getElem (by omega)⟩
    have e := hv.last j y rfl hy
    have h3 : ascN l (j + 2) = false := by
      rw [asc_step, getD_at hx, getD_at hy, hv.asc, Bool.true_and]
      rw [le_not_lt, e] at hle
      simpa using hle
    rw [asc_bad (by omega) h3]; simp
theorem VaS.next {l : List En} {k : Nat} {last : ByteArray} {x : En} (hv : VaS l k last) (hx : l[k]? = some x) (hk : k < l.length) (h : entB x = true) (hle : (Op.bytesLess x.path.toList last.toList || x.path.toList == last.toList) = false) : VaS l (k + 1) x.path := by
  refine ⟨by rw [take_all hx, hv.all, h]; rfl, ?_, fun h0 => by omega, fun j y hj hy => by
    obtain rfl : k = j := by omega
    rw [hx] at hy; cases hy; rfl⟩
  cases k with
  | zero => rfl
  | succ j =>
    obtain ⟨y, hy⟩ : ∃ y, l[j]? = some y := ⟨_, List.getElem?_eq_getElem (by omega)⟩
    have e := hv.last j y rfl hy
    rw [asc_step, getD_at hx, getD_at hy, hv.asc, Bool.true_and]
    rw [le_not_lt, e] at hle
    simpa using hle
theorem VaS.done {l : List En} {last : ByteArray} (hv : VaS l l.length last) (id ver : Int) : validD id ver l = headB id ver l.length := by
  unfold validD
  have h := hv.all
  rw [List.take_length] at h
  rw [h, hv.asc]; simp
set_option maxRecDepth 100000 in
set_option maxHeartbeats 4000000 in
theorem valid_any (id ver : Int) (v : Value) (l : List En) (w : World) (hv : Rws 4 enC v l w) (hl : l.length ≤ 9223372036854775806) (hp : ∀ x ∈ l, x.path.size ≤ 9223372036854775807) :
    Calls Tryz.prog 27 #[.agg #[.int .i64 id, .int .i64 ver, v]] w fun e w' => e = .returned (.bool (validD id ver l)) ∧ Gr w w' := by
  obtain ⟨p, c, rfl⟩ := hv.shape
  obtain ⟨B, hB⟩ : ∃ B, validD id ver l = B := ⟨_, rfl⟩
  rw [hB]
  have HB := Lib.hid hB
  have HV := Lib.hid hv
  have HP := Lib.hid hp
  have HBad1 : Hid (∀ k x, l[k]? = some x → entB x = false → B = false) := Lib.hid (fun k x hx h => by rw [← hB]; exact VaS.bad1 hx h id ver)
  have HBad2 : Hid (∀ k last x, VaS l k last → l[k]? = some x → k < l.length → entB x = true → (Op.bytesLess x.path.toList last.toList || x.path.toList == last.toList) = true → B = false) := Lib.hid (fun k last x h1 h2 h3 h4 h5 => by rw [← hB]; exact h1.bad2 h2 h3 h4 h5 id ver)
  have HDone : Hid (∀ last, VaS l l.length last → headB id ver l.length = B) := Lib.hid (fun last h => by rw [← hB]; exact (h.done id ver).symm)
  have HHd : Hid (∀ y, _) := Lib.hid (fun y => isHead_any id ver l.length y)
  obtain ⟨bx, hbx⟩ : ∃ bx, bx = w.heap.size := ⟨_, rfl⟩
  have hrow := heap_alloc_new w (.cells #[.int .i64 id, .int .i64 ver, .slice p l.length c] 43)
  rw [← hbx] at hrow
  have HR := Lib.hid hrow
  clear hB hrow hv hp
  go_enter Tryz.func27, Tryz.ntmps27
  go_upto_region 1 with fail
  rw [← hbx]
  refine wp_gen (F := fun y => Gr w y ∧ y.heap[bx]? = some (.cells #[.int .i64 id, .int .i64 ver, .slice p l.length c] 43 (0, 0))) ⟨Gr.alloc _ _, HR.out⟩ ?_
  clear HR hbx
  rintro wA ⟨hgA, hrA⟩
  have HRA := Lib.hid hrA
  have HGA := Lib.hid hgA
  obtain ⟨k0, k1, k2⟩ := row3 hrA
  clear hgA hrA
  go_wp2_with fail
  go_loopw [3, 9] (fun v3 v9 W => ∃ (k : Nat) (last : ByteArray), k ≤ l.length ∧ v3 = .string last ∧ v9 = .int .i64 (k : Int) ∧ Hid (Gr wA W) ∧ Hid (VaS l k last)) (fun _ v9 _ => l.length - (intOf v9).toNat)
  case atStart => exact ⟨0, ⟨#[]⟩, Nat.zero_le _, rfl, rfl, Lib.hid (Gr.refl _), Lib.hid (VaS.start l)⟩
  case round =>
    obtain ⟨k, last, hk, rfl, rfl, HG, HS⟩ := hrel
    by_cases hlt : k < l.length
    · have ht : decide (k < l.length) = true := decide_eq_true hlt
      have ht' : decide ((k : Int) < (l.length : Int)) = true := decide_eq_true (by omega)
      obtain ⟨x, hx⟩ : ∃ x, l[k]? = some x := ⟨_, List.getElem?_eq_getElem hlt⟩
      have HP1 := Lib.hid (HP.out x (List.mem_of_getElem? hx))
      have HX := Lib.hid hx
      obtain ⟨g, off, rfl, hlc, hcy⟩ := (HV.out.gr (HGA.out.trans HG.out)).at_ hx
      have y0 := hcy 0 _ rfl
      have y1 := hcy 1 _ rfl
      have y2 := hcy 2 _ rfl
      have y3 := hcy 3 _ rfl
      rw [Nat.add_zero] at y0
      rw [← Nat.add_assoc] at y1 y2 y3
      obtain ⟨X, hX⟩ : ∃ X, entB x = X := ⟨_, rfl⟩
      have HB1 := Lib.hid (HBad1.out k x hx)
      have HB2 := Lib.hid (HBad2.out k last x HS.out hx hlt)
      have HN := Lib.hid (VaS.next HS.out hx hlt)
      have HE : Hid (∀ y, _) := Lib.hid (fun y => isEntry_any x y HP1.out)
      rw [hX] at HE HB1 HB2 HN
      obtain ⟨pa, f, n, d⟩ := x
      simp only at y0 y1 y2 y3 HP1 HB1 HB2 HE HN
      clear hcy hx hX
      go_upto_region 5 with fail
      refine wp_gen (F := fun z => Gr wr z ∧ z.heap[wr.heap.size]? = some (.cells #[.string pa, .int .i64 f, .int .i64 n, .string d] 51 (0, 0))) ⟨Gr.alloc _ _, heap_alloc_new _ _⟩ ?_
      rintro wB ⟨hgB, hrB⟩
      obtain ⟨b0, b1, b2, b3⟩ := row4 hrB
      generalize wr.heap.size = bb at b0 b1 b2 b3 hrB ⊢
      have HGB := Lib.hid (HG.out.trans hgB)
      have m0 := (HGA.out.trans HG.out).trans hgB
      clear hgB hrB y0 y1 y2 y3 m0
      cases X with
      | false =>
        obtain rfl : B = false := HB1.out rfl
        go_wp2_with fail
        refine (HE.out _).mono ?_
        rintro e w1 ⟨rfl, hg⟩
        have HG1 := Lib.hid (HGB.out.trans hg)
        clear hg b0 b1 b2 b3
        go_wp2_with fail
        go_ret
        exact ⟨rfl, HGA.out.trans HG1.out⟩
      | true =>
        obtain ⟨L, hL⟩ : ∃ L, (Op.bytesLess pa.toList last.toList || pa.toList == last.toList) = L := ⟨_, rfl⟩
        rw [hL] at HB2 HN
        cases L with
        | true =>
          obtain rfl : B = false := HB2.out rfl rfl
          go_wp2_with fail
          refine (HE.out _).mono ?_
          rintro e w1 ⟨rfl, hg⟩
          have e0 := hg.cell b0
          have HG1 := Lib.hid (HGB.out.trans hg)
          clear hg b0 b1 b2 b3
          go_wp2_with fail
          go_ret
          exact ⟨rfl, HGA.out.trans HG1.out⟩
        | false =>
          have HS1 := Lib.hid (HN.out rfl rfl)
          go_wp2_with fail
          refine (HE.out _).mono ?_
          rintro e w1 ⟨rfl, hg⟩
          have e0 := hg.cell b0
          have HG1 := Lib.hid (HGB.out.trans hg)
          clear hg b0 b1 b2 b3 HN HB1 HB2
          go_wp2_with fail
          go_roundw
          case rel => exact ⟨k + 1, pa, by omega, rfl, by go_num, HG1, HS1⟩
          case measure => simp [intOf]; omega
    · have ht : decide (k < l.length) = false := decide_eq_false hlt
      have ht' : decide ((k : Int) < (l.length : Int)) = false := decide_eq_false (by omega)
      obtain rfl : k = l.length := by omega
      have HD := Lib.hid (HDone.out last HS.out)
      have e0 := HG.out.cell k0
      have e1 := HG.out.cell k1
      have e2 := HG.out.cell k2
      rw [HD.out] at HHd
      go_wp2_with fail
      refine (HHd.out _).mono ?_
      rintro e w1 ⟨rfl, rfl⟩
      go_wp2_with fail
      go_ret
      exact ⟨rfl, HGA.out.trans HG.out⟩
end
section
open Go Go.RowKit Go.Shelf
attribute [local go_sem] gAt gUpon
attribute [local simp] Gr.refl Gr.alloc

end
section
open Go Go.RowKit Go.Shelf
attribute [local go_sem] gAt gUpon
attribute [local simp] Gr.refl Gr.alloc

end
section
open Go Go.RowKit Go.Shelf
attribute [local go_sem] gAt gUpon
attribute [local simp] Gr.refl Gr.alloc

end
end Go.Proofs.YtaoggehdkddgeaaGreatDoor
