/- What a valid package is, in plain words; within, isHead, isEntry. -/
import Derived.Sort.Walk0
import Derived.Test.YtjnnhhengpinmaaGreatDoorGenA
import Derived.Test.YtjnnhhengpinmaaGreatDoorNK
namespace Go.Proofs.YtjnnhhengpinmaaGreatDoor
section
open Go Go.RowKit Go.Shelf
attribute [local go_sem] gAt gUpon
attribute [local simp] Gr.refl Gr.alloc

/-- the order of strings -/
def ltB (a b : ByteArray) : Bool := Op.bytesLess a.toList b.toList
theorem ltB_eq (a b : ByteArray) : ltB a b = decide (a.data.toList < b.data.toList) := by
  unfold ltB; rw [ByteArray.toList_eq, ByteArray.toList_eq, bytesLess_eq]
theorem bl_cons (a b : UInt8) (x y : List UInt8) : Op.bytesLess (a :: x) (b :: y) = true ↔ (a.toNat < b.toNat ∨ (a = b ∧ Op.bytesLess x y = true)) := by
  rw [Op.bytesLess, Bool.or_eq_true, Bool.and_eq_true, beq_iff_eq, decide_eq_true_eq, UInt8.lt_iff_toNat_lt]
theorem bl_nil (a : List UInt8) : Op.bytesLess a [] = false := by cases a <;> rfl
theorem bl_tri : ∀ a b : List UInt8, Op.bytesLess a b = true ∨ a = b ∨ Op.bytesLess b a = true
  | [], [] => .inr (.inl rfl)
  | [], _ :: _ => .inl rfl
  | _ :: _, [] => .inr (.inr rfl)
  | a :: x, b :: y => by
    rw [bl_cons, bl_cons]
    rcases Nat.lt_trichotomy a.toNat b.toNat with h | h | h
    · exact .inl (.inl h)
    · have e := UInt8.toNat_inj.1 h
      subst e
      rcases bl_tri x y with h1 | h1 | h1
      · exact .inl (.inr ⟨rfl, h1⟩)
      · exact .inr (.inl (by rw [h1]))
      · exact .inr (.inr (.inr ⟨rfl, h1⟩))
    · exact .inr (.inr (.inl h))
theorem bl_trans : ∀ a b c : List UInt8, Op.bytesLess a b = true → Op.bytesLess b c = true → Op.bytesLess a c = true
  | _, [], _, h, _ => by rw [bl_nil] at h; cases h
  | _, _ :: _, [], _, h => by rw [bl_nil] at h; cases h
  | [], _ :: _, _ :: _, _, _ => rfl
  | a :: x, b :: y, c :: z, h1, h2 => by
    rw [bl_cons] at h1 h2 ⊢
    rcases h1 with h1 | ⟨rfl, h1⟩
    · rcases h2 with h2 | ⟨rfl, h2⟩
      · exact .inl (by omega)
      · exact .inl h1
    · rcases h2 with h2 | ⟨rfl, h2⟩
      · exact .inl h2
      · exact .inr ⟨rfl, bl_trans x y z h1 h2⟩
theorem bl_irr : ∀ a : List UInt8, Op.bytesLess a a = false
  | [] => rfl
  | a :: x => by
    apply vfalse
    intro h
    rw [bl_cons] at h
    rcases h with h | ⟨_, h⟩
    · omega
    · rw [bl_irr x] at h; cases h
theorem bl_asym {a b : List UInt8} (h : Op.bytesLess a b = true) : Op.bytesLess b a = false := by
  apply vfalse
  intro h2
  have := bl_trans _ _ _ h h2
  rw [bl_irr] at this; cases this
theorem str_inj {a b : ByteArray} (h : a.toList = b.toList) : a = b := by
  rw [ByteArray.toList_eq, ByteArray.toList_eq] at h
  exact ByteArray.ext (Array.toList_inj.1 h)
/-- not above: below or the same -/
theorem le_not_lt (a b : ByteArray) : (Op.bytesLess a.toList b.toList || a.toList == b.toList) = !ltB b a := by
  unfold ltB
  rcases bl_tri a.toList b.toList with h | h | h
  · rw [h, bl_asym h]; rfl
  · rw [h, bl_irr]; simp
  · rw [h, bl_asym h]
    have : a.toList ≠ b.toList := fun e => by rw [e, bl_irr] at h; cases h
    rw [beq_eq_false_iff_ne.2 this]; rfl
def en0 : En := ⟨⟨#[]⟩, 0, 0, ⟨#[]⟩⟩
def entB (x : En) : Bool := goodB x.path && (withinB x.fmt 0 1000000 && (withinB x.len 0 65536 && decide (x.dig.size = 32)))
def headB (id ver n : Int) : Bool := withinB id 1 1000000 && (withinB ver 1 1000000 && withinB n 1 64)
def ascN (l : List En) (k : Nat) : Bool := (List.range (k - 1)).all fun i => ltB (l.getD i en0).path (l.getD (i + 1) en0).path
def validD (id ver : Int) (l : List En) : Bool := headB id ver l.length && (l.all entB && ascN l l.length)
theorem asc_step (l : List En) (j : Nat) : ascN l (j + 2) = (ascN l (j + 1) && ltB (l.getD j en0).path (l.getD (j + 1) en0).path) := by
  unfold ascN
  rw [show j + 2 - 1 = j + 1 from rfl, List.range_succ, List.all_append, Nat.add_sub_cancel]
  simp
theorem asc_one (l : List En) : ascN l 1 = true := rfl
theorem asc_zero (l : List En) : ascN l 0 = true := rfl
theorem asc_bad {l : List En} {k : Nat} (hk : k ≤ l.length) (h : ascN l k = false) : ascN l l.length = false := by
  apply vfalse
  intro ha
  unfold ascN at h ha
  have : ((List.range (k - 1)).all fun i => ltB (l.getD i en0).path (l.getD (i + 1) en0).path) = true := by
    rw [List.all_eq_true] at ha ⊢
    intro i hi
    exact ha i (List.mem_range.2 (by have := List.mem_range.1 hi; omega))
  rw [h] at this; cases this
theorem getD_at {l : List En} {k : Nat} {x : En} (h : l[k]? = some x) : l.getD k en0 = x := by rw [List.getD_eq_getElem?_getD, h]; rfl
theorem withinB_iff {n lo hi : Int} : withinB n lo hi = true ↔ lo ≤ n ∧ n ≤ hi := by
  unfold withinB
  simp only [Bool.and_eq_true, decide_eq_true_eq]
theorem within_any (n lo hi : Int) (w : World) : Calls Tryz.prog 88 #[.int .i64 n, .int .i64 lo, .int .i64 hi] w fun e w' => e = .returned (.bool (withinB n lo hi)) ∧ w = w' := by
  by_cases h : lo ≤ n
  · have t1 : decide (lo ≤ n) = true := decide_eq_true h
    have e : withinB n lo hi = decide (n ≤ hi) := by unfold withinB; rw [t1]; simp
    rw [e]
    clear e h
    go_enter Tryz.func88, Tryz.ntmps88
    go_wp2
    go_ret
    exact ⟨rfl, rfl⟩
  · have t1 : decide (lo ≤ n) = false := decide_eq_false h
    have e : withinB n lo hi = false := by unfold withinB; rw [t1]; simp
    rw [e]
    clear e h
    go_enter Tryz.func88, Tryz.ntmps88
    go_wp2
    go_ret
    exact ⟨rfl, rfl⟩
theorem withinR_any (n lo hi : Int) (w : World) : Calls Tryz.prog 51 #[.int .i64 n, .int .i64 lo, .int .i64 hi] w fun e w' => e = .returned (.bool (withinB n lo hi)) ∧ w = w' := by
  by_cases h : lo ≤ n
  · have t1 : decide (lo ≤ n) = true := decide_eq_true h
    have e : withinB n lo hi = decide (n ≤ hi) := by unfold withinB; rw [t1]; simp
    rw [e]
    clear e h
    go_enter Tryz.func51, Tryz.ntmps51
    go_wp2
    go_ret
    exact ⟨rfl, rfl⟩
  · have t1 : decide (lo ≤ n) = false := decide_eq_false h
    have e : withinB n lo hi = false := by unfold withinB; rw [t1]; simp
    rw [e]
    clear e h
    go_enter Tryz.func51, Tryz.ntmps51
    go_wp2
    go_ret
    exact ⟨rfl, rfl⟩
theorem isHead_any (a b c : Int) (w : World) : Calls Tryz.prog 50 #[.int .i64 a, .int .i64 b, .int .i64 c] w fun e w' => e = .returned (.bool (headB a b c)) ∧ w = w' := by
  have H1 : Hid (∀ y, _) := Lib.hid (fun y => within_any a 1 1000000 y)
  have H2 : Hid (∀ y, _) := Lib.hid (fun y => within_any b 1 1000000 y)
  have H3 : Hid (∀ y, _) := Lib.hid (fun y => within_any c 1 64 y)
  unfold headB
  generalize withinB a 1 1000000 = A at H1 ⊢
  generalize withinB b 1 1000000 = B at H2 ⊢
  generalize withinB c 1 64 = C at H3 ⊢
  go_enter Tryz.func50, Tryz.ntmps50
  cases A with
  | false =>
    go_wp2_with fail
    refine (H1.out _).mono ?_
    rintro e w' ⟨rfl, rfl⟩
    go_wp2_with fail
    go_ret
    exact ⟨rfl, rfl⟩
  | true =>
    cases B with
    | false =>
      go_wp2_with fail
      refine (H1.out _).mono ?_
      rintro e w' ⟨rfl, rfl⟩
      go_wp2_with fail
      refine (H2.out _).mono ?_
      rintro e w' ⟨rfl, rfl⟩
      go_wp2_with fail
      go_ret
      exact ⟨rfl, rfl⟩
    | true =>
      go_wp2_with fail
      refine (H1.out _).mono ?_
      rintro e w' ⟨rfl, rfl⟩
      go_wp2_with fail
      refine (H2.out _).mono ?_
      rintro e w' ⟨rfl, rfl⟩
      go_wp2_with fail
      refine (H3.out _).mono ?_
      rintro e w' ⟨rfl, rfl⟩
      go_wp2_with fail
      go_ret
      exact ⟨rfl, rfl⟩
def enV (x : En) : Value := .agg #[.string x.path, .int .i64 x.fmt, .int .i64 x.len, .string x.dig]
theorem isEntry_any (x : En) (w : World) (hs : x.path.size ≤ 9223372036854775807) : Calls Tryz.prog 49 #[.agg #[.string x.path, .int .i64 x.fmt, .int .i64 x.len, .string x.dig]] w fun e w' => e = .returned (.bool (entB x)) ∧ Gr w w' := by
  obtain ⟨pa, f, n, d⟩ := x
  simp only at hs ⊢
  have H1 : Hid (∀ y, _) := Lib.hid (fun y => isPath_any pa hs y)
  have H2 : Hid (∀ y, _) := Lib.hid (fun y => within_any f 0 1000000 y)
  have H3 : Hid (∀ y, _) := Lib.hid (fun y => within_any n 0 65536 y)
  unfold entB
  simp only
  obtain ⟨D, hD⟩ : ∃ D, decide (d.size = 32) = D := ⟨_, rfl⟩
  have hD' : decide ((d.size : Int) = 32) = D := by
    rw [← hD]
    by_cases h : d.size = 32
    · rw [decide_eq_true h, decide_eq_true (by omega)]
    · rw [decide_eq_false h, decide_eq_false (by omega)]
  have hD2 : ((d.size : Int) == 32) = D := hD'
  have hD3 : (d.size == 32) = D := hD
  rw [hD]
  generalize goodB pa = A at H1 ⊢
  generalize withinB f 0 1000000 = B at H2 ⊢
  generalize withinB n 0 65536 = C at H3 ⊢
  clear hs
  go_enter Tryz.func49, Tryz.ntmps49
  go_upto_region 1 with fail
  refine wp_gen (F := fun z => Gr w z ∧ z.heap[w.heap.size]? = some (.cells #[.string pa, .int .i64 f, .int .i64 n, .string d] 28 (0, 0))) ⟨Gr.alloc _ _, heap_alloc_new _ _⟩ ?_
  rintro wA ⟨hgA, hrA⟩
  obtain ⟨a0, a1, a2, a3⟩ := row4 hrA
  generalize w.heap.size = bx at a0 a1 a2 a3 hrA ⊢
  have HGA := Lib.hid hgA
  clear hgA hrA
  cases A with
  | false =>
    go_wp2_with fail
    refine (H1.out _).mono ?_
    rintro e w1 ⟨rfl, hg⟩
    have HG := Lib.hid hg
    clear hg
    go_wp2_with fail
    go_ret
    exact ⟨rfl, HGA.out.trans HG.out⟩
  | true =>
    cases B with
    | false =>
      go_wp2_with fail
      refine (H1.out _).mono ?_
      rintro e w1 ⟨rfl, hg⟩
      have b1 := hg.cell a1
      have HG := Lib.hid hg
      clear hg a0 a1 a2 a3
      go_wp2_with fail
      refine (H2.out _).mono ?_
      rintro e w2 ⟨rfl, rfl⟩
      go_wp2_with fail
      go_ret
      exact ⟨rfl, HGA.out.trans HG.out⟩
    | true =>
      cases C with
      | false =>
        go_wp2_with fail
        refine (H1.out _).mono ?_
        rintro e w1 ⟨rfl, hg⟩
        have b1 := hg.cell a1
        have b2 := hg.cell a2
        have HG := Lib.hid hg
        clear hg a0 a1 a2 a3
        go_wp2_with fail
        refine (H2.out _).mono ?_
        rintro e w2 ⟨rfl, rfl⟩
        go_wp2_with fail
        refine (H3.out _).mono ?_
        rintro e w2 ⟨rfl, rfl⟩
        go_wp2_with fail
        go_ret
        exact ⟨rfl, HGA.out.trans HG.out⟩
      | true =>
        go_wp2_with fail
        refine (H1.out _).mono ?_
        rintro e w1 ⟨rfl, hg⟩
        have b1 := hg.cell a1
        have b2 := hg.cell a2
        have b3 := hg.cell a3
        have HG := Lib.hid hg
        clear hg a0 a1 a2 a3
        go_wp2_with fail
        refine (H2.out _).mono ?_
        rintro e w2 ⟨rfl, rfl⟩
        go_wp2_with fail
        refine (H3.out _).mono ?_
        rintro e w2 ⟨rfl, rfl⟩
        go_wp2_with fail
        go_ret
        exact ⟨rfl, HGA.out.trans HG.out⟩
end
section
open Go Go.RowKit Go.Shelf
attribute [local go_sem] gAt gUpon
attribute [local simp] Gr.refl Gr.alloc

/-- what the loop keeps of the entries before place k -/
structure VaS (l : List En) (k : Nat) (last : ByteArray) : Prop where
  all : (l.take k).all entB = true
  asc : ascN l k = true
  zero : k = 0 → last = ⟨#[]⟩
  last : ∀ j y, k = j + 1 → l[j]? = some y → last = y.path
theorem VaS.start (l : List En) : VaS l 0 ⟨#[]⟩ := ⟨rfl, rfl, fun _ => rfl, fun j y h _ => by omega⟩
theorem goodB_empty : goodB ⟨#[]⟩ = false := by unfold goodB splB; rw [show spl ((⟨#[]⟩ : ByteArray).data.toList) = [[]] from rfl]; simp [badB, ByteArray.toList_eq]
theorem VaS.bad1 {l : List En} {k : Nat} {x : En} (hx : l[k]? = some x) (h : entB x = false) (id ver : Int) : validD id ver l = false := by
  unfold validD; rw [all_bad hx h]; simp
theorem VaS.bad2 {l : List En} {k : Nat} {last : ByteArray} {x : En} (hv : VaS l k last) (hx : l[k]? = some x) (hk : k < l.length) (h : entB x = true) (hle : (Op.bytesLess x.path.toList last.toList || x.path.toList == last.toList) = true) (id ver : Int) : validD id ver l = false := by
  unfold validD
  cases k with
  | zero =>
    have e := hv.zero rfl
    subst e
    have h1 : goodB x.path = true := by unfold entB at h; simp only [Bool.and_eq_true] at h; exact h.1
    have : x.path = ⟨#[]⟩ := by
      have hb : ∀ a : List UInt8, Op.bytesLess a [] = false := fun a => by cases a <;> rfl
      rw [show (⟨#[]⟩ : ByteArray).toList = [] from by rw [ByteArray.toList_eq], hb, Bool.false_or] at hle
      have h2 := eq_of_beq hle
      rw [ByteArray.toList_eq] at h2
      apply ByteArray.ext
      exact Array.toList_inj.1 h2
    rw [this, goodB_empty] at h1; cases h1
  | succ j =>
    obtain ⟨y, hy⟩ : ∃ y, l[j]? = some y := ⟨_, List.getElem?_eq_getElem (by omega)⟩
    have e := hv.last j y rfl hy
    have h3 : ascN l (j + 2) = false := by
      rw [asc_step, getD_at hx, getD_at hy, hv.asc, Bool.true_and]
      rw [le_not_lt, e] at hle
      simpa using hle
    rw [asc_bad (by omega) h3]; simp
theorem VaS.next {l : List En} {k : Nat} {last : ByteArray} {x : En} (hv : VaS l k last) (hx : l[k]? = some x) (hk : k < l.length) (h : entB x = true) (hle : (Op.bytesLess x.path.toList last.toList || x.path.toList == last.toList) = false) : VaS l (k + 1) x.path := by
  refine ⟨by rw [take_all hx, hv.all, h]; rfl, ?_, fun h0 => by omega, fun j y hj hy => by
    obtain rfl : k = j := by omega
    rw [hx] at hy; cases hy; rfl⟩
  cases k with
  | zero => rfl
  | succ j =>
    obtain ⟨y, hy⟩ : ∃ y, l[j]? = some y := ⟨_, List.getElem?_eq_getElem (by omega)⟩
    have e := hv.last j y rfl hy
    rw [asc_step, getD_at hx, getD_at hy, hv.asc, Bool.true_and]
    rw [le_not_lt, e] at hle
    simpa using hle
theorem VaS.done {l : List En} {last : ByteArray} (hv : VaS l l.length last) (id ver : Int) : validD id ver l = headB id ver l.length := by
  unfold validD
  have h := hv.all
  rw [List.take_length] at h
  rw [h, hv.asc]; simp
set_option maxRecDepth 100000 in
set_option maxHeartbeats 4000000 in
theorem valid_any (id ver : Int) (v : Value) (l : List En) (w : World) (hv : Rws 4 enC v l w) (hl : l.length ≤ 9223372036854775806) (hp : ∀ x ∈ l, x.path.size ≤ 9223372036854775807) :
    Calls Tryz.prog 24 #[.agg #[.int .i64 id, .int .i64 ver, v]] w fun e w' => e = .returned (.bool (validD id ver l)) ∧ Gr w w' := by
  obtain ⟨p, c, rfl⟩ := hv.shape
  obtain ⟨B, hB⟩ : ∃ B, validD id ver l = B := ⟨_, rfl⟩
  rw [hB]
  have HB := Lib.hid hB
  have HV := Lib.hid hv
  have HP := Lib.hid hp
  have HBad1 : Hid (∀ k x, l[k]? = some x → entB x = false → B = false) := Lib.hid (fun k x hx h => by rw [← hB]; exact VaS.bad1 hx h id ver)
  have HBad2 : Hid (∀ k last x, VaS l k last → l[k]? = some x → k < l.length → entB x = true → (Op.bytesLess x.path.toList last.toList || x.path.toList == last.toList) = true → B = false) := Lib.hid (fun k last x h1 h2 h3 h4 h5 => by rw [← hB]; exact h1.bad2 h2 h3 h4 h5 id ver)
  have HDone : Hid (∀ last, VaS l l.length last → headB id ver l.length = B) := Lib.hid (fun last h => by rw [← hB]; exact (h.done id ver).symm)
  have HHd : Hid (∀ y, _) := Lib.hid (fun y => isHead_any id ver l.length y)
  obtain ⟨bx, hbx⟩ : ∃ bx, bx = w.heap.size := ⟨_, rfl⟩
  have hrow := heap_alloc_new w (.cells #[.int .i64 id, .int .i64 ver, .slice p l.length c] 24)
  rw [← hbx] at hrow
  have HR := Lib.hid hrow
  clear hB hrow hv hp
  go_enter Tryz.func24, Tryz.ntmps24
  go_upto_region 1 with fail
  rw [← hbx]
  refine wp_gen (F := fun y => Gr w y ∧ y.heap[bx]? = some (.cells #[.int .i64 id, .int .i64 ver, .slice p l.length c] 24 (0, 0))) ⟨Gr.alloc _ _, HR.out⟩ ?_
  clear HR hbx
  rintro wA ⟨hgA, hrA⟩
  have HRA := Lib.hid hrA
  have HGA := Lib.hid hgA
  obtain ⟨k0, k1, k2⟩ := row3 hrA
  clear hgA hrA
  go_wp2_with fail
  go_loopw [3, 9] (fun v3 v9 W => ∃ (k : Nat) (last : ByteArray), k ≤ l.length ∧ v3 = .string last ∧ v9 = .int .i64 (k : Int) ∧ Hid (Gr wA W) ∧ Hid (VaS l k last)) (fun _ v9 _ => l.length - (intOf v9).toNat)
  case atStart => exact ⟨0, ⟨#[]⟩, Nat.zero_le _, rfl, rfl, Lib.hid (Gr.refl _), Lib.hid (VaS.start l)⟩
  case round =>
    obtain ⟨k, last, hk, rfl, rfl, HG, HS⟩ := hrel
    by_cases hlt : k < l.length
    · have ht : decide (k < l.length) = true := decide_eq_true hlt
      have ht' : decide ((k : Int) < (l.length : Int)) = true := decide_eq_true (by omega)
      obtain ⟨x, hx⟩ : ∃ x, l[k]? = some x := ⟨_, List.getElem?_eq_getElem hlt⟩
      have HP1 := Lib.hid (HP.out x (List.mem_of_getElem? hx))
      have HX := Lib.hid hx
      obtain ⟨g, off, rfl, hlc, hcy⟩ := (HV.out.gr (HGA.out.trans HG.out)).at_ hx
      have y0 := hcy 0 _ rfl
      have y1 := hcy 1 _ rfl
      have y2 := hcy 2 _ rfl
      have y3 := hcy 3 _ rfl
      rw [Nat.add_zero] at y0
      rw [← Nat.add_assoc] at y1 y2 y3
      obtain ⟨X, hX⟩ : ∃ X, entB x = X := ⟨_, rfl⟩
      have HB1 := Lib.hid (HBad1.out k x hx)
      have HB2 := Lib.hid (HBad2.out k last x HS.out hx hlt)
      have HN := Lib.hid (VaS.next HS.out hx hlt)
      have HE : Hid (∀ y, _) := Lib.hid (fun y => isEntry_any x y HP1.out)
      rw [hX] at HE HB1 HB2 HN
      obtain ⟨pa, f, n, d⟩ := x
      simp only at y0 y1 y2 y3 HP1 HB1 HB2 HE HN
      clear hcy hx hX
      go_upto_region 5 with fail
      refine wp_gen (F := fun z => Gr wr z ∧ z.heap[wr.heap.size]? = some (.cells #[.string pa, .int .i64 f, .int .i64 n, .string d] 28 (0, 0))) ⟨Gr.alloc _ _, heap_alloc_new _ _⟩ ?_
      rintro wB ⟨hgB, hrB⟩
      obtain ⟨b0, b1, b2, b3⟩ := row4 hrB
      generalize wr.heap.size = bb at b0 b1 b2 b3 hrB ⊢
      have HGB := Lib.hid (HG.out.trans hgB)
      have m0 := (HGA.out.trans HG.out).trans hgB
      clear hgB hrB y0 y1 y2 y3 m0
      cases X with
      | false =>
        obtain rfl : B = false := HB1.out rfl
        go_wp2_with fail
        refine (HE.out _).mono ?_
        rintro e w1 ⟨rfl, hg⟩
        have HG1 := Lib.hid (HGB.out.trans hg)
        clear hg b0 b1 b2 b3
        go_wp2_with fail
        go_ret
        exact ⟨rfl, HGA.out.trans HG1.out⟩
      | true =>
        obtain ⟨L, hL⟩ : ∃ L, (Op.bytesLess pa.toList last.toList || pa.toList == last.toList) = L := ⟨_, rfl⟩
        rw [hL] at HB2 HN
        cases L with
        | true =>
          obtain rfl : B = false := HB2.out rfl rfl
          go_wp2_with fail
          refine (HE.out _).mono ?_
          rintro e w1 ⟨rfl, hg⟩
          have e0 := hg.cell b0
          have HG1 := Lib.hid (HGB.out.trans hg)
          clear hg b0 b1 b2 b3
          go_wp2_with fail
          go_ret
          exact ⟨rfl, HGA.out.trans HG1.out⟩
        | false =>
          have HS1 := Lib.hid (HN.out rfl rfl)
          go_wp2_with fail
          refine (HE.out _).mono ?_
          rintro e w1 ⟨rfl, hg⟩
          have e0 := hg.cell b0
          have HG1 := Lib.hid (HGB.out.trans hg)
          clear hg b0 b1 b2 b3 HN HB1 HB2
          go_wp2_with fail
          go_roundw
          case rel => exact ⟨k + 1, pa, by omega, rfl, by go_num, HG1, HS1⟩
          case measure => simp [intOf]; omega
    · have ht : decide (k < l.length) = false := decide_eq_false hlt
      have ht' : decide ((k : Int) < (l.length : Int)) = false := decide_eq_false (by omega)
      obtain rfl : k = l.length := by omega
      have HD := Lib.hid (HDone.out last HS.out)
      have e0 := HG.out.cell k0
      have e1 := HG.out.cell k1
      have e2 := HG.out.cell k2
      rw [HD.out] at HHd
      go_wp2_with fail
      refine (HHd.out _).mono ?_
      rintro e w1 ⟨rfl, rfl⟩
      go_wp2_with fail
      go_ret
      exact ⟨rfl, HGA.out.trans HG.out⟩
end
section
open Go Go.RowKit Go.Shelf
attribute [local go_sem] gAt gUpon
attribute [local simp] Gr.refl Gr.alloc

def badL (p : List UInt8) : Bool := p.isEmpty || (p == [46] || (p == [46, 46] || p.any badC))
theorem goodB_eq (s : ByteArray) : goodB s = ((spl s.data.toList).all (fun p => !badL p) && decide (s.size ≤ 64)) := by
  unfold goodB splB
  rw [List.all_map]
  congr 2
  funext p
  unfold Function.comp badB badL
  simp only [ByteArray.toList_eq]
theorem spl_at {l : List UInt8} {k : Nat} (h : l[k]? = some 47) (hc : ∀ j, j < k → l[j]? ≠ some 47) : spl l = l.take k :: spl (l.drop (k + 1)) := by
  apply spl_some
  rcases Int.lt_or_le (Lib.indexByte l 47) 0 with h0 | h0
  · have h3 : Lib.indexByte l 47 = -1 := by have := Lib.indexByte_ge l 47; omega
    exact absurd h (Lib.indexByte_none h3 k)
  · obtain ⟨o, ho⟩ := Int.eq_ofNat_of_zero_le h0
    obtain ⟨h3, h4⟩ := Lib.indexByte_some ho
    rcases Nat.lt_trichotomy o k with hlt | he | hgt
    · exact absurd h3 (hc o hlt)
    · subst he; exact ho
    · exact absurd h (h4 k hgt)
theorem spl_free {l : List UInt8} (hc : ∀ j : Nat, l[j]? ≠ some 47) : spl l = [l] := by
  apply spl_none
  rcases Int.lt_or_le (Lib.indexByte l 47) 0 with h0 | h0
  · have := Lib.indexByte_ge l 47; omega
  · obtain ⟨o, ho⟩ := Int.eq_ofNat_of_zero_le h0
    exact absurd (Lib.indexByte_some ho).1 (hc o)
theorem spl_badc {l : List UInt8} {k : Nat} {c : UInt8} (h : l[k]? = some c) (h47 : c ≠ 47) (hc : ∀ j, j < k → l[j]? ≠ some 47) (hb : badC c = true) : (spl l).all (fun p => !badL p) = false := by
  have hB : ∀ p : List UInt8, c ∈ p → badL p = true := fun p hp => by
    unfold badL
    rw [List.any_eq_true.2 ⟨c, hp, hb⟩]; simp
  rcases Int.lt_or_le (Lib.indexByte l 47) 0 with h0 | h0
  · have h3 : Lib.indexByte l 47 = -1 := by have := Lib.indexByte_ge l 47; omega
    rw [spl_none _ h3, List.all_cons, hB l (List.mem_of_getElem? h)]; rfl
  · obtain ⟨o, ho⟩ := Int.eq_ofNat_of_zero_le h0
    obtain ⟨h3, h4⟩ := Lib.indexByte_some ho
    have hko : k < o := by
      rcases Nat.lt_trichotomy o k with hlt | he | hgt
      · exact absurd h3 (hc o hlt)
      · subst he; rw [h] at h3; cases h3; exact absurd rfl h47
      · exact hgt
    rw [spl_some _ _ ho, List.all_cons, hB (l.take o) (List.mem_of_getElem? (by rw [List.getElem?_take_of_lt hko]; exact h))]; rfl
/-- what the loop knows: the part that begins at place a has been read as far as place i -/
def PaS (l : List UInt8) (i a : Nat) : Prop :=
  (a ≤ i ∧ i ≤ l.length ∧ (spl l).all (fun p => !badL p) = (spl (l.drop a)).all (fun p => !badL p) ∧ ∀ j, a ≤ j → j < i → ∀ c, l[j]? = some c → c ≠ 47 ∧ badC c = false) ∨ (i = l.length + 1 ∧ (spl l).all (fun p => !badL p) = true)
theorem PaS.start (l : List UInt8) : PaS l 0 0 := .inl ⟨Nat.le_refl _, Nat.zero_le _, rfl, fun j _ h => by omega⟩
theorem PaS.fin {l : List UInt8} {i a : Nat} (h : PaS l i a) (hi : l.length < i) : (spl l).all (fun p => !badL p) = true := by
  rcases h with ⟨_, h, _⟩ | ⟨_, h⟩
  · omega
  · exact h
theorem PaS.at_ {l : List UInt8} {i a : Nat} (h : PaS l i a) (hi : i ≤ l.length) : a ≤ i ∧ (spl l).all (fun p => !badL p) = (spl (l.drop a)).all (fun p => !badL p) ∧ ∀ j, j < i - a → ∀ c, (l.drop a)[j]? = some c → c ≠ 47 ∧ badC c = false := by
  rcases h with ⟨h1, _, h2, h3⟩ | ⟨h, _⟩
  · exact ⟨h1, h2, fun j hj c hc => by rw [List.getElem?_drop] at hc; exact h3 (a + j) (by omega) (by omega) c hc⟩
  · omega
theorem not47 {l : List UInt8} {n : Nat} (h : ∀ j, j < n → ∀ c, l[j]? = some c → c ≠ 47 ∧ badC c = false) : ∀ j, j < n → l[j]? ≠ some 47 := fun j hj e => (h j hj _ e).1 rfl
theorem PaS.on {l : List UInt8} {i a : Nat} {c : UInt8} (h : PaS l i a) (hc : l[i]? = some c) (h47 : c ≠ 47) (hb : badC c = false) : PaS l (i + 1) a := by
  have hi := (List.getElem?_eq_some_iff.1 hc).1
  rcases h with ⟨h1, _, h2, h3⟩ | ⟨h, _⟩
  · refine .inl ⟨by omega, by omega, h2, fun j hj hj2 d hd => ?_⟩
    rcases Nat.lt_or_ge j i with h4 | h4
    · exact h3 j hj h4 d hd
    · obtain rfl : j = i := by omega
      rw [hc] at hd; cases hd; exact ⟨h47, hb⟩
  · omega
theorem PaS.bad {l : List UInt8} {i a : Nat} {c : UInt8} (h : PaS l i a) (hc : l[i]? = some c) (h47 : c ≠ 47) (hb : badC c = true) : (spl l).all (fun p => !badL p) = false := by
  have hi := (List.getElem?_eq_some_iff.1 hc).1
  obtain ⟨h1, h2, h3⟩ := h.at_ (by omega)
  rw [h2]
  refine spl_badc (k := i - a) (c := c) ?_ h47 (not47 h3) hb
  rw [List.getElem?_drop, show a + (i - a) = i by omega]; exact hc
/-- the part is at its end -/
theorem PaS.part {l : List UInt8} {i a : Nat} (h : PaS l i a) (hi : i ≤ l.length) (hc : i < l.length → l[i]? = some 47) :
    (badL ((l.drop a).take (i - a)) = true → (spl l).all (fun p => !badL p) = false) ∧ (badL ((l.drop a).take (i - a)) = false → PaS l (i + 1) (i + 1)) := by
  obtain ⟨h1, h2, h3⟩ := h.at_ hi
  rcases Nat.lt_or_ge i l.length with hlt | hge
  · have hs : spl (l.drop a) = (l.drop a).take (i - a) :: spl (l.drop (i + 1)) := by
      have := spl_at (l := l.drop a) (k := i - a) (by rw [List.getElem?_drop, show a + (i - a) = i by omega]; exact hc hlt) (not47 h3)
      rw [List.drop_drop, show a + (i - a + 1) = i + 1 by omega] at this
      exact this
    rw [h2, hs, List.all_cons]
    refine ⟨fun hb => by rw [hb]; rfl, fun hb => .inl ⟨Nat.le_refl _, by omega, by rw [h2, hs, List.all_cons, hb]; rfl, fun j hj hj2 => by omega⟩⟩
  · obtain rfl : i = l.length := by omega
    have ht : (l.drop a).take (l.length - a) = l.drop a := List.take_of_length_le (by rw [List.length_drop]; omega)
    have hs : spl (l.drop a) = [l.drop a] := spl_free (fun j => by
      rcases Nat.lt_or_ge j (l.length - a) with h4 | h4
      · exact not47 h3 j h4
      · rw [List.getElem?_eq_none (by rw [List.length_drop]; omega)]; simp)
    rw [ht, h2, hs]
    refine ⟨fun hb => by rw [List.all_cons, hb]; rfl, fun hb => .inr ⟨rfl, by rw [h2, hs, List.all_cons, hb]; rfl⟩⟩
theorem PaS.badl {s : ByteArray} {i a : Nat} (h : PaS s.data.toList i a) (hi : i ≤ s.data.toList.length) : badL ((s.data.toList.drop a).take (i - a)) = ((s.extract a i).toList.isEmpty || ((s.extract a i).toList == [46] || (s.extract a i).toList == [46, 46])) := by
  obtain ⟨h1, h2, h3⟩ := h.at_ hi
  unfold badL
  rw [ByteArray.toList_eq, extB]
  have : ((s.data.toList.drop a).take (i - a)).any badC = false := by
    rw [List.any_eq_false]
    intro c hc
    obtain ⟨j, hj⟩ := List.getElem?_of_mem hc
    have hj2 := (List.getElem?_eq_some_iff.1 hj).1
    rw [List.length_take] at hj2
    rw [List.getElem?_take_of_lt (by omega)] at hj
    rw [(h3 j (by omega) c hj).2]; simp
  rw [this, Bool.or_false]
set_option maxRecDepth 100000 in
set_option maxHeartbeats 4000000 in
theorem pathR_any (s : ByteArray) (w : World) (hs : s.size ≤ 9223372036854775807) :
    Calls Tryz.prog 89 #[.string s] w fun e w' => e = .returned (.bool (goodB s)) ∧ Gr w w' := by
  obtain ⟨B, hB⟩ : ∃ B, goodB s = B := ⟨_, rfl⟩
  have hE := goodB_eq s
  rw [hB] at hE ⊢
  have HW : Hid (∀ y, _) := Lib.hid (fun y => withinR_any (s.size : Int) 1 64 y)
  obtain ⟨A, hA⟩ : ∃ A, withinB (s.size : Int) 1 64 = A := ⟨_, rfl⟩
  rw [hA] at HW
  have hlen : s.data.toList.length = s.size := by simp
  cases A with
  | false =>
    obtain rfl : B = false := by
      rw [hE]
      have hn : ¬ (1 ≤ s.size ∧ s.size ≤ 64) := fun h => by
        rw [withinB_iff.2 (by omega)] at hA; cases hA
      rcases Nat.lt_or_ge 64 s.size with h | h
      · rw [decide_eq_false (by omega)]; simp
      · have h0 : s.data.toList = [] := List.eq_nil_of_length_eq_zero (by omega)
        rw [h0]; rfl
    clear hB hE hA
    go_enter Tryz.func89, Tryz.ntmps89
    go_wp2_with fail
    refine (HW.out _).mono ?_
    rintro e w1 ⟨rfl, rfl⟩
    go_wp2_with fail
    go_ret
    exact ⟨rfl, Gr.refl _⟩
  | true =>
    have hsz := withinB_iff.1 hA
    have hEB : (spl s.data.toList).all (fun p => !badL p) = B := by rw [hE, decide_eq_true (show s.size ≤ 64 by omega), Bool.and_true]
    have HF : Hid ((spl s.data.toList).all (fun p => !badL p) = B) := Lib.hid hEB
    clear hB hE hA hEB
    go_enter Tryz.func89, Tryz.ntmps89
    go_wp2_with fail
    refine (HW.out _).mono ?_
    rintro e w1 ⟨rfl, rfl⟩
    go_wp2_with fail
    go_loopw [3, 4] (fun v3 v4 W => ∃ (i a : Nat), i ≤ s.size + 1 ∧ a ≤ s.size + 1 ∧ v3 = .int .i64 (a : Int) ∧ v4 = .int .i64 (i : Int) ∧ Hid (PaS s.data.toList i a) ∧ W = w) (fun _ v4 _ => s.size + 1 - (intOf v4).toNat)
    case atStart => exact ⟨0, 0, by omega, by omega, rfl, rfl, Lib.hid (PaS.start _), rfl⟩
    case round =>
      obtain ⟨i, a, hi, ha, rfl, rfl, HS, rfl⟩ := hrel
      by_cases hle : i ≤ s.size
      · have t1 : decide (i ≤ s.size) = true := decide_eq_true hle
        have t1' : decide ((i : Int) ≤ (s.size : Int)) = true := decide_eq_true (by omega)
        have hai := (HS.out.at_ (by omega)).1
        have HPt := Lib.hid (HS.out.part (by omega))
        have hai' : (a : Int) ≤ (i : Int) := by omega
        by_cases hlt : i < s.size
        · have t2 : decide (i < s.size) = true := decide_eq_true hlt
          have t2' : decide ((i : Int) < (s.size : Int)) = true := decide_eq_true (by omega)
          have hc : s.data.toList[i]? = some (s[i]'hlt) := by
            rw [List.getElem?_eq_getElem (by omega)]; rfl
          have HC := Lib.hid hc
          obtain ⟨cc, hcc⟩ : ∃ cc, s[i]'hlt = cc := ⟨_, rfl⟩
          rw [hcc] at HC
          clear hc
          by_cases h47 : cc = 47
          · have z1 : ((cc.toNat : Int) != 47) = false := by rw [h47]; rfl
            have HPt := Lib.hid (HPt.out (fun _ => by rw [HC.out, h47]))
            clear HC h47
            have HBl := Lib.hid (HS.out.badl (by omega))
            generalize (s.data.toList.drop a).take (i - a) = qq at HPt HBl
            obtain ⟨PP, hPP⟩ : ∃ PP, s.extract a i = PP := ⟨_, rfl⟩
            rw [hPP] at HBl
            obtain ⟨B1, u1⟩ : ∃ B, PP.toList.isEmpty = B := ⟨_, rfl⟩
            obtain ⟨B2, u2⟩ : ∃ B, (PP.toList == [46]) = B := ⟨_, rfl⟩
            obtain ⟨B3, u3⟩ : ∃ B, (PP.toList == [46, 46]) = B := ⟨_, rfl⟩
            rw [u1, u2, u3] at HBl
            cases B1 with
            | true =>
              obtain rfl : B = false := HF.out.symm.trans (HPt.out.1 HBl.out)
              clear HPt HBl HF HS
              go_wp2_with fail
              go_ret
              exact ⟨rfl, Gr.refl _⟩
            | false =>
              cases B2 with
              | true =>
                obtain rfl : B = false := HF.out.symm.trans (HPt.out.1 HBl.out)
                clear HPt HBl HF HS
                go_wp2_with fail
                go_ret
                exact ⟨rfl, Gr.refl _⟩
              | false =>
                cases B3 with
                | true =>
                  obtain rfl : B = false := HF.out.symm.trans (HPt.out.1 HBl.out)
                  clear HPt HBl HF HS
                  go_wp2_with fail
                  go_ret
                  exact ⟨rfl, Gr.refl _⟩
                | false =>
                  have HS2 := Lib.hid (HPt.out.2 HBl.out)
                  clear HPt HBl HS
                  go_wp2_with fail
                  go_round
                  case rel => exact ⟨i + 1, i + 1, by omega, by omega, by go_num, by go_num, HS2, trivial⟩
                  case measure => simp [intOf]; omega
          · have z1 : ((cc.toNat : Int) != 47) = true := by
              rw [bne_iff_ne]; intro e
              exact h47 (UInt8.toNat_inj.1 (by have : cc.toNat = 47 := by omega
                                               exact this))
            obtain ⟨D1, z2⟩ : ∃ D, decide ((cc.toNat : Int) < 33) = D := ⟨_, rfl⟩
            obtain ⟨D2, z3⟩ : ∃ D, decide (126 < (cc.toNat : Int)) = D := ⟨_, rfl⟩
            have hbc : badC cc = (D1 || D2) := by
              unfold badC; rw [← z2, ← z3]
              congr 1
              · by_cases h : cc.toNat < 33
                · rw [decide_eq_true h, decide_eq_true (by omega)]
                · rw [decide_eq_false h, decide_eq_false (by omega)]
              · by_cases h : 126 < cc.toNat
                · rw [decide_eq_true h, decide_eq_true (by omega)]
                · rw [decide_eq_false h, decide_eq_false (by omega)]
            have HBd := Lib.hid (fun h => PaS.bad HS.out HC.out h47 (hbc.trans h))
            have HOn := Lib.hid (fun h => PaS.on HS.out HC.out h47 (hbc.trans h))
            clear HPt hbc HC h47
            cases D1 with
            | true =>
              obtain rfl : B = false := HF.out.symm.trans (HBd.out rfl)
              clear HBd HOn HF HS
              go_wp2_with fail
              go_ret
              exact ⟨rfl, Gr.refl _⟩
            | false =>
              cases D2 with
              | true =>
                obtain rfl : B = false := HF.out.symm.trans (HBd.out rfl)
                clear HBd HOn HF HS
                go_wp2_with fail
                go_ret
                exact ⟨rfl, Gr.refl _⟩
              | false =>
                have HS2 := Lib.hid (HOn.out rfl)
                clear HBd HOn HS
                go_wp2_with fail
                go_round
                case rel => exact ⟨i + 1, a, by omega, by omega, rfl, by go_num, HS2, trivial⟩
                case measure => simp [intOf]; omega
        · have t2 : decide (i < s.size) = false := decide_eq_false hlt
          have t2' : decide ((i : Int) < (s.size : Int)) = false := decide_eq_false (by omega)
          have HPt := Lib.hid (HPt.out (fun h => by omega))
          have HBl := Lib.hid (HS.out.badl (by omega))
          generalize (s.data.toList.drop a).take (i - a) = qq at HPt HBl
          obtain ⟨PP, hPP⟩ : ∃ PP, s.extract a i = PP := ⟨_, rfl⟩
          rw [hPP] at HBl
          obtain ⟨B1, u1⟩ : ∃ B, PP.toList.isEmpty = B := ⟨_, rfl⟩
          obtain ⟨B2, u2⟩ : ∃ B, (PP.toList == [46]) = B := ⟨_, rfl⟩
          obtain ⟨B3, u3⟩ : ∃ B, (PP.toList == [46, 46]) = B := ⟨_, rfl⟩
          rw [u1, u2, u3] at HBl
          cases B1 with
          | true =>
            obtain rfl : B = false := HF.out.symm.trans (HPt.out.1 HBl.out)
            clear HPt HBl HF HS
            go_wp2_with fail
            go_ret
            exact ⟨rfl, Gr.refl _⟩
          | false =>
            cases B2 with
            | true =>
              obtain rfl : B = false := HF.out.symm.trans (HPt.out.1 HBl.out)
              clear HPt HBl HF HS
              go_wp2_with fail
              go_ret
              exact ⟨rfl, Gr.refl _⟩
            | false =>
              cases B3 with
              | true =>
                obtain rfl : B = false := HF.out.symm.trans (HPt.out.1 HBl.out)
                clear HPt HBl HF HS
                go_wp2_with fail
                go_ret
                exact ⟨rfl, Gr.refl _⟩
              | false =>
                have HS2 := Lib.hid (HPt.out.2 HBl.out)
                clear HPt HBl HS
                go_wp2_with fail
                go_round
                case rel => exact ⟨i + 1, i + 1, by omega, by omega, by go_num, by go_num, HS2, trivial⟩
                case measure => simp [intOf]; omega
      · have t1 : decide (i ≤ s.size) = false := decide_eq_false hle
        have t1' : decide ((i : Int) ≤ (s.size : Int)) = false := decide_eq_false (by omega)
        obtain rfl : B = true := HF.out.symm.trans (HS.out.fin (by omega))
        go_wp2_with fail
        go_ret
        exact ⟨rfl, Gr.refl _⟩
end
section
open Go Go.RowKit Go.Shelf
attribute [local go_sem] gAt gUpon
attribute [local simp] Gr.refl Gr.alloc

theorem entryR_any (x : En) (w : World) (hs : x.path.size ≤ 9223372036854775807) : Calls Tryz.prog 52 #[.agg #[.string x.path, .int .i64 x.fmt, .int .i64 x.len, .string x.dig]] w fun e w' => e = .returned (.bool (entB x)) ∧ Gr w w' := by
  obtain ⟨pa, f, n, d⟩ := x
  simp only at hs ⊢
  have H1 : Hid (∀ y, _) := Lib.hid (fun y => pathR_any pa y hs)
  have H2 : Hid (∀ y, _) := Lib.hid (fun y => withinR_any f 0 1000000 y)
  have H3 : Hid (∀ y, _) := Lib.hid (fun y => withinR_any n 0 65536 y)
  unfold entB
  simp only
  obtain ⟨D, hD⟩ : ∃ D, decide (d.size = 32) = D := ⟨_, rfl⟩
  have hD' : decide ((d.size : Int) = 32) = D := by
    rw [← hD]
    by_cases h : d.size = 32
    · rw [decide_eq_true h, decide_eq_true (by omega)]
    · rw [decide_eq_false h, decide_eq_false (by omega)]
  have hD2 : ((d.size : Int) == 32) = D := hD'
  have hD3 : (d.size == 32) = D := hD
  rw [hD]
  generalize goodB pa = A at H1 ⊢
  generalize withinB f 0 1000000 = B at H2 ⊢
  generalize withinB n 0 65536 = C at H3 ⊢
  clear hs
  go_enter Tryz.func52, Tryz.ntmps52
  go_upto_region 1 with fail
  refine wp_gen (F := fun z => Gr w z ∧ z.heap[w.heap.size]? = some (.cells #[.string pa, .int .i64 f, .int .i64 n, .string d] 28 (0, 0))) ⟨Gr.alloc _ _, heap_alloc_new _ _⟩ ?_
  rintro wA ⟨hgA, hrA⟩
  obtain ⟨a0, a1, a2, a3⟩ := row4 hrA
  generalize w.heap.size = bx at a0 a1 a2 a3 hrA ⊢
  have HGA := Lib.hid hgA
  clear hgA hrA
  cases A with
  | false =>
    go_wp2_with fail
    refine (H1.out _).mono ?_
    rintro e w1 ⟨rfl, hg⟩
    have HG := Lib.hid hg
    clear hg
    go_wp2_with fail
    go_ret
    exact ⟨rfl, HGA.out.trans HG.out⟩
  | true =>
    cases B with
    | false =>
      go_wp2_with fail
      refine (H1.out _).mono ?_
      rintro e w1 ⟨rfl, hg⟩
      have b1 := hg.cell a1
      have HG := Lib.hid hg
      clear hg a0 a1 a2 a3
      go_wp2_with fail
      refine (H2.out _).mono ?_
      rintro e w2 ⟨rfl, rfl⟩
      go_wp2_with fail
      go_ret
      exact ⟨rfl, HGA.out.trans HG.out⟩
    | true =>
      cases C with
      | false =>
        go_wp2_with fail
        refine (H1.out _).mono ?_
        rintro e w1 ⟨rfl, hg⟩
        have b1 := hg.cell a1
        have b2 := hg.cell a2
        have HG := Lib.hid hg
        clear hg a0 a1 a2 a3
        go_wp2_with fail
        refine (H2.out _).mono ?_
        rintro e w2 ⟨rfl, rfl⟩
        go_wp2_with fail
        refine (H3.out _).mono ?_
        rintro e w2 ⟨rfl, rfl⟩
        go_wp2_with fail
        go_ret
        exact ⟨rfl, HGA.out.trans HG.out⟩
      | true =>
        go_wp2_with fail
        refine (H1.out _).mono ?_
        rintro e w1 ⟨rfl, hg⟩
        have b1 := hg.cell a1
        have b2 := hg.cell a2
        have b3 := hg.cell a3
        have HG := Lib.hid hg
        clear hg a0 a1 a2 a3
        go_wp2_with fail
        refine (H2.out _).mono ?_
        rintro e w2 ⟨rfl, rfl⟩
        go_wp2_with fail
        refine (H3.out _).mono ?_
        rintro e w2 ⟨rfl, rfl⟩
        go_wp2_with fail
        go_ret
        exact ⟨rfl, HGA.out.trans HG.out⟩
structure VaR (l : List En) (k : Nat) : Prop where
  all : (l.take k).all entB = true
  asc : ascN l k = true
set_option maxRecDepth 100000 in
set_option maxHeartbeats 8000000 in
theorem validR_any (id ver : Int) (v : Value) (l : List En) (w : World) (hv : Rws 4 enC v l w) (hl : l.length ≤ 9223372036854775806) (hp : ∀ x ∈ l, x.path.size ≤ 9223372036854775807) :
    Calls Tryz.prog 25 #[.agg #[.int .i64 id, .int .i64 ver, v]] w fun e w' => e = .returned (.bool (validD id ver l)) ∧ Gr w w' := by
  obtain ⟨p, c, rfl⟩ := hv.shape
  have H1 : Hid (∀ y, _) := Lib.hid (fun y => withinR_any id 1 1000000 y)
  have H2 : Hid (∀ y, _) := Lib.hid (fun y => withinR_any ver 1 1000000 y)
  have H3 : Hid (∀ y, _) := Lib.hid (fun y => withinR_any l.length 1 64 y)
  obtain ⟨B, hB⟩ : ∃ B, validD id ver l = B := ⟨_, rfl⟩
  rw [hB]
  have HV := Lib.hid hv
  have HP := Lib.hid hp
  have HF : Hid (((withinB id 1 1000000 && (withinB ver 1 1000000 && withinB l.length 1 64)) && (l.all entB && ascN l l.length)) = B) := Lib.hid hB
  obtain ⟨bx, hbx⟩ : ∃ bx, bx = w.heap.size := ⟨_, rfl⟩
  have hrow := heap_alloc_new w (.cells #[.int .i64 id, .int .i64 ver, .slice p l.length c] 24)
  rw [← hbx] at hrow
  have HR := Lib.hid hrow
  generalize withinB id 1 1000000 = A1 at H1 HF
  generalize withinB ver 1 1000000 = A2 at H2 HF
  generalize withinB l.length 1 64 = A3 at H3 HF
  clear hB hrow hv hp
  go_enter Tryz.func25, Tryz.ntmps25
  go_upto_region 1 with fail
  rw [← hbx]
  refine wp_gen (F := fun y => Gr w y ∧ y.heap[bx]? = some (.cells #[.int .i64 id, .int .i64 ver, .slice p l.length c] 24 (0, 0))) ⟨Gr.alloc _ _, HR.out⟩ ?_
  clear HR hbx
  rintro wA ⟨hgA, hrA⟩
  have HRA := Lib.hid hrA
  have HGA := Lib.hid hgA
  obtain ⟨k0, k1, k2⟩ := row3 hrA
  clear hgA hrA
  cases A1 with
  | false =>
    obtain rfl : false = B := HF.out
    go_wp2_with fail
    refine (H1.out _).mono ?_
    rintro e w1 ⟨rfl, rfl⟩
    go_wp2_with fail
    go_ret
    exact ⟨rfl, HGA.out⟩
  | true =>
    cases A2 with
    | false =>
      obtain rfl : false = B := HF.out
      go_wp2_with fail
      refine (H1.out _).mono ?_
      rintro e w1 ⟨rfl, rfl⟩
      go_wp2_with fail
      refine (H2.out _).mono ?_
      rintro e w1 ⟨rfl, rfl⟩
      go_wp2_with fail
      go_ret
      exact ⟨rfl, HGA.out⟩
    | true =>
      cases A3 with
      | false =>
        obtain rfl : false = B := HF.out
        go_wp2_with fail
        refine (H1.out _).mono ?_
        rintro e w1 ⟨rfl, rfl⟩
        go_wp2_with fail
        refine (H2.out _).mono ?_
        rintro e w1 ⟨rfl, rfl⟩
        go_wp2_with fail
        refine (H3.out _).mono ?_
        rintro e w1 ⟨rfl, rfl⟩
        go_wp2_with fail
        go_ret
        exact ⟨rfl, HGA.out⟩
      | true =>
        have HF : Hid ((l.all entB && ascN l l.length) = B) := Lib.hid HF.out
        go_wp2_with fail
        refine (H1.out _).mono ?_
        rintro e w1 ⟨rfl, rfl⟩
        go_wp2_with fail
        refine (H2.out _).mono ?_
        rintro e w1 ⟨rfl, rfl⟩
        go_wp2_with fail
        refine (H3.out _).mono ?_
        rintro e wZ ⟨rfl, rfl⟩
        clear H1 H2 H3
        go_wp2_with fail
        go_loopw [3] (fun v3 W => ∃ (k : Nat), k ≤ l.length ∧ v3 = .int .i64 (k : Int) ∧ Hid (Gr wA W) ∧ Hid (VaR l k)) (fun v3 _ => l.length - (intOf v3).toNat)
        case atStart => exact ⟨0, Nat.zero_le _, rfl, Lib.hid (Gr.refl _), Lib.hid ⟨rfl, rfl⟩⟩
        case round =>
          obtain ⟨k, hk, rfl, HG, HS⟩ := hrel
          have n2 := HG.out.cell k2
          by_cases hlt : k < l.length
          · have ht : decide (k < l.length) = true := decide_eq_true hlt
            have ht' : decide ((k : Int) < (l.length : Int)) = true := decide_eq_true (by omega)
            obtain ⟨x, hx⟩ : ∃ x, l[k]? = some x := ⟨_, List.getElem?_eq_getElem hlt⟩
            have HP1 := Lib.hid (HP.out x (List.mem_of_getElem? hx))
            obtain ⟨g, off, rfl, hlc, hcy⟩ := (HV.out.gr (HGA.out.trans HG.out)).at_ hx
            have y0 := hcy 0 _ rfl
            have y1 := hcy 1 _ rfl
            have y2 := hcy 2 _ rfl
            have y3 := hcy 3 _ rfl
            rw [Nat.add_zero] at y0
            rw [← Nat.add_assoc] at y1 y2 y3
            obtain ⟨X, hX⟩ : ∃ X, entB x = X := ⟨_, rfl⟩
            have HE : Hid (∀ y, _) := Lib.hid (fun y => entryR_any x y HP1.out)
            rw [hX] at HE
            have i0 : (0 : Int) ≤ (k : Int) := by omega
            have i1 : (k : Int) < (l.length : Int) := by omega
            have ew2 : IntKind.i64.wrap (k : Int) = (k : Int) := IntWalk.i64_in _ (by omega)
            have S4 : ∀ q : GrS wr.drew, q.w.cell? ⟨bx, 2, none⟩ = some (.slice (some ⟨g, off, none⟩) l.length c) := fun q => q.h.cell (w := wr.drew) n2
            cases X with
            | false =>
              have HBd1 : Hid (B = false) := Lib.hid (by rw [← HF.out, all_bad hx hX]; rfl)
              have HBd2 := HBd1
              obtain rfl : B = false := HBd1.out
              obtain ⟨pa, f, n, d⟩ := x
              simp only at y0 y1 y2 y3 HP1 HE
              have S0 : ∀ q : GrS wr.drew, q.w.cell? ⟨g, off + k * 4, none⟩ = some (.string pa) := fun q => q.h.cell (w := wr.drew) y0
              have S1 : ∀ q : GrS wr.drew, q.w.cell? ⟨g, off + k * 4 + 1, none⟩ = some (.int .i64 f) := fun q => q.h.cell (w := wr.drew) y1
              have S2 : ∀ q : GrS wr.drew, q.w.cell? ⟨g, off + k * 4 + 2, none⟩ = some (.int .i64 n) := fun q => q.h.cell (w := wr.drew) y2
              have S3 : ∀ q : GrS wr.drew, q.w.cell? ⟨g, off + k * 4 + 3, none⟩ = some (.string d) := fun q => q.h.cell (w := wr.drew) y3
              clear hcy hx hX
              go_upto_region 6 with fail
              clear y0 y1 y2 y3 n2
              refine region_grow 27 55 (by kernel_rfl) rfl (by kernel_rfl) rfl rfl ?_
              simp only [List.take_succ_cons, List.take_zero, List.drop_succ_cons, List.drop_zero]
              refine seg 5 rfl rfl rfl rfl ?_
              simp only [List.take_succ_cons, List.take_zero, List.drop_succ_cons, List.drop_zero]
              repeat (go_big_quiet_step (fail))
              refine wpQuiet_nil ?_
              intro _
              refine grow_det (v := .bool false) rfl rfl rfl rfl rfl ?_ ?_
              · intro w1 hG
                go_simp
                refine (HE.out w1).mono ?_
                rintro e w' ⟨rfl, hb⟩
                exact ⟨rfl, hb⟩
              simp only [Act.put, List.setIfInBounds_toArray, List.set_cons_zero, List.set_cons_succ]
              refine seg 21 rfl rfl rfl rfl ?_
              simp only [List.take_succ_cons, List.take_zero, List.drop_succ_cons, List.drop_zero]
              repeat (go_big_quiet_step (fail))
              refine wpQuiet_nil ?_
              intro _
              refine grow_end0 rfl rfl ?_
              intro wC hG
              have HGn := Lib.hid (HG.out.trans (Gr.trans (Gr.drew wr) hG))
              clear hG S0 S1 S2 S3 S4
              clear HF HS HE HBd1 HBd2
              go_wp2_with fail
              go_ret
              exact ⟨rfl, HGA.out.trans HGn.out⟩
            | true =>
              obtain ⟨pa, f, n, d⟩ := x
              simp only at y0 y1 y2 y3 HP1 HE
              have S0 : ∀ q : GrS wr.drew, q.w.cell? ⟨g, off + k * 4, none⟩ = some (.string pa) := fun q => q.h.cell (w := wr.drew) y0
              have S1 : ∀ q : GrS wr.drew, q.w.cell? ⟨g, off + k * 4 + 1, none⟩ = some (.int .i64 f) := fun q => q.h.cell (w := wr.drew) y1
              have S2 : ∀ q : GrS wr.drew, q.w.cell? ⟨g, off + k * 4 + 2, none⟩ = some (.int .i64 n) := fun q => q.h.cell (w := wr.drew) y2
              have S3 : ∀ q : GrS wr.drew, q.w.cell? ⟨g, off + k * 4 + 3, none⟩ = some (.string d) := fun q => q.h.cell (w := wr.drew) y3
              have HAll : Hid ((l.take (k + 1)).all entB = true) := Lib.hid (by rw [take_all hx, HS.out.all, hX]; rfl)
              by_cases k0 : k = 0
              · subst k0
                have u0 : decide ((0 : Int) < ((0 : Nat) : Int)) = false := by decide
                have HS1 : Hid (VaR l (0 + 1)) := Lib.hid ⟨HAll.out, rfl⟩
                clear hcy hx hX
                simp only [Nat.zero_mul, Nat.add_zero] at S0 S1 S2 S3
                go_upto_region 6 with fail
                clear y0 y1 y2 y3 n2
                refine region_grow 27 55 (by kernel_rfl) rfl (by kernel_rfl) rfl rfl ?_
                simp only [List.take_succ_cons, List.take_zero, List.drop_succ_cons, List.drop_zero]
                refine seg 5 rfl rfl rfl rfl ?_
                simp only [List.take_succ_cons, List.take_zero, List.drop_succ_cons, List.drop_zero]
                repeat (go_big_quiet_step (fail))
                refine wpQuiet_nil ?_
                intro _
                refine grow_det (v := .bool true) rfl rfl rfl rfl rfl ?_ ?_
                · intro w1 hG
                  go_simp
                  refine (HE.out w1).mono ?_
                  rintro e w' ⟨rfl, hb⟩
                  exact ⟨rfl, hb⟩
                simp only [Act.put, List.setIfInBounds_toArray, List.set_cons_zero, List.set_cons_succ]
                refine seg 21 rfl rfl rfl rfl ?_
                simp only [List.take_succ_cons, List.take_zero, List.drop_succ_cons, List.drop_zero]
                repeat (go_big_quiet_step (fail))
                refine wpQuiet_nil ?_
                intro _
                refine grow_end0 rfl rfl ?_
                intro wC hG
                have HGn := Lib.hid (HG.out.trans (Gr.trans (Gr.drew wr) hG))
                clear hG S0 S1 S2 S3 S4
                go_wp2_with fail
                go_round
                case rel => exact ⟨0 + 1, by omega, by go_num, HGn, HS1⟩
                case measure => simp [intOf]; omega
              · obtain ⟨j, rfl⟩ : ∃ j, k = j + 1 := ⟨k - 1, by omega⟩
                obtain ⟨y, hy⟩ : ∃ y, l[j]? = some y := ⟨_, List.getElem?_eq_getElem (by omega)⟩
                obtain ⟨_, _, hqe, _, hcz⟩ := (HV.out.gr (HGA.out.trans HG.out)).at_ hy
                injection hqe with hqe
                injection hqe with e1 e2
                subst e1 e2
                have z0 := hcz 0 _ rfl
                rw [Nat.add_zero] at z0
                have hasc := asc_step l j
                rw [getD_at hx, getD_at hy, HS.out.asc, Bool.true_and] at hasc
                obtain ⟨py, fy, ny, dy⟩ := y
                simp only at z0 hasc
                have S5 : ∀ q : GrS wr.drew, q.w.cell? ⟨g, off + j * 4, none⟩ = some (.string py) := fun q => q.h.cell (w := wr.drew) z0
                obtain ⟨L, hL⟩ : ∃ L, Op.bytesLess py.toList pa.toList = L := ⟨_, rfl⟩
                rw [show ltB py pa = Op.bytesLess py.toList pa.toList from rfl, hL] at hasc
                have ew : IntKind.i64.wrap (((j + 1 : Nat) : Int) - 1) = (j : Int) := by rw [IntWalk.i64_in _ (by omega)]; omega
                have ew3 : IntKind.i64.wrap (j : Int) = (j : Int) := IntWalk.i64_in _ (by omega)
                have i2 : (0 : Int) ≤ (j : Int) := by omega
                have i3 : (j : Int) < (l.length : Int) := by omega
                have u0 : decide (0 < j + 1) = true := decide_eq_true (by omega)
                have u0' : decide ((0 : Int) < (j : Int) + 1) = true := decide_eq_true (by omega)
                cases L with
                | false =>
                  obtain rfl : B = false := by rw [← HF.out, asc_bad (by omega) hasc, Bool.and_false]
                  have HBd1 := HAll
                  have HBd2 := HAll
                  clear hcy hx hX hy hcz hasc HAll k0
                  go_upto_region 6 with fail
                  clear y0 y1 y2 y3 n2 z0
                  refine region_grow 27 55 (by kernel_rfl) rfl (by kernel_rfl) rfl rfl ?_
                  simp only [List.take_succ_cons, List.take_zero, List.drop_succ_cons, List.drop_zero]
                  refine seg 5 rfl rfl rfl rfl ?_
                  simp only [List.take_succ_cons, List.take_zero, List.drop_succ_cons, List.drop_zero]
                  repeat (go_big_quiet_step (fail))
                  refine wpQuiet_nil ?_
                  intro _
                  refine grow_det (v := .bool true) rfl rfl rfl rfl rfl ?_ ?_
                  · intro w1 hG
                    go_simp
                    refine (HE.out w1).mono ?_
                    rintro e w' ⟨rfl, hb⟩
                    exact ⟨rfl, hb⟩
                  simp only [Act.put, List.setIfInBounds_toArray, List.set_cons_zero, List.set_cons_succ]
                  refine seg 21 rfl rfl rfl rfl ?_
                  simp only [List.take_succ_cons, List.take_zero, List.drop_succ_cons, List.drop_zero]
                  repeat (go_big_quiet_step (fail))
                  refine wpQuiet_nil ?_
                  intro _
                  refine grow_end0 rfl rfl ?_
                  intro wC hG
                  have HGn := Lib.hid (HG.out.trans (Gr.trans (Gr.drew wr) hG))
                  clear hG S0 S1 S2 S3 S4
                  clear S5
                  clear HF HS HE HBd1 HBd2
                  go_wp2_with fail
                  go_ret
                  exact ⟨rfl, HGA.out.trans HGn.out⟩
                | true =>
                  have HS1 : Hid (VaR l (j + 1 + 1)) := Lib.hid ⟨HAll.out, hasc⟩
                  clear hcy hx hX hy hcz hasc HAll k0
                  go_upto_region 6 with fail
                  clear y0 y1 y2 y3 n2 z0
                  refine region_grow 27 55 (by kernel_rfl) rfl (by kernel_rfl) rfl rfl ?_
                  simp only [List.take_succ_cons, List.take_zero, List.drop_succ_cons, List.drop_zero]
                  refine seg 5 rfl rfl rfl rfl ?_
                  simp only [List.take_succ_cons, List.take_zero, List.drop_succ_cons, List.drop_zero]
                  repeat (go_big_quiet_step (fail))
                  refine wpQuiet_nil ?_
                  intro _
                  refine grow_det (v := .bool true) rfl rfl rfl rfl rfl ?_ ?_
                  · intro w1 hG
                    go_simp
                    refine (HE.out w1).mono ?_
                    rintro e w' ⟨rfl, hb⟩
                    exact ⟨rfl, hb⟩
                  simp only [Act.put, List.setIfInBounds_toArray, List.set_cons_zero, List.set_cons_succ]
                  refine seg 21 rfl rfl rfl rfl ?_
                  simp only [List.take_succ_cons, List.take_zero, List.drop_succ_cons, List.drop_zero]
                  repeat (go_big_quiet_step (fail))
                  refine wpQuiet_nil ?_
                  intro _
                  refine grow_end0 rfl rfl ?_
                  intro wC hG
                  have HGn := Lib.hid (HG.out.trans (Gr.trans (Gr.drew wr) hG))
                  clear hG S0 S1 S2 S3 S4
                  clear S5
                  go_wp2_with fail
                  go_round
                  case rel => exact ⟨j + 1 + 1, by omega, by go_num, HGn, HS1⟩
                  case measure => simp [intOf]; omega
          · have ht : decide (k < l.length) = false := decide_eq_false hlt
            have ht' : decide ((k : Int) < (l.length : Int)) = false := decide_eq_false (by omega)
            obtain rfl : k = l.length := by omega
            obtain rfl : true = B := by
              have h := HS.out.all
              rw [List.take_length] at h
              rw [← HF.out, h, HS.out.asc]; rfl
            go_wp2_with fail
            go_ret
            exact ⟨rfl, HGA.out.trans HG.out⟩
end
section
open Go Go.RowKit Go.Shelf
attribute [local go_sem] gAt gUpon
attribute [local simp] Gr.refl Gr.alloc

set_option maxRecDepth 100000 in
set_option maxHeartbeats 2000000 in
theorem equal_any (v u : Value) (l m : List En) (w : World) (hv : Rws 4 enC v l w) (hu : Rws 4 enC u m w) (hl : l.length ≤ 9223372036854775806) :
    Calls Tryz.prog 58 #[v, u] w fun e w' => e = .returned (.bool (decide (l = m))) ∧ Gr w w' := by
  obtain ⟨p, c, rfl⟩ := hv.shape
  obtain ⟨p', c', rfl⟩ := hu.shape
  have HV := Lib.hid hv
  have HU := Lib.hid hu
  clear hv hu
  by_cases hll : l.length = m.length
  · have t1 : decide ((l.length : Int) = (m.length : Int)) = true := decide_eq_true (by omega)
    have t2 : ((l.length : Int) != (m.length : Int)) = false := by rw [hll]; simp
    obtain ⟨B, hB⟩ : ∃ B, decide (l = m) = B := ⟨_, rfl⟩
    rw [hB]
    have HB := Lib.hid hB
    clear hB
    go_enter Tryz.func58, Tryz.ntmps58
    go_wp2_with fail
    go_loopw [13] (fun v13 W => ∃ k : Nat, k ≤ l.length ∧ v13 = .int .i64 (k : Int) ∧ Hid (Gr w W) ∧ Hid (l.take k = m.take k)) (fun v13 _ => l.length - (intOf v13).toNat)
    case atStart => exact ⟨0, Nat.zero_le _, rfl, Lib.hid (Gr.refl _), Lib.hid (by simp)⟩
    case round =>
      obtain ⟨k, hk, rfl, HG, HE⟩ := hrel
      by_cases hlt : k < l.length
      · have ht : decide (k < l.length) = true := decide_eq_true hlt
        have ht' : decide ((k : Int) < (l.length : Int)) = true := decide_eq_true (by omega)
        have hlm : k < m.length := by omega
        obtain ⟨x, hx⟩ : ∃ x, l[k]? = some x := ⟨_, List.getElem?_eq_getElem hlt⟩
        obtain ⟨y, hy⟩ : ∃ y, m[k]? = some y := ⟨_, List.getElem?_eq_getElem hlm⟩
        obtain ⟨g, off, rfl, hlc, hc⟩ := (HV.out.gr HG.out).at_ hx
        obtain ⟨g', off', rfl, hlc', hc'⟩ := (HU.out.gr HG.out).at_ hy
        have HX := Lib.hid hx
        have HY := Lib.hid hy
        have hc0 := hc 0 _ rfl
        have hc1 := hc 1 _ rfl
        have hc2 := hc 2 _ rfl
        have hc3 := hc 3 _ rfl
        rw [Nat.add_zero] at hc0
        rw [← Nat.add_assoc] at hc1 hc2 hc3
        have kc0 := hc' 0 _ rfl
        have kc1 := hc' 1 _ rfl
        have kc2 := hc' 2 _ rfl
        have kc3 := hc' 3 _ rfl
        rw [Nat.add_zero] at kc0
        rw [← Nat.add_assoc] at kc1 kc2 kc3
        have i0 : (0 : Int) ≤ (k : Int) := by omega
        have i1 : (k : Int) < (l.length : Int) := by omega
        have i2 : (k : Int) < (m.length : Int) := by omega
        have hB0 : x ≠ y → B = false := fun h => by
          rw [← HB.out]
          exact decide_eq_false (fun e => h (by
            have h1 := HX.out
            rw [e, HY.out] at h1
            exact (Option.some.inj h1).symm))
        have hB1 : x = y → l.take (k + 1) = m.take (k + 1) := fun h => by
          rw [List.take_add_one, List.take_add_one, HE.out, HX.out, HY.out, h]
        have HB0 := Lib.hid hB0
        have HB1 := Lib.hid hB1
        obtain ⟨xp, xf, xn, xd⟩ := x
        obtain ⟨yp, yf, yn, yd⟩ := y
        simp only at hc0 hc1 hc2 hc3 kc0 kc1 kc2 kc3
        clear hc hc' hx hy hB0 hB1 HX HY
        go_upto_region 6 with fail
        by_cases z1 : xp.toList = yp.toList
        · by_cases z2 : xf = yf
          · by_cases z3 : xn = yn
            · by_cases z4 : xd.toList = yd.toList
              · have HE1 : Hid (l.take (k + 1) = m.take (k + 1)) := Lib.hid (HB1.out (by rw [str_inj z1, z2, z3, str_inj z4]))
                clear HB0 HB1
                go_quiet (fail)
                rename_i nq
                have hg5 : Gr wr (wr.drewN nq) := ⟨rfl, rfl, rfl, Nat.le_refl _, fun _ _ => rfl⟩
                generalize wr.drewN nq = w5 at hg5 ⊢
                have HG5 := Lib.hid (HG.out.trans hg5)
                clear hg5 HG hc0 kc0 hc1 kc1 hc2 kc2 hc3 kc3
                go_wp2_with fail
                go_roundw
                case rel => exact ⟨k + 1, by omega, by go_num, HG5, HE1⟩
                case measure => simp [intOf]; omega
              · obtain rfl : B = false := HB0.out (fun e => by injection e with e1 e2 e3 e4; exact z4 (by rw [e4]))
                clear HB0 HB1 HE
                go_quiet (fail)
                rename_i nq
                have hg5 : Gr wr (wr.drewN nq) := ⟨rfl, rfl, rfl, Nat.le_refl _, fun _ _ => rfl⟩
                generalize wr.drewN nq = w5 at hg5 ⊢
                have HG5 := Lib.hid (HG.out.trans hg5)
                clear hg5 HG hc0 kc0 hc1 kc1 hc2 kc2 hc3 kc3
                go_wp2_with fail
                go_ret
                exact ⟨rfl, HG5.out⟩
            · obtain rfl : B = false := HB0.out (fun e => by injection e with e1 e2 e3 e4; exact z3 e3)
              clear HB0 HB1 HE
              go_quiet (fail)
              rename_i nq
              have hg5 : Gr wr (wr.drewN nq) := ⟨rfl, rfl, rfl, Nat.le_refl _, fun _ _ => rfl⟩
              generalize wr.drewN nq = w5 at hg5 ⊢
              have HG5 := Lib.hid (HG.out.trans hg5)
              clear hg5 HG hc0 kc0 hc1 kc1 hc2 kc2 hc3 kc3
              go_wp2_with fail
              go_ret
              exact ⟨rfl, HG5.out⟩
          · obtain rfl : B = false := HB0.out (fun e => by injection e with e1 e2 e3 e4; exact z2 e2)
            clear HB0 HB1 HE
            go_quiet (fail)
            rename_i nq
            have hg5 : Gr wr (wr.drewN nq) := ⟨rfl, rfl, rfl, Nat.le_refl _, fun _ _ => rfl⟩
            generalize wr.drewN nq = w5 at hg5 ⊢
            have HG5 := Lib.hid (HG.out.trans hg5)
            clear hg5 HG hc0 kc0 hc1 kc1 hc2 kc2 hc3 kc3
            go_wp2_with fail
            go_ret
            exact ⟨rfl, HG5.out⟩
        · obtain rfl : B = false := HB0.out (fun e => by injection e with e1 e2 e3 e4; exact z1 (by rw [e1]))
          clear HB0 HB1 HE
          go_quiet (fail)
          rename_i nq
          have hg5 : Gr wr (wr.drewN nq) := ⟨rfl, rfl, rfl, Nat.le_refl _, fun _ _ => rfl⟩
          generalize wr.drewN nq = w5 at hg5 ⊢
          have HG5 := Lib.hid (HG.out.trans hg5)
          clear hg5 HG hc0 kc0 hc1 kc1 hc2 kc2 hc3 kc3
          go_wp2_with fail
          go_ret
          exact ⟨rfl, HG5.out⟩
      · have ht : decide (k < l.length) = false := decide_eq_false hlt
        have ht' : decide ((k : Int) < (l.length : Int)) = false := decide_eq_false (by omega)
        obtain rfl : B = true := by
          rw [← HB.out]
          have h := HE.out
          rw [List.take_of_length_le (by omega), List.take_of_length_le (by omega)] at h
          exact decide_eq_true h
        go_wp2_with fail
        go_ret
        exact ⟨rfl, HG.out⟩
  · have t1 : decide ((l.length : Int) = (m.length : Int)) = false := decide_eq_false (by omega)
    have t2 : ((l.length : Int) != (m.length : Int)) = true := by rw [bne_iff_ne]; omega
    have hF : decide (l = m) = false := decide_eq_false (fun e => hll (by rw [e]))
    rw [hF]
    clear hF
    go_enter Tryz.func58, Tryz.ntmps58
    go_wp2_with fail
    go_ret
    exact ⟨rfl, Gr.refl _⟩
def sameD (ia va : Int) (la : List En) (ib vb : Int) (lb : List En) : Bool := decide (ia = ib) && (decide (va = vb) && decide (la = lb))
set_option maxRecDepth 100000 in
theorem same_any (ia va ib vb : Int) (v u : Value) (l m : List En) (w : World) (hv : Rws 4 enC v l w) (hu : Rws 4 enC u m w) (hl : l.length ≤ 9223372036854775806) :
    Calls Tryz.prog 28 #[.agg #[.int .i64 ia, .int .i64 va, v], .agg #[.int .i64 ib, .int .i64 vb, u]] w fun e w' => e = .returned (.bool (sameD ia va l ib vb m)) ∧ Gr w w' := by
  obtain ⟨p, c, rfl⟩ := hv.shape
  obtain ⟨p', c', rfl⟩ := hu.shape
  have HE := Lib.hid (fun y (hg : Gr w y) => equal_any _ _ l m y (hv.gr hg) (hu.gr hg) hl)
  clear hv hu
  unfold sameD
  obtain ⟨A1, q1⟩ : ∃ A, decide (ia = ib) = A := ⟨_, rfl⟩
  obtain ⟨A2, q2⟩ : ∃ A, decide (va = vb) = A := ⟨_, rfl⟩
  obtain ⟨A3, q3⟩ : ∃ A, decide (l = m) = A := ⟨_, rfl⟩
  rw [q3] at HE
  rw [q1, q2, q3]
  have t1 : (ia == ib) = A1 := q1
  have t2 : (va == vb) = A2 := q2
  clear q3
  go_enter Tryz.func28, Tryz.ntmps28
  go_upto_region 1 with fail
  refine wp_gen (F := fun z => Gr w z ∧ z.heap[w.heap.size]? = some (.cells #[.int .i64 ia, .int .i64 va, .slice p l.length c] 24 (0, 0)) ∧ z.heap[w.heap.size + 1]? = some (.cells #[.int .i64 ib, .int .i64 vb, .slice p' m.length c'] 24 (0, 0))) ⟨(Gr.alloc _ _).trans (Gr.alloc _ _), (Gr.alloc _ _).block (heap_alloc_new _ _), by
    have h := heap_alloc_new (w.alloc (.cells #[.int .i64 ia, .int .i64 va, .slice p l.length c] 24)) (.cells #[.int .i64 ib, .int .i64 vb, .slice p' m.length c'] 24)
    simpa using h⟩ ?_
  rintro wA ⟨hgA, hrA, hrB⟩
  obtain ⟨a0, a1, a2⟩ := row3 hrA
  obtain ⟨b0, b1, b2⟩ := row3 hrB
  have HGA := Lib.hid hgA
  clear hgA hrA hrB
  generalize w.heap.size + 1 = bz at b0 b1 b2 ⊢
  generalize w.heap.size = bx at a0 a1 a2 ⊢
  cases A1 with
  | true =>
    cases A2 with
    | true =>
      go_wp2_with fail
      refine (HE.out wA HGA.out).mono ?_
      rintro e w1 ⟨rfl, hg⟩
      have HG := Lib.hid hg
      clear hg a0 a1 a2 b0 b1 b2
      go_wp2_with fail
      go_ret
      exact ⟨rfl, HGA.out.trans HG.out⟩
    | false =>
      go_wp2_with fail
      go_ret
      exact ⟨rfl, HGA.out⟩
  | false =>
    go_wp2_with fail
    go_ret
    exact ⟨rfl, HGA.out⟩
set_option maxRecDepth 100000 in
set_option maxHeartbeats 2000000 in
theorem sameR_any (ia va ib vb : Int) (v u : Value) (l m : List En) (w : World) (hv : Rws 4 enC v l w) (hu : Rws 4 enC u m w) (hl : l.length ≤ 9223372036854775806) :
    Calls Tryz.prog 18 #[.agg #[.int .i64 ia, .int .i64 va, v], .agg #[.int .i64 ib, .int .i64 vb, u]] w fun e w' => e = .returned (.bool (sameD ia va l ib vb m)) ∧ Gr w w' := by
  obtain ⟨p, c, rfl⟩ := hv.shape
  obtain ⟨p', c', rfl⟩ := hu.shape
  have HV0 := Lib.hid hv
  have HU0 := Lib.hid hu
  clear hv hu
  unfold sameD
  obtain ⟨A1, q1⟩ : ∃ A, decide (ia = ib) = A := ⟨_, rfl⟩
  obtain ⟨A2, q2⟩ : ∃ A, decide (va = vb) = A := ⟨_, rfl⟩
  obtain ⟨B, hB⟩ : ∃ A, decide (l = m) = A := ⟨_, rfl⟩
  rw [q1, q2, hB]
  have t1 : (ia != ib) = !A1 := by rw [← q1]; rfl
  have t2 : (va != vb) = !A2 := by rw [← q2]; rfl
  have HB := Lib.hid hB
  clear q1 q2 hB
  go_enter Tryz.func18, Tryz.ntmps18
  go_upto_region 1 with fail
  refine wp_gen (F := fun z => Gr w z ∧ z.heap[w.heap.size]? = some (.cells #[.int .i64 ia, .int .i64 va, .slice p l.length c] 24 (0, 0)) ∧ z.heap[w.heap.size + 1]? = some (.cells #[.int .i64 ib, .int .i64 vb, .slice p' m.length c'] 24 (0, 0))) ⟨(Gr.alloc _ _).trans (Gr.alloc _ _), (Gr.alloc _ _).block (heap_alloc_new _ _), by
    have h := heap_alloc_new (w.alloc (.cells #[.int .i64 ia, .int .i64 va, .slice p l.length c] 24)) (.cells #[.int .i64 ib, .int .i64 vb, .slice p' m.length c'] 24)
    simpa using h⟩ ?_
  rintro wA ⟨hgA, hrA, hrB⟩
  obtain ⟨a0, a1, a2⟩ := row3 hrA
  obtain ⟨b0, b1, b2⟩ := row3 hrB
  have HGA := Lib.hid hgA
  clear hgA hrA hrB
  generalize w.heap.size + 1 = bz at b0 b1 b2 ⊢
  generalize w.heap.size = bx at a0 a1 a2 ⊢
  have HV := Lib.hid (HV0.out.gr HGA.out)
  have HU := Lib.hid (HU0.out.gr HGA.out)
  clear HV0 HU0
  cases A1 with
  | true =>
    cases A2 with
    | true =>
      by_cases hll : l.length = m.length
      · have t3 : ((l.length : Int) != (m.length : Int)) = false := by rw [hll]; simp
        go_wp2_with fail
        go_loopw [5] (fun v5 W => ∃ k : Nat, k ≤ l.length ∧ v5 = .int .i64 (k : Int) ∧ Hid (Gr wA W) ∧ Hid (l.take k = m.take k)) (fun v5 _ => l.length - (intOf v5).toNat)
        case atStart => exact ⟨0, Nat.zero_le _, rfl, Lib.hid (Gr.refl _), Lib.hid (by simp)⟩
        case round =>
          obtain ⟨k, hk, rfl, HG, HE⟩ := hrel
          have n2 := HG.out.cell a2
          have m2 := HG.out.cell b2
          by_cases hlt : k < l.length
          · have ht : decide (k < l.length) = true := decide_eq_true hlt
            have ht' : decide ((k : Int) < (l.length : Int)) = true := decide_eq_true (by omega)
            have hlm : k < m.length := by omega
            obtain ⟨x, hx⟩ : ∃ x, l[k]? = some x := ⟨_, List.getElem?_eq_getElem hlt⟩
            obtain ⟨y, hy⟩ : ∃ y, m[k]? = some y := ⟨_, List.getElem?_eq_getElem hlm⟩
            obtain ⟨g, off, rfl, hlc, hc⟩ := (HV.out.gr HG.out).at_ hx
            obtain ⟨g', off', rfl, hlc', hc'⟩ := (HU.out.gr HG.out).at_ hy
            have HX := Lib.hid hx
            have HY := Lib.hid hy
            have hc0 := hc 0 _ rfl
            have hc1 := hc 1 _ rfl
            have hc2 := hc 2 _ rfl
            have hc3 := hc 3 _ rfl
            rw [Nat.add_zero] at hc0
            rw [← Nat.add_assoc] at hc1 hc2 hc3
            have kc0 := hc' 0 _ rfl
            have kc1 := hc' 1 _ rfl
            have kc2 := hc' 2 _ rfl
            have kc3 := hc' 3 _ rfl
            rw [Nat.add_zero] at kc0
            rw [← Nat.add_assoc] at kc1 kc2 kc3
            have i0 : (0 : Int) ≤ (k : Int) := by omega
            have i1 : (k : Int) < (l.length : Int) := by omega
            have i2 : (k : Int) < (m.length : Int) := by omega
            have hB0 : x ≠ y → B = false := fun h => by
              rw [← HB.out]
              exact decide_eq_false (fun e => h (by
                have h1 := HX.out
                rw [e, HY.out] at h1
                exact (Option.some.inj h1).symm))
            have hB1 : x = y → l.take (k + 1) = m.take (k + 1) := fun h => by
              rw [List.take_add_one, List.take_add_one, HE.out, HX.out, HY.out, h]
            have HB0 := Lib.hid hB0
            have HB1 := Lib.hid hB1
            obtain ⟨xp, xf, xn, xd⟩ := x
            obtain ⟨yp, yf, yn, yd⟩ := y
            simp only at hc0 hc1 hc2 hc3 kc0 kc1 kc2 kc3
            clear hc hc' hx hy hB0 hB1 HX HY
            go_upto_region 6 with fail
            by_cases z1 : xp.toList = yp.toList
            · by_cases z2 : xf = yf
              · by_cases z3 : xn = yn
                · by_cases z4 : xd.toList = yd.toList
                  · have HE1 : Hid (l.take (k + 1) = m.take (k + 1)) := Lib.hid (HB1.out (by rw [str_inj z1, z2, z3, str_inj z4]))
                    clear HB0 HB1
                    go_quiet (fail)
                    rename_i nq
                    have hg5 : Gr wr (wr.drewN nq) := ⟨rfl, rfl, rfl, Nat.le_refl _, fun _ _ => rfl⟩
                    generalize wr.drewN nq = w5 at hg5 ⊢
                    have HG5 := Lib.hid (HG.out.trans hg5)
                    clear hg5 HG hc0 kc0 hc1 kc1 hc2 kc2 hc3 kc3 n2 m2
                    go_wp2_with fail
                    go_roundw
                    case rel => exact ⟨k + 1, by omega, by go_num, HG5, HE1⟩
                    case measure => simp [intOf]; omega
                  · obtain rfl : B = false := HB0.out (fun e => by injection e with e1 e2 e3 e4; exact z4 (by rw [e4]))
                    clear HB0 HB1 HE
                    go_quiet (fail)
                    rename_i nq
                    have hg5 : Gr wr (wr.drewN nq) := ⟨rfl, rfl, rfl, Nat.le_refl _, fun _ _ => rfl⟩
                    generalize wr.drewN nq = w5 at hg5 ⊢
                    have HG5 := Lib.hid (HG.out.trans hg5)
                    clear hg5 HG hc0 kc0 hc1 kc1 hc2 kc2 hc3 kc3 n2 m2
                    go_wp2_with fail
                    go_ret
                    exact ⟨rfl, HGA.out.trans HG5.out⟩
                · obtain rfl : B = false := HB0.out (fun e => by injection e with e1 e2 e3 e4; exact z3 e3)
                  clear HB0 HB1 HE
                  go_quiet (fail)
                  rename_i nq
                  have hg5 : Gr wr (wr.drewN nq) := ⟨rfl, rfl, rfl, Nat.le_refl _, fun _ _ => rfl⟩
                  generalize wr.drewN nq = w5 at hg5 ⊢
                  have HG5 := Lib.hid (HG.out.trans hg5)
                  clear hg5 HG hc0 kc0 hc1 kc1 hc2 kc2 hc3 kc3 n2 m2
                  go_wp2_with fail
                  go_ret
                  exact ⟨rfl, HGA.out.trans HG5.out⟩
              · obtain rfl : B = false := HB0.out (fun e => by injection e with e1 e2 e3 e4; exact z2 e2)
                clear HB0 HB1 HE
                go_quiet (fail)
                rename_i nq
                have hg5 : Gr wr (wr.drewN nq) := ⟨rfl, rfl, rfl, Nat.le_refl _, fun _ _ => rfl⟩
                generalize wr.drewN nq = w5 at hg5 ⊢
                have HG5 := Lib.hid (HG.out.trans hg5)
                clear hg5 HG hc0 kc0 hc1 kc1 hc2 kc2 hc3 kc3 n2 m2
                go_wp2_with fail
                go_ret
                exact ⟨rfl, HGA.out.trans HG5.out⟩
            · obtain rfl : B = false := HB0.out (fun e => by injection e with e1 e2 e3 e4; exact z1 (by rw [e1]))
              clear HB0 HB1 HE
              go_quiet (fail)
              rename_i nq
              have hg5 : Gr wr (wr.drewN nq) := ⟨rfl, rfl, rfl, Nat.le_refl _, fun _ _ => rfl⟩
              generalize wr.drewN nq = w5 at hg5 ⊢
              have HG5 := Lib.hid (HG.out.trans hg5)
              clear hg5 HG hc0 kc0 hc1 kc1 hc2 kc2 hc3 kc3 n2 m2
              go_wp2_with fail
              go_ret
              exact ⟨rfl, HGA.out.trans HG5.out⟩
          · have ht : decide (k < l.length) = false := decide_eq_false hlt
            have ht' : decide ((k : Int) < (l.length : Int)) = false := decide_eq_false (by omega)
            obtain rfl : B = true := by
              rw [← HB.out]
              have h := HE.out
              rw [List.take_of_length_le (by omega), List.take_of_length_le (by omega)] at h
              exact decide_eq_true h
            go_wp2_with fail
            go_ret
            exact ⟨rfl, HGA.out.trans HG.out⟩
      · have t3 : ((l.length : Int) != (m.length : Int)) = true := by rw [bne_iff_ne]; omega
        obtain rfl : B = false := by rw [← HB.out]; exact decide_eq_false (fun e => hll (by rw [e]))
        go_wp2_with fail
        go_ret
        exact ⟨rfl, HGA.out⟩
    | false =>
      go_wp2_with fail
      go_ret
      exact ⟨rfl, HGA.out⟩
  | false =>
    go_wp2_with fail
    go_ret
    exact ⟨rfl, HGA.out⟩
end
end Go.Proofs.YtjnnhhengpinmaaGreatDoor
