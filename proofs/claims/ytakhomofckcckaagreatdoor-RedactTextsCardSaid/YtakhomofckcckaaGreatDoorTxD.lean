/- The texts and the marks of a document as a property. -/
import Derived.Test.YtakhomofckcckaaGreatDoorTxC
import Derived.Test.YtakhomofckcckaaGreatDoorMP
import Derived.Test.YtakhomofckcckaaGreatDoorMU
namespace Go.Proofs.YtakhomofckcckaaGreatDoor
open Go Go.RowKit Go.Shelf
attribute [local go_sem] gAt gUpon
attribute [local simp] Gr.refl Gr.alloc

def txB (x : Ln) : List UInt8 := (numB x.1.size ++ x.1).data.toList
def mkB (x : Ln) : List UInt8 := (numB x.2.toNat).data.toList
def preB (n : Nat) : List UInt8 := (numB n).data.toList
def propB (f : Ln → List UInt8) (n : Nat) (ls : List Ln) : List UInt8 := preB n ++ ls.flatMap f
theorem lnB_sz {x : Ln} (h : lnB x = true) : x.1.size ≤ 80 ∧ 0 ≤ x.2 ∧ x.2 ≤ 7 := by
  have h1 : leafB ⟨true, x.1, x.2, ⟨(Array.replicate 16 0)⟩, ⟨#[]⟩⟩ = true := by
    unfold leafB
    rw [if_pos rfl]
    simp [h]
    exact ⟨rfl, by decide⟩
  have h2 := leafB_shown h1 rfl
  exact ⟨h2.2.2.1, h2.2.2.2.1, h2.2.2.2.2⟩
theorem txB_len {x : Ln} (h : lnB x = true) : (txB x).length ≤ 90 := by
  have h1 := (lnB_sz h).1
  have h2 := numB_size x.1.size
  unfold txB
  rw [Array.length_toList]
  show (numB x.1.size ++ x.1).size ≤ 90
  rw [ByteArray.size_append]; omega
theorem mkB_len {x : Ln} : (mkB x).length ≤ 90 := by
  have h2 := numB_size x.2.toNat
  unfold mkB
  rw [Array.length_toList]
  show (numB x.2.toNat).size ≤ 90
  omega
theorem preB_len (n : Nat) : (preB n).length ≤ 10 := by
  unfold preB
  rw [Array.length_toList]
  exact numB_size n
theorem flat_len90 {f : Ln → List UInt8} : ∀ (ls : List Ln), (∀ x ∈ ls, (f x).length ≤ 90) → (ls.flatMap f).length ≤ 90 * ls.length
  | [], _ => by simp
  | x :: ls, h => by
    rw [List.flatMap_cons, List.length_append, List.length_cons]
    have h1 := h x List.mem_cons_self
    have h2 := flat_len90 ls (fun y hy => h y (List.mem_cons_of_mem _ hy))
    omega
theorem prop_step {f : Ln → List UInt8} {n i : Nat} {ls : List Ln} {x : Ln} (h : ls[i]? = some x) : propB f n (ls.take (i + 1)) = propB f n (ls.take i) ++ f x := by
  unfold propB
  rw [List.take_add_one, h, Option.toList_some, List.flatMap_append, ← List.append_assoc]
  simp
theorem prop_len {f : Ln → List UInt8} {n i : Nat} {ls : List Ln} (hf : ∀ x ∈ ls, (f x).length ≤ 90) (hl : ls.length ≤ 64) : (propB f n (ls.take i)).length ≤ 10000 := by
  unfold propB
  rw [List.length_append]
  have h1 := preB_len n
  have h2 := flat_len90 (f := f) (ls.take i) (fun x hx => hf x (List.mem_of_mem_take hx))
  rw [List.length_take] at h2
  omega
theorem Kpt.rws {α : Type} {s : Nat} {enc : α → List Value} (hs : ∀ x, (enc x).length = s) (h0 : 0 < s) {v : Value} {l : List α} {w0 w x : World} {K : Nat → Prop} (h : Rws s enc v l w0) (hg : Gr w0 w) (hK : ∀ k, k < w0.heap.size → K k) (hk : Kpt K w x) : Rws s enc v l x := by
  rcases h with h | ⟨g, off, cap, rfl, h1, h2⟩
  · exact .inl h
  · by_cases hl : l.length = 0
    · exact .inl ⟨List.eq_nil_of_length_eq_zero hl, _, _, by rw [hl]⟩
    · have hx : l[0]? = some (l[0]'(by omega)) := List.getElem?_eq_getElem (by omega)
      have hu : (enc (l[0]'(by omega)))[0]? = some ((enc (l[0]'(by omega)))[0]'(by rw [hs]; exact h0)) := List.getElem?_eq_getElem (by rw [hs]; exact h0)
      have hlt := World.block_lt_of_cell? w0 _ (h2 0 _ 0 _ hx hu)
      simp only at hlt
      refine .inr ⟨g, off, cap, rfl, h1, fun i y j u hy hu => ?_⟩
      have h3 := hg.cell (h2 i y j u hy hu)
      rw [World.cell?_of_block (w := w) (hk.2.2.2.2 g (hK g hlt))]
      exact h3
/-- what a property's function does -/
def WrP (f : Ln → List UInt8) (K : Nat → Prop) (b : Nat) (ls : List Ln) (w : World) (e : Ending) (w' : World) : Prop := e = .returned (.tuple #[]) ∧ Bld K b (propB f ls.length ls) w' ∧ Kpt K w w'
set_option maxRecDepth 100000 in
set_option maxHeartbeats 4000000 in
theorem prop1_bld (K : Nat → Prop) (b : Nat) (v1 v2 : Value) (wd : Int) (bits : ByteArray) (ls : List Ln) (w0 w : World) (hr : Rws 2 lnC v1 ls w0) (hg0 : Gr w0 w) (hK0 : ∀ k, k < w0.heap.size → K k) (hB : Bld K b [] w) (hl : ls.length ≤ 64) (hls : ∀ x ∈ ls, lnB x = true) :
    Calls Tryz.prog 85 #[.agg #[v1, v2, .int .i64 wd, .string bits], .pointer (some ⟨b, 0, none⟩)] w (WrP txB K b ls w) := by
  have HR := Lib.hid hr
  have HG0 := Lib.hid hg0
  have HK0 := Lib.hid hK0
  have HB := Lib.hid hB
  have HLs := Lib.hid hls
  obtain ⟨p1, c1, rfl⟩ := hr.shape
  clear hr hg0 hK0 hB hls
  go_enter Tryz.func85, Tryz.ntmps85
  go_upto_region 1 with fail
  obtain ⟨gB, hgB⟩ : ∃ g, g = w.heap.size := ⟨_, rfl⟩
  refine wp_gen (F := fun y => Gr w y ∧ y.heap[gB]? = some (.cells #[.slice p1 ls.length c1, v2, .int .i64 wd, .string bits] 104 (0, 0))) ⟨Gr.alloc _ _, by rw [hgB]; exact heap_alloc_new _ _⟩ ?_
  rw [← hgB]
  rintro wA ⟨hgA, hrA⟩
  have hgb : gB < wA.heap.size := (Array.getElem?_eq_some_iff.1 hrA).1
  have HBA : Hid (Bld (fun k => K k ∨ k = gB) b [] wA) := Lib.hid (HB.out.add hgA (fun k hk => by
    rcases hk with hk | rfl
    · exact .inl hk
    · exact .inr ⟨by rw [hgB]; exact Nat.le_refl _, hgb⟩))
  have HGA : Hid (Gr w wA) := Lib.hid hgA
  have HRA := Lib.hid hrA
  have HKw : Hid (∀ k, K k → k < w.heap.size) := Lib.hid (fun k hk => HB.out.lt hk)
  obtain ⟨k0, k1, k2, k3⟩ := row4 hrA
  clear hgA hrA hgb HB k1 k2 k3 hgB
  go_wp2_with fail
  refine (number_bld (fun k => (K k ∨ k = gB) ∨ k = wA.heap.size) b [] ls.length wA.heap.size _ (HBA.out.add (Gr.alloc _ _) (fun k hk => ?k1)) (.inr rfl) (heap_alloc_new _ _) (by omega) (by simp)).mono ?_
  case k1 =>
    rcases hk with hk | rfl
    · exact .inl hk
    · exact .inr ⟨Nat.le_refl _, by simp⟩
  rintro e w1 ⟨rfl, hb1, hk1⟩
  have HB1 : Hid (Bld (fun k => K k ∨ k = gB) b (propB txB ls.length (ls.take 0)) w1) := Lib.hid (by
    have h := hb1.sub (K' := fun k => K k ∨ k = gB) (fun k hk => .inl hk)
    unfold propB preB
    simpa using h)
  have HK1 : Hid (Kpt (fun k => K k ∨ k = gB) wA w1) := Lib.hid ((Kpt.of_gr (Gr.alloc _ _) (fun k hk => HBA.out.lt hk)).trans (hk1.sub (fun k hk => .inl hk)))
  have hr1 := HK1.out.block (.inr rfl) HRA.out
  obtain ⟨d0, -, -, -⟩ := row4 hr1
  clear hb1 hk1 k0 hr1
  go_wp2_with fail
  go_loopw [17] (fun v17 W => ∃ i : Nat, i ≤ ls.length ∧ v17 = .int .i64 (i : Int) ∧ Hid (Bld (fun k => K k ∨ k = gB) b (propB txB ls.length (ls.take i)) W) ∧ Hid (Kpt (fun k => K k ∨ k = gB) wA W)) (fun v17 _ => ls.length - (intOf v17).toNat)
  case atStart => exact ⟨0, Nat.zero_le _, rfl, HB1, HK1⟩
  clear HB1 HK1 d0
  case round =>
    obtain ⟨i, hi, rfl, HBi, HKi⟩ := hrel
    by_cases hlt : i < ls.length
    · have ht : decide (i < ls.length) = true := decide_eq_true hlt
      obtain ⟨x, hx⟩ : ∃ x, ls[i]? = some x := ⟨_, List.getElem?_eq_getElem hlt⟩
      have HSt := Lib.hid (prop_step (f := txB) (n := ls.length) hx)
      have HLn : Hid ((propB txB ls.length (ls.take i)).length ≤ 10000) := Lib.hid (prop_len (fun x hx => txB_len (HLs.out x hx)) hl)
      have hsz := (lnB_sz (HLs.out x (List.mem_of_getElem? hx))).1
      obtain ⟨g, off, rfl, hlc, hc⟩ := (Kpt.rws (s := 2) (enc := lnC) (fun _ => rfl) (by decide) HR.out (HG0.out.trans HGA.out) (fun k hk => (.inl (HK0.out k hk))) HKi.out).at_ hx
      have hc0 := hc 0 _ rfl
      have hc1 := hc 1 _ rfl
      rw [Nat.add_zero] at hc0
      rw [← Nat.add_assoc] at hc1
      obtain ⟨t, m⟩ := x
      simp only at hc0 hc1 hsz
      have HSt2 : Hid (propB txB ls.length (ls.take (i + 1)) = propB txB ls.length (ls.take i) ++ (numB t.size ++ t).data.toList) := HSt
      clear hc hx HSt
      go_wp2_with fail
      refine (text_bld (fun k => K k ∨ k = gB) b (propB txB ls.length (ls.take i)) t _ (HBi.out.gr (Gr.alloc _ _)) (by omega) (by have := HLn.out; omega)).mono ?_
      rintro e w2 ⟨rfl, hb2, hk2⟩
      have HB2 : Hid (Bld (fun k => K k ∨ k = gB) b (propB txB ls.length (ls.take (i + 1))) w2) := Lib.hid (by rw [HSt2.out]; exact hb2)
      have HK2 : Hid (Kpt (fun k => K k ∨ k = gB) wA w2) := Lib.hid (HKi.out.trans ((Kpt.of_gr (Gr.alloc _ _) (fun k hk => HBi.out.lt hk)).trans hk2))
      clear hb2 hk2 HBi HKi hc0 hc1 HSt2 HLn
      go_wp2_with fail
      go_roundw
      case rel => exact ⟨i + 1, by omega, by go_num, HB2, HK2⟩
      case measure => simp [intOf]; omega
    · have ht : decide (i < ls.length) = false := decide_eq_false hlt
      have HFin : Hid (WrP txB K b ls w (.returned (.tuple #[])) wr) := Lib.hid (by
        have h := HBi.out
        rw [List.take_of_length_le (by omega)] at h
        exact ⟨rfl, h.sub (fun k hk => .inl hk), (Kpt.of_gr HGA.out HKw.out).trans (HKi.out.sub (fun k hk => .inl hk))⟩)
      clear HBi HKi
      go_wp2_with fail
      go_end0
      exact HFin.out
set_option maxRecDepth 100000 in
set_option maxHeartbeats 4000000 in
theorem prop2_bld (K : Nat → Prop) (b : Nat) (v1 v2 : Value) (wd : Int) (bits : ByteArray) (ls : List Ln) (w0 w : World) (hr : Rws 2 lnC v1 ls w0) (hg0 : Gr w0 w) (hK0 : ∀ k, k < w0.heap.size → K k) (hB : Bld K b [] w) (hl : ls.length ≤ 64) (hls : ∀ x ∈ ls, lnB x = true) :
    Calls Tryz.prog 88 #[.agg #[v1, v2, .int .i64 wd, .string bits], .pointer (some ⟨b, 0, none⟩)] w (WrP mkB K b ls w) := by
  have HR := Lib.hid hr
  have HG0 := Lib.hid hg0
  have HK0 := Lib.hid hK0
  have HB := Lib.hid hB
  have HLs := Lib.hid hls
  obtain ⟨p1, c1, rfl⟩ := hr.shape
  clear hr hg0 hK0 hB hls
  go_enter Tryz.func88, Tryz.ntmps88
  go_upto_region 1 with fail
  obtain ⟨gB, hgB⟩ : ∃ g, g = w.heap.size := ⟨_, rfl⟩
  refine wp_gen (F := fun y => Gr w y ∧ y.heap[gB]? = some (.cells #[.slice p1 ls.length c1, v2, .int .i64 wd, .string bits] 104 (0, 0))) ⟨Gr.alloc _ _, by rw [hgB]; exact heap_alloc_new _ _⟩ ?_
  rw [← hgB]
  rintro wA ⟨hgA, hrA⟩
  have hgb : gB < wA.heap.size := (Array.getElem?_eq_some_iff.1 hrA).1
  have HBA : Hid (Bld (fun k => K k ∨ k = gB) b [] wA) := Lib.hid (HB.out.add hgA (fun k hk => by
    rcases hk with hk | rfl
    · exact .inl hk
    · exact .inr ⟨by rw [hgB]; exact Nat.le_refl _, hgb⟩))
  have HGA : Hid (Gr w wA) := Lib.hid hgA
  have HRA := Lib.hid hrA
  have HKw : Hid (∀ k, K k → k < w.heap.size) := Lib.hid (fun k hk => HB.out.lt hk)
  obtain ⟨k0, k1, k2, k3⟩ := row4 hrA
  clear hgA hrA hgb HB k1 k2 k3 hgB
  go_wp2_with fail
  refine (number_bld (fun k => (K k ∨ k = gB) ∨ k = wA.heap.size) b [] ls.length wA.heap.size _ (HBA.out.add (Gr.alloc _ _) (fun k hk => ?k1)) (.inr rfl) (heap_alloc_new _ _) (by omega) (by simp)).mono ?_
  case k1 =>
    rcases hk with hk | rfl
    · exact .inl hk
    · exact .inr ⟨Nat.le_refl _, by simp⟩
  rintro e w1 ⟨rfl, hb1, hk1⟩
  have HB1 : Hid (Bld (fun k => K k ∨ k = gB) b (propB mkB ls.length (ls.take 0)) w1) := Lib.hid (by
    have h := hb1.sub (K' := fun k => K k ∨ k = gB) (fun k hk => .inl hk)
    unfold propB preB
    simpa using h)
  have HK1 : Hid (Kpt (fun k => K k ∨ k = gB) wA w1) := Lib.hid ((Kpt.of_gr (Gr.alloc _ _) (fun k hk => HBA.out.lt hk)).trans (hk1.sub (fun k hk => .inl hk)))
  have hr1 := HK1.out.block (.inr rfl) HRA.out
  obtain ⟨d0, -, -, -⟩ := row4 hr1
  clear hb1 hk1 k0 hr1
  go_wp2_with fail
  go_loopw [17] (fun v17 W => ∃ i : Nat, i ≤ ls.length ∧ v17 = .int .i64 (i : Int) ∧ Hid (Bld (fun k => K k ∨ k = gB) b (propB mkB ls.length (ls.take i)) W) ∧ Hid (Kpt (fun k => K k ∨ k = gB) wA W)) (fun v17 _ => ls.length - (intOf v17).toNat)
  case atStart => exact ⟨0, Nat.zero_le _, rfl, HB1, HK1⟩
  clear HB1 HK1 d0
  case round =>
    obtain ⟨i, hi, rfl, HBi, HKi⟩ := hrel
    by_cases hlt : i < ls.length
    · have ht : decide (i < ls.length) = true := decide_eq_true hlt
      obtain ⟨x, hx⟩ : ∃ x, ls[i]? = some x := ⟨_, List.getElem?_eq_getElem hlt⟩
      have HSt := Lib.hid (prop_step (f := mkB) (n := ls.length) hx)
      have HLn : Hid ((propB mkB ls.length (ls.take i)).length ≤ 10000) := Lib.hid (prop_len (fun x hx => mkB_len) hl)
      obtain ⟨-, hm0, hm7⟩ := lnB_sz (HLs.out x (List.mem_of_getElem? hx))
      obtain ⟨g, off, rfl, hlc, hc⟩ := (Kpt.rws (s := 2) (enc := lnC) (fun _ => rfl) (by decide) HR.out (HG0.out.trans HGA.out) (fun k hk => (.inl (HK0.out k hk))) HKi.out).at_ hx
      have hc0 := hc 0 _ rfl
      have hc1 := hc 1 _ rfl
      rw [Nat.add_zero] at hc0
      rw [← Nat.add_assoc] at hc1
      obtain ⟨t, m⟩ := x
      simp only at hc0 hc1 hm0 hm7
      obtain ⟨k, rfl⟩ : ∃ k : Nat, m = (k : Int) := ⟨m.toNat, by omega⟩
      have hk7 : k ≤ 7 := by omega
      have HSt2 : Hid (propB mkB ls.length (ls.take (i + 1)) = propB mkB ls.length (ls.take i) ++ (numB k).data.toList) := HSt
      clear hc hx HSt hm0 hm7
      go_wp2_with fail
      refine (number_bld (fun j => (K j ∨ j = gB) ∨ j = wr.heap.size + 1) b (propB mkB ls.length (ls.take i)) k (wr.heap.size + 1) _ (HBi.out.add ((Gr.alloc _ _).trans (Gr.alloc _ _)) (fun k hk => ?k2)) (.inr rfl) ?k3 (by omega) (by have := HLn.out; omega)).mono ?_
      case k2 =>
        rcases hk with hk | rfl
        · exact .inl hk
        · exact .inr ⟨by omega, by simp⟩
      case k3 =>
        have h := heap_alloc_new (wr.alloc (.cells #[.string t, .int .i64 (k : Int)] 33)) (.cells #[.int .i64 (k : Int)] 3)
        simpa using h
      rintro e w2 ⟨rfl, hb2, hk2⟩
      have HB2 : Hid (Bld (fun k => K k ∨ k = gB) b (propB mkB ls.length (ls.take (i + 1))) w2) := Lib.hid (by rw [HSt2.out]; exact hb2.sub (fun k hk => .inl hk))
      have HK2 : Hid (Kpt (fun k => K k ∨ k = gB) wA w2) := Lib.hid (HKi.out.trans ((Kpt.of_gr ((Gr.alloc _ _).trans (Gr.alloc _ _)) (fun k hk => HBi.out.lt hk)).trans (hk2.sub (fun k hk => .inl hk))))
      clear hb2 hk2 HBi HKi hc0 hc1 HSt2 HLn
      go_wp2_with fail
      go_roundw
      case rel => exact ⟨i + 1, by omega, by go_num, HB2, HK2⟩
      case measure => simp [intOf]; omega
    · have ht : decide (i < ls.length) = false := decide_eq_false hlt
      have HFin : Hid (WrP mkB K b ls w (.returned (.tuple #[])) wr) := Lib.hid (by
        have h := HBi.out
        rw [List.take_of_length_le (by omega)] at h
        exact ⟨rfl, h.sub (fun k hk => .inl hk), (Kpt.of_gr HGA.out HKw.out).trans (HKi.out.sub (fun k hk => .inl hk))⟩)
      clear HBi HKi
      go_wp2_with fail
      go_end0
      exact HFin.out
end Go.Proofs.YtakhomofckcckaaGreatDoor
