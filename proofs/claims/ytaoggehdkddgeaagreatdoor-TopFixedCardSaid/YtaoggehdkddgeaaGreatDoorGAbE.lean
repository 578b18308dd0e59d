/- Package abstraction: writing a value, at the fixed example. -/
import Derived.Test.YtaoggehdkddgeaaGreatDoorGAbA
import Derived.Test.YtaoggehdkddgeaaGreatDoorND
section
namespace Go.Proofs.YtaoggehdkddgeaaGreatDoor
open Go Go.RowKit Go.Shelf
attribute [local go_sem] gAt gUpon
attribute [local simp] Gr.refl Gr.alloc

/-- the bytes written so far, in a variable at b; apart from the blocks of K -/
def OutK (K : Nat → Prop) (b : Nat) (l : List UInt8) (w : World) : Prop :=
  ∃ v, w.heap[b]? = some (.cells #[v] 73 (0, 0)) ∧ w.ownsRowF 0 5 1 v l.length (Lib.byteCells l) ∧ v.ownBlock ≠ some b ∧ ∀ k, K k → k < w.heap.size ∧ k ≠ b ∧ v.ownBlock ≠ some k
theorem OutK.gr {K : Nat → Prop} {b : Nat} {l : List UInt8} {w x : World} (h : OutK K b l w) (hg : Gr w x) : OutK K b l x := by
  obtain ⟨v, hb, ho, hn, hk⟩ := h
  exact ⟨v, hg.block hb, rowF_block ho (fun k hk => (show Below w.heap.size w x from hg).block k (rowF_lt ho hk)), hn, fun k hkk => ⟨Nat.lt_of_lt_of_le (hk k hkk).1 hg.size, (hk k hkk).2⟩⟩
/-- new blocks are apart from it -/
theorem OutK.add {K K' : Nat → Prop} {b : Nat} {l : List UInt8} {w x : World} (h : OutK K b l w) (hg : Gr w x) (hs : ∀ k, K' k → K k ∨ (w.heap.size ≤ k ∧ k < x.heap.size)) : OutK K' b l x := by
  obtain ⟨v, hb, ho, hn, hk⟩ := h
  refine ⟨v, hg.block hb, rowF_block ho (fun k hk => (show Below w.heap.size w x from hg).block k (rowF_lt ho hk)), hn, fun k hkk => ?_⟩
  rcases hs k hkk with h1 | ⟨h1, h2⟩
  · exact ⟨Nat.lt_of_lt_of_le (hk k h1).1 hg.size, (hk k h1).2⟩
  · refine ⟨h2, fun e => ?_, fun e => ?_⟩
    · have := (Array.getElem?_eq_some_iff.1 hb).1; omega
    · have := rowF_lt ho e; omega
/-- one append -/
theorem outK_put {K : Nat → Prop} {b : Nat} {l : List UInt8} {s : ByteArray} {v v' : Value} {w1 w2 : World} (hb : w1.heap[b]? = some (.cells #[v] 73 (0, 0))) (hN : v.ownBlock ≠ some b) (hKK : ∀ k, K k → k < w1.heap.size ∧ k ≠ b ∧ v.ownBlock ≠ some k)
    (hown' : w2.ownsRowF 0 5 1 v' (l.length + s.size) (Lib.byteCells l ++ Lib.strCells s)) (hgrow : w1.grownBy w2 v.ownBlock) (hblk : ∀ k, v'.ownBlock = some k → v.ownBlock = some k ∨ w1.heap.size ≤ k) :
    w2.heap[b]? = some (.cells #[v] 73 (0, 0)) ∧ OutK K b (l ++ s.data.toList) (w2.setCell ⟨b, 0, none⟩ v') ∧ Kpt K w1 (w2.setCell ⟨b, 0, none⟩ v') := by
  have hlt : b < w1.heap.size := (Array.getElem?_eq_some_iff.1 hb).1
  have hb2 : w2.heap[b]? = some (.cells #[v] 73 (0, 0)) := (hgrow.block b hlt (fun e => hN e.symm)).trans hb
  have hc : Chg (some b) w2 (w2.setCell ⟨b, 0, none⟩ v') := setCells_chg b [v'] 0 w2
  have hne2 : v'.ownBlock ≠ some b := fun e => by
    rcases hblk b e with h | h
    · exact hN h
    · omega
  refine ⟨hb2, ⟨v', by rw [heap_setCell_same _ _ _ _ _ _ hb2]; rfl, ?_, hne2, fun k hk => ?_⟩, ⟨?_, ?_, ?_, ?_, fun k hk => ?_⟩⟩
  · rw [byteCells_app, len_app]
    exact rowF_block hown' (fun k hk => hc.at_ (rowF_lt hown' hk) (fun e => by injection e with e; subst e; exact hne2 hk))
  · obtain ⟨h1, h2, h3⟩ := hKK k hk
    refine ⟨Nat.lt_of_lt_of_le h1 (Nat.le_trans hgrow.size hc.size), h2, fun e => ?_⟩
    rcases hblk k e with h | h
    · exact h3 h
    · omega
  · exact hc.1.trans hgrow.os
  · exact hc.2.1.trans hgrow.tape
  · exact hc.2.2.1.trans hgrow.output
  · exact Nat.le_trans hgrow.size hc.size
  · obtain ⟨h1, h2, h3⟩ := hKK k hk
    exact (hc.at_ (Nat.lt_of_lt_of_le h1 hgrow.size) (fun e => by injection e with e; exact h2 e)).trans (hgrow.block k h1 (fun e => h3 e.symm))
theorem rowF_slice {w : World} {e : TypeId} {s n : Nat} {v : Value} {xs : List Value} (h : w.ownsRowF 0 e s v n xs) : ∃ ao n' cap, v = .slice ao n' cap := by
  rcases h.2 with ⟨hv, _⟩ | ⟨g, cap, cur, fz, hv, _⟩
  · exact ⟨_, _, _, hv⟩
  · exact ⟨_, _, _, hv⟩
set_option maxRecDepth 100000 in
set_option maxHeartbeats 1000000 in
theorem text_out (K : Nat → Prop) (b : Nat) (l : List UInt8) (s : ByteArray) (w : World) (h : OutK K b l w) (hs : s.size ≤ 1000) (hl : l.length ≤ 1000) :
    Calls Tryz.prog 131 #[.string s, .pointer (some ⟨b, 0, none⟩)] w fun e w' => e = .returned (.tuple #[]) ∧ OutK K b (l ++ (putD s).data.toList) w' ∧ Kpt K w w' := by
  obtain ⟨i0, hi, hz0, hz1, hz2⟩ := info_parts infoU8B
  have HI := Lib.hid hi
  have HI0 := Lib.hid hz0
  have HI1 := Lib.hid hz1
  have HI2 := Lib.hid hz2
  have hn := numB_size s.size
  have HP := Lib.hid (putString_any s (by omega) w)
  have HS : Hid ((putD s).size ≤ 2000) := Lib.hid (by
    rw [show putD s = numB s.size ++ s from rfl, ByteArray.size_append]; omega)
  have HB := Lib.hid h
  have HL := Lib.hid hl
  clear h hn hs hl hi hz0 hz1 hz2
  generalize putD s = S at HP HS ⊢
  go_enter Tryz.func131, Tryz.ntmps131
  go_wp2_with fail
  refine HP.out.mono ?_
  rintro e w1 ⟨rfl, hg⟩
  obtain ⟨v, hb, hown, hN, hKK⟩ := HB.out.gr hg
  obtain ⟨ao, n', cap, rfl⟩ := rowF_slice hown
  have HR := Lib.hid hb
  have HO := Lib.hid hown
  have HN := Lib.hid hN
  have HKK := Lib.hid hKK
  have HK1 : Hid (Kpt K w w1) := Lib.hid (Kpt.of_gr hg (fun k hk => by obtain ⟨_, _, _, _, h2⟩ := HB.out; exact (h2 k hk).1))
  clear hg hown hN hKK HB HP
  have c0 : w1.cell? ⟨b, 0, none⟩ = some (.slice ao n' cap) := by rw [cell_of_row _ _ _ _ _ _ hb]; rfl
  clear hb
  go_wp2_with ((with_reducible show wpList _ _ _ (⟨some 12, _, _, _, _, _⟩ :: _) _ _); refine wpList_append_bldF _ rfl (.tmp 10) (.tmp 11) 73 9 rfl 5 i0 Tryz.underlying73 Tryz.underlying9 HI.out HI0.out HI1.out HI2.out (.slice ao n' cap) l.length (Lib.byteCells l) rfl HO.out S rfl ?c3 ?c4 ?_)
  case c3 => have h1 := HS.out; have h2 := HL.out; unfold maxLen; omega
  case c4 => have h1 := HS.out; have h2 := HL.out; omega
  intro v' w2 hown' hgrow hblk
  obtain ⟨hb2, hO, hK⟩ := outK_put HR.out HN.out HKK.out hown' hgrow hblk
  obtain ⟨ao', n2, cap', rfl⟩ := rowF_slice hown'
  have HFin := Lib.hid (And.intro hO (HK1.out.trans hK))
  have d0 : w2.cell? ⟨b, 0, none⟩ = some (.slice ao n' cap) := by rw [cell_of_row _ _ _ _ _ _ hb2]; rfl
  have f0 : w2.frozen? ⟨b, 0, none⟩ = false := frozen_of_row _ _ _ _ _ hb2
  clear hown' hgrow hblk hb2 hO hK HR HO HN HKK HK1 c0
  go_wp2_with fail
  go_end0
  exact ⟨rfl, HFin.out⟩
theorem put_none (b : Nat) (w : World) : Calls Tryz.prog 130 #[.slice none 0 0, .pointer (some ⟨b, 0, none⟩)] w fun e w' => e = .returned (.tuple #[]) ∧ w = w' := by
  go_enter Tryz.func130, Tryz.ntmps130
  go_wp2_with fail
  go_loopw [4, 5, 6, 9] (fun _ _ _ v9 W => v9 = .int .i64 0 ∧ w = W) (fun _ _ _ _ _ => 0)
  case atStart => exact ⟨rfl, rfl⟩
  case round =>
    obtain ⟨rfl, rfl⟩ := hrel
    go_wp2_with fail
    go_end0
    exact ⟨rfl, rfl⟩
set_option maxRecDepth 100000 in
set_option maxHeartbeats 1000000 in
theorem put_one (K : Nat → Prop) (b g : Nat) (w : World) (h : OutK K b [] w) (hc : w.cell? ⟨g, 0, none⟩ = some (.int .i64 1)) :
    Calls Tryz.prog 130 #[.slice (some ⟨g, 0, none⟩) 1 1, .pointer (some ⟨b, 0, none⟩)] w fun e w' => e = .returned (.tuple #[]) ∧ OutK K b (numB 1).data.toList w' ∧ Kpt K w w' := by
  obtain ⟨i0, hi, hz0, hz1, hz2⟩ := info_parts infoU8B
  have HI := Lib.hid hi
  have HI0 := Lib.hid hz0
  have HI1 := Lib.hid hz1
  have HI2 := Lib.hid hz2
  have hn := numB_size 1
  have HP := Lib.hid (fun y => putInt_any 1 (by decide) y)
  have HS := Lib.hid hn
  have HB := Lib.hid h
  have HC := Lib.hid hc
  clear h hn hc hi hz0 hz1 hz2
  generalize numB 1 = S at HP HS ⊢
  go_enter Tryz.func130, Tryz.ntmps130
  go_wp2_with fail
  go_loopw [4, 5, 6, 9] (fun _ _ _ v9 W => ∃ i : Nat, i ≤ 1 ∧ v9 = .int .i64 (i : Int) ∧ Hid ((i = 0 ∧ w = W) ∨ (i = 1 ∧ OutK K b S.data.toList W ∧ Kpt K w W))) (fun _ _ _ v9 _ => 1 - (intOf v9).toNat)
  case atStart => exact ⟨0, by omega, rfl, Lib.hid (.inl ⟨rfl, rfl⟩)⟩
  case round =>
    obtain ⟨i, hi, rfl, HG⟩ := hrel
    rcases (show i = 0 ∨ i = 1 by omega) with rfl | rfl
    · obtain rfl : w = wr := by
        rcases HG.out with ⟨_, h⟩ | ⟨h, _⟩
        · exact h
        · omega
      clear HG
      have k0 := HC.out
      go_wp2_with fail
      refine (HP.out _).mono ?_
      rintro e w1 ⟨rfl, hg⟩
      obtain ⟨v, hb, hown, hN, hKK⟩ := HB.out.gr hg
      obtain ⟨ao, n', cap, rfl⟩ := rowF_slice hown
      have HR := Lib.hid hb
      have HO := Lib.hid hown
      have HN := Lib.hid hN
      have HKK := Lib.hid hKK
      have HK1 : Hid (Kpt K w w1) := Lib.hid (Kpt.of_gr hg (fun k hk => by obtain ⟨_, _, _, _, h2⟩ := HB.out; exact (h2 k hk).1))
      clear hg hown hN hKK HB HP k0
      have c0 : w1.cell? ⟨b, 0, none⟩ = some (.slice ao n' cap) := by rw [cell_of_row _ _ _ _ _ _ hb]; rfl
      clear hb
      go_wp2_with ((with_reducible show wpList _ _ _ (⟨some 20, _, _, _, _, _⟩ :: _) _ _); refine wpList_append_bldF _ rfl (.tmp 18) (.tmp 19) 73 9 rfl 5 i0 Tryz.underlying73 Tryz.underlying9 HI.out HI0.out HI1.out HI2.out (.slice ao n' cap) ([] : List UInt8).length (Lib.byteCells []) rfl HO.out S rfl ?c3 ?c4 ?_)
      case c3 => have h1 := HS.out; unfold maxLen; simp; omega
      case c4 => have h1 := HS.out; simp; omega
      intro v' w2 hown' hgrow hblk
      obtain ⟨hb2, hO, hK⟩ := outK_put (l := []) (s := S) HR.out HN.out HKK.out (by rw [List.length_nil, Nat.zero_add]; exact hown') hgrow hblk
      obtain ⟨ao', n2, cap', rfl⟩ := rowF_slice hown'
      have HFin := Lib.hid (And.intro hO (HK1.out.trans hK))
      have d0 : w2.cell? ⟨b, 0, none⟩ = some (.slice ao n' cap) := by rw [cell_of_row _ _ _ _ _ _ hb2]; rfl
      have f0 : w2.frozen? ⟨b, 0, none⟩ = false := frozen_of_row _ _ _ _ _ hb2
      clear hown' hgrow hblk hb2 hO hK HR HO HN HKK HK1 c0
      go_wp2_with fail
      go_roundw
      case rel => exact ⟨1, by omega, by go_num, Lib.hid (.inr ⟨rfl, HFin.out⟩)⟩
      case measure => simp [intOf]
    · have HF : Hid (OutK K b S.data.toList wr ∧ Kpt K w wr) := Lib.hid (by
        rcases HG.out with ⟨h, _⟩ | ⟨_, h⟩
        · omega
        · exact h)
      clear HG
      go_wp2_with fail
      go_end0
      exact ⟨rfl, HF.out⟩
end Go.Proofs.YtaoggehdkddgeaaGreatDoor
end
section
namespace Go.Proofs.YtaoggehdkddgeaaGreatDoor
open Go Go.RowKit Go.Shelf
attribute [local go_sem] gAt gUpon
attribute [local simp] Gr.refl Gr.alloc

def tB : ByteArray := ⟨#[97, 98]⟩
def rA : ByteArray := ⟨#[2, 4, 97, 98]⟩
theorem rA_eq : (numB 1).data.toList ++ (putD tB).data.toList = rA.data.toList := by kernel_rfl
theorem outK_conv {K : Nat → Prop} {b : Nat} {l : List UInt8} {w : World} (h : OutK K b l w) (h0 : l ≠ []) : ∃ g cap, w.cell? ⟨b, 0, none⟩ = some (.slice (some ⟨g, 0, none⟩) l.length cap) ∧ (convert 73 9 (.slice (some ⟨g, 0, none⟩) l.length cap)).run Tryz.prog w = .ok (.string ⟨l.toArray⟩) w := by
  obtain ⟨v, hb, ho, -, -⟩ := h
  rcases ho.2 with ⟨rfl, h2⟩ | ⟨g, cap, cur, fz, rfl, _⟩
  · exact absurd (List.length_eq_zero_iff.1 (by simpa using h2)) h0
  · refine ⟨g, cap, by rw [cell_of_row _ _ _ _ _ _ hb]; rfl, run_convert_bytes_back (P := Tryz.prog) w 73 9 5 ⟨g, 0, none⟩ cap l Tryz.underlying73 Tryz.underlying5 Tryz.underlying9 (fun j hj => ?_)⟩
    exact ho.cells (g := g) rfl j (.int .u8 (l[j].toNat : Int)) (by simp [Lib.byteCells, hj])
/-- what lies in memory as write goes on -/
def WrS (K : Nat → Prop) (b : Nat) (w2 : World) (i : Nat) (W : World) : Prop := Kpt K w2 W ∧ ((i = 0 ∧ OutK K b (numB 1).data.toList W) ∨ (i = 1 ∧ OutK K b rA.data.toList W))
set_option maxRecDepth 100000 in
set_option maxHeartbeats 2000000 in
theorem writeA_any (g o c : Nat) (w : World) (h0 : w.cell? ⟨g, o, none⟩ = some (.string tB)) (h1 : w.cell? ⟨g, o + 1, none⟩ = some (.slice none 0 0)) :
    Calls Tryz.prog 58 #[.agg #[.bool false, .slice (some ⟨g, o, none⟩) 1 c, .int .i64 0, .int .i64 0, .string ⟨#[]⟩], .int .i64 1] w fun e w' => e = .returned (.string rA) ∧ Gr w w' := by
  have HC0 := Lib.hid h0
  have HC1 := Lib.hid h1
  have HTx := Lib.hid (fun (K : Nat → Prop) (b : Nat) (y : World) (h : OutK K b (numB 1).data.toList y) => text_out K b (numB 1).data.toList tB y h (by decide) (by decide))
  have HP1 := Lib.hid (fun (K : Nat → Prop) (b g' : Nat) (y : World) (h : OutK K b [] y) hc => put_one K b g' y h hc)
  have HP0 := Lib.hid (fun (b : Nat) (y : World) => put_none b y)
  clear h0 h1
  go_enter Tryz.func58, Tryz.ntmps58
  go_upto_region 2 with fail
  refine wp_gen (F := fun z => Gr w z ∧ z.heap[w.heap.size]? = some (.cells #[.bool false, .slice (some ⟨g, o, none⟩) 1 c, .int .i64 0, .int .i64 0, .string ⟨#[]⟩] 136 (0, 0)) ∧ z.heap[w.heap.size + 1]? = some (.cells #[.slice none 0 0] 73 (0, 0))) ?_ ?_
  · refine ⟨(Gr.alloc _ _).trans (Gr.alloc _ _), (Gr.alloc _ _).block (heap_alloc_new _ _), ?_⟩
    have := heap_alloc_new (w.alloc (.cells #[.bool false, .slice (some ⟨g, o, none⟩) 1 c, .int .i64 0, .int .i64 0, .string ⟨#[]⟩] 136)) (.cells #[.slice none 0 0] 73)
    rw [World.size_alloc] at this; exact this
  rintro w1 ⟨hg1, hr2, hr5⟩
  obtain ⟨b2, hb2⟩ : ∃ z, w.heap.size = z := ⟨_, rfl⟩
  rw [hb2] at hr2 hr5
  simp only [hb2]
  obtain ⟨b5, hb5⟩ : ∃ z, b2 + 1 = z := ⟨_, rfl⟩
  rw [hb5] at hr5
  simp only [hb5]
  have Hb : Hid (w.heap.size = b2 ∧ b2 + 1 = b5 ∧ b5 < w1.heap.size) := Lib.hid ⟨hb2, hb5, (Array.getElem?_eq_some_iff.1 hr5).1⟩
  have HG1 := Lib.hid hg1
  have HR2 := Lib.hid hr2
  have HR5 := Lib.hid hr5
  clear hg1 hr2 hr5 hb2 hb5
  obtain ⟨k0, k1, k2, k3, k4⟩ := row5c HR2.out
  go_wp2_with fail
  clear k0 k1 k2 k3 k4
  obtain ⟨K, hK⟩ : ∃ K : Nat → Prop, K = fun k => k < w1.heap.size ∧ k ≠ b5 := ⟨_, rfl⟩
  have HK : Hid (∀ k, K k ↔ k < w1.heap.size ∧ k ≠ b5) := Lib.hid (fun k => by rw [hK])
  clear hK
  have HOut : Hid (OutK K b5 [] (w1.alloc (.cells #[.int .i64 1] 3))) := Lib.hid (⟨.slice none 0 0, (Gr.alloc _ _).block HR5.out, World.ownsRowF_nil _ _ _ _, by simp [Value.ownBlock], fun k hk => by
    have := (HK.out k).1 hk
    exact ⟨by rw [World.size_alloc]; omega, this.2, by simp [Value.ownBlock]⟩⟩)
  refine (HP1.out K b5 w1.heap.size _ HOut.out (cell_of_row _ _ _ _ _ _ (heap_alloc_new _ _))).mono ?_
  rintro e w3 ⟨rfl, ho, hk⟩
  have HK3 : Hid (Kpt K w1 w3) := Lib.hid ((Kpt.of_gr (Gr.alloc _ _) (fun k hk => ((HK.out k).1 hk).1)).trans hk)
  have HO3 := Lib.hid ho
  have HR23 := Lib.hid (HK3.out.block (k := b2) ((HK.out b2).2 (by have := Hb.out; omega)) HR2.out)
  clear ho hk HOut HP1 HR5
  obtain ⟨k0, k1, k2, k3, k4⟩ := row5c HR23.out
  go_wp2_with fail
  clear k0 k1 k2 k3 k4
  go_loopw [9, 21] (fun _ v21 W => ∃ i : Nat, i ≤ 1 ∧ v21 = .int .i64 (i : Int) ∧ Hid (WrS K b5 w3 i W)) (fun _ v21 _ => 1 - (intOf v21).toNat)
  case atStart => exact ⟨0, by omega, rfl, Lib.hid ⟨Kpt.refl _ _, .inl ⟨rfl, HO3.out⟩⟩⟩
  clear HO3
  case round =>
    obtain ⟨i, hi, rfl, HG⟩ := hrel
    rcases (show i = 0 ∨ i = 1 by omega) with rfl | rfl
    · have HKr := Lib.hid HG.out.1
      have HOr : Hid (OutK K b5 (numB 1).data.toList wr) := Lib.hid (by
        rcases HG.out.2 with ⟨_, h⟩ | ⟨h, _⟩
        · exact h
        · omega)
      clear HG
      have HLn : Hid (wr.cell? ⟨g, o, none⟩ = some (.string tB) ∧ wr.cell? ⟨g, o + 1, none⟩ = some (.slice none 0 0)) := Lib.hid (by
        have hg : g < w.heap.size := World.block_lt_of_cell? _ _ HC0.out
        have hb := Hb.out
        have hkg : K g := (HK.out g).2 (by omega)
        have e : wr.heap[g]? = w1.heap[g]? := (HKr.out.2.2.2.2 g hkg).trans (HK3.out.2.2.2.2 g hkg)
        refine ⟨?_, ?_⟩
        · have := HG1.out.cell HC0.out
          unfold World.cell? at this ⊢
          rw [e]; exact this
        · have := HG1.out.cell HC1.out
          unfold World.cell? at this ⊢
          rw [e]; exact this)
      obtain ⟨k0, k1⟩ := HLn.out
      have k0' : wr.cell? ⟨g, o + 0, none⟩ = some (.string tB) := k0
      go_upto_region 8 with fail
      clear k0 k0' k1
      refine wp_gen (F := fun z => Gr wr z ∧ z.heap[wr.heap.size]? = some (.cells #[.string tB, .slice none 0 0] 206 (0, 0))) ⟨Gr.alloc _ _, heap_alloc_new _ _⟩ ?_
      rintro w4 ⟨hg4, hr9⟩
      obtain ⟨b9, hb9⟩ : ∃ z, wr.heap.size = z := ⟨_, rfl⟩
      have Hb9 : Hid (wr.heap.size = b9 ∧ b9 < w4.heap.size) := Lib.hid ⟨hb9, by rw [← hb9]; exact (Array.getElem?_eq_some_iff.1 hr9).1⟩
      rw [hb9] at hr9
      simp only [hb9]
      have HR9 := Lib.hid hr9
      have HKlt : Hid (∀ k, K k → k < wr.heap.size) := Lib.hid (fun k hk => by obtain ⟨_, _, _, _, h2⟩ := HOr.out; exact (h2 k hk).1)
      have HO4 : Hid (OutK (fun k => K k ∨ k = b9) b5 (numB 1).data.toList w4) := Lib.hid (HOr.out.add hg4 (fun k hk => by
        rcases hk with h | h
        · exact .inl h
        · right; have := Hb9.out; omega))
      have HK4 : Hid (Kpt K w3 w4) := Lib.hid (HKr.out.trans (Kpt.of_gr hg4 HKlt.out))
      clear hg4 hr9 hb9 HKr HOr HLn HKlt
      obtain ⟨k0, k1⟩ := row2c HR9.out
      go_wp2_with fail
      clear k0 k1
      refine (HTx.out _ _ _ HO4.out).mono ?_
      rintro e w5 ⟨rfl, ho, hk⟩
      have HR95 := Lib.hid (hk.block (k := b9) (.inr rfl) HR9.out)
      have HF : Hid (WrS K b5 w3 1 w5) := Lib.hid ⟨HK4.out.trans (hk.sub (fun k h => .inl h)), .inr ⟨rfl, by
        rw [rA_eq] at ho
        obtain ⟨v, h1, h2, h3, h4⟩ := ho
        exact ⟨v, h1, h2, h3, fun k h => h4 k (.inl h)⟩⟩⟩
      clear ho hk HO4 HK4 HR9
      obtain ⟨k0, k1⟩ := row2c HR95.out
      go_wp2_with fail
      clear k0 k1
      refine (HP0.out _ _).mono ?_
      rintro e w' ⟨rfl, rfl⟩
      go_wp2_with fail
      go_roundw
      case rel => exact ⟨1, by omega, by go_num, HF⟩
      case measure => simp [intOf]
    · have HOr : Hid (OutK K b5 rA.data.toList wr) := Lib.hid (by
        rcases HG.out.2 with ⟨h, _⟩ | ⟨_, h⟩
        · omega
        · exact h)
      have HGr : Hid (Gr w wr) := Lib.hid (Kpt.step HG1.out ((HK3.out.trans HG.out.1).sub (K' := fun k => k < w.heap.size) (fun k hk => (HK.out k).2 (by have := Hb.out; omega))) (Nat.le_refl _))
      clear HG
      obtain ⟨g9, c9, hc9, hconv⟩ := outK_conv HOr.out (by decide)
      rw [show rA.data.toList.length = rA.size from rfl] at hc9 hconv
      rw [show (⟨rA.data.toList.toArray⟩ : ByteArray) = rA from rfl] at hconv
      go_wp2_with fail
      go_ret
      exact ⟨rfl, HGr.out⟩
end Go.Proofs.YtaoggehdkddgeaaGreatDoor
end
section
namespace Go.Proofs.YtaoggehdkddgeaaGreatDoor
open Go Go.RowKit Go.Shelf
attribute [local go_sem] gAt gUpon pUpon
attribute [local simp] Gr.refl Gr.alloc

theorem own_two {B g o n c : Nat} {x y : Value} {w : World} (h : Own B 2 (.slice (some ⟨g, o, none⟩) n c) n [x, y] w) (hn : 0 < n) : w.cell? ⟨g, o, none⟩ = some x ∧ w.cell? ⟨g, o + 1, none⟩ = some y ∧ w.frozen? ⟨g, o, none⟩ = false ∧ B ≤ g ∧ g < w.heap.size := by
  obtain ⟨hl, hr⟩ := h
  rcases hr with ⟨hr, _⟩ | ⟨g', off', cap', he, hB, hc, hm, hx, hw⟩
  · cases hr
  · injection he with he1 _ he2
    injection he1 with he1
    injection he1 with e1 e2
    subst e1 e2 he2
    have h0 := hx 0 x rfl
    exact ⟨h0, hx 1 y rfl, (hw 0 (by omega)).2, hB, World.block_lt_of_cell? _ _ h0⟩
theorem lowA (w : World) : Calls Tryz.prog 177 #[.string tA] w fun e w' => e = .returned (.string tB) ∧ Gr w w' := by
  refine (Tryz.strings_ToLower_ascii tA w (by decide) (fun j b hj => ?_)).mono ?_
  · rw [show tA.data.toList = [65, 98] from rfl] at hj
    rcases j with _ | _ | j
    · simp at hj; subst hj; decide
    · simp at hj; subst hj; decide
    · simp at hj
  · rintro e w' ⟨rfl, hg⟩
    exact ⟨by rw [show (⟨(Lib.toLowerA tA.data.toList).toArray⟩ : ByteArray) = tB from by kernel_rfl], hg⟩
theorem fold_any (g o : Nat) (w : World) (h : w.cell? ⟨g, o, none⟩ = some (.string tA)) (hf : w.frozen? ⟨g, o, none⟩ = false) :
    Calls Tryz.prog 122 #[.pointer (some ⟨g, o, none⟩), .int .i64 0] w fun e w' => e = .returned (.tuple #[]) ∧ ∃ w1, Gr w w1 ∧ w' = w1.setCell ⟨g, o, none⟩ (.string tB) := by
  have HL := Lib.hid (fun y => lowA y)
  have HC := Lib.hid h
  have HF := Lib.hid hf
  clear hf
  have h' : w.cell? ⟨g, o + 0, none⟩ = some (.string tA) := h
  go_enter Tryz.func122, Tryz.ntmps122
  go_wp2_with fail
  clear h h'
  refine (HL.out _).mono ?_
  rintro e w1 ⟨rfl, hg⟩
  have k0 := hg.cell HC.out
  have f0 : w1.frozen? ⟨g, o, none⟩ = false := (hg.frozen (World.block_lt_of_cell? _ _ HC.out)).trans HF.out
  have HG := Lib.hid hg
  clear hg
  go_wp2_with fail
  go_end0
  exact ⟨rfl, w1, HG.out, rfl⟩
set_option maxRecDepth 100000 in
set_option maxHeartbeats 1000000 in
theorem each1_any (b8 g o c c1 : Nat) (w : World) (hv : w.cell? ⟨b8, 1, none⟩ = some (.slice (some ⟨g, o, none⟩) 1 c)) (hk : w.cell? ⟨c1, 0, none⟩ = some (.func (.func 122) #[] #[]))
    (h : w.cell? ⟨g, o, none⟩ = some (.string tA)) (hf : w.frozen? ⟨g, o, none⟩ = false) (hne : c1 ≠ g ∧ b8 ≠ g) :
    Calls Tryz.prog 176 #[.pointer (some ⟨b8, 0, none⟩), .int .i64 0, .pointer (some ⟨c1, 0, none⟩)] w fun e w' => e = .returned (.tuple #[]) ∧ ∃ w1, Gr w w1 ∧ w' = w1.setCell ⟨g, o, none⟩ (.string tB) := by
  have HF := Lib.hid (fun y (hg : Gr w y) => fold_any g o y (hg.cell h) ((hg.frozen (World.block_lt_of_cell? _ _ h)).trans hf))
  have HV := Lib.hid hv
  have HK := Lib.hid hk
  have HNe := Lib.hid hne
  clear hk h hf hne
  go_enter Tryz.func176, Tryz.ntmps176
  go_wp2_with fail
  clear hv
  go_loopw [5, 11] (fun _ v11 W => ∃ i : Nat, i ≤ 1 ∧ v11 = .int .i64 (i : Int) ∧ Hid ((i = 0 ∧ w = W) ∨ (i = 1 ∧ ∃ w1, Gr w w1 ∧ W = w1.setCell ⟨g, o, none⟩ (.string tB)))) (fun _ v11 _ => 1 - (intOf v11).toNat)
  case atStart => exact ⟨0, by omega, rfl, Lib.hid (.inl ⟨rfl, rfl⟩)⟩
  case round =>
    obtain ⟨i, hi, rfl, HG⟩ := hrel
    rcases (show i = 0 ∨ i = 1 by omega) with rfl | rfl
    · obtain rfl : w = wr := by
        rcases HG.out with ⟨_, h⟩ | ⟨h, _⟩
        · exact h
        · omega
      clear HG
      go_upto_region 3 with fail
      have hS0 : (fun y : World => y.cell? ⟨c1, 0, none⟩ = some (.func (.func 122) #[] #[]) ∧ y.cell? ⟨b8, 1, none⟩ = some (.slice (some ⟨g, o, none⟩) 1 c)) w.drew := ⟨(Gr.drew w).cell HK.out, (Gr.drew w).cell HV.out⟩
      refine u_begin (fun y : World => y.cell? ⟨c1, 0, none⟩ = some (.func (.func 122) #[] #[]) ∧ y.cell? ⟨b8, 1, none⟩ = some (.slice (some ⟨g, o, none⟩) 1 c)) (fun _ => false) (by kernel_rfl) (by assumption) (fun hHeld => ?_)
      refine u_take 0 (v := ?_) rfl rfl (by kernel_rfl) (by kernel_rfl) (by kernel_rfl) (by kernel_rfl) (fun _ _ _ h => h) (by rfl) (by assumption) ?_ ?_
      rotate_left
      · (intro w hSw; obtain ⟨z0, z1⟩ := hSw; go_simp; try with_reducible rfl)
      try simp only [Act.put, List.setIfInBounds_toArray, List.set_cons_zero, List.set_cons_succ]
      refine u_take 1 (v := ?_) rfl rfl (by kernel_rfl) (by kernel_rfl) (by kernel_rfl) (by kernel_rfl) (fun _ _ _ h => h) (by rfl) (by assumption) ?_ ?_
      rotate_left
      · (intro w hSw; obtain ⟨z0, z1⟩ := hSw; go_simp; try with_reducible rfl)
      try simp only [Act.put, List.setIfInBounds_toArray, List.set_cons_zero, List.set_cons_succ]
      refine u_take 2 (v := ?_) rfl rfl (by kernel_rfl) (by kernel_rfl) (by kernel_rfl) (by kernel_rfl) (fun _ _ _ h => h) (by rfl) (by assumption) ?_ ?_
      rotate_left
      · (intro w hSw; obtain ⟨z0, z1⟩ := hSw; go_simp; try with_reducible rfl)
      try simp only [Act.put, List.setIfInBounds_toArray, List.set_cons_zero, List.set_cons_succ]
      refine u_take 3 (v := ?_) rfl rfl (by kernel_rfl) (by kernel_rfl) (by kernel_rfl) (by kernel_rfl) (fun _ _ _ h => h) (by rfl) (by assumption) ?_ ?_
      rotate_left
      · (intro w hSw; obtain ⟨z0, z1⟩ := hSw; go_simp; try with_reducible rfl)
      try simp only [Act.put, List.setIfInBounds_toArray, List.set_cons_zero, List.set_cons_succ]
      refine u_take 4 (v := ?_) rfl rfl (by kernel_rfl) (by kernel_rfl) (by kernel_rfl) (by kernel_rfl) (fun _ _ _ h => h) (by rfl) (by assumption) ?_ ?_
      rotate_left
      · (intro w hSw; obtain ⟨z0, z1⟩ := hSw; go_simp; try with_reducible rfl)
      try simp only [Act.put, List.setIfInBounds_toArray, List.set_cons_zero, List.set_cons_succ]
      refine u_take 5 (v := ?_) rfl rfl (by kernel_rfl) (by kernel_rfl) (by kernel_rfl) (by kernel_rfl) (fun _ _ _ h => h) (by rfl) (by assumption) ?_ ?_
      rotate_left
      · (intro w hSw; obtain ⟨z0, z1⟩ := hSw; go_simp; try with_reducible rfl)
      try simp only [Act.put, List.setIfInBounds_toArray, List.set_cons_zero, List.set_cons_succ]
      refine u_take 6 (v := ?_) rfl rfl (by kernel_rfl) (by kernel_rfl) (by kernel_rfl) (by kernel_rfl) (fun _ _ _ h => h) (by rfl) (by assumption) ?_ ?_
      rotate_left
      · (intro w hSw; obtain ⟨z0, z1⟩ := hSw; go_simp; try with_reducible rfl)
      try simp only [Act.put, List.setIfInBounds_toArray, List.set_cons_zero, List.set_cons_succ]
      refine u_take 7 (v := ?_) rfl rfl (by kernel_rfl) (by kernel_rfl) (by kernel_rfl) (by kernel_rfl) (fun _ _ _ h => h) (by rfl) (by assumption) ?_ ?_
      rotate_left
      · (intro w hSw; obtain ⟨z0, z1⟩ := hSw; go_simp; try with_reducible rfl)
      try simp only [Act.put, List.setIfInBounds_toArray, List.set_cons_zero, List.set_cons_succ]
      refine u_step 8 (by kernel_rfl) rfl (by rfl) ?_
      go_simp
      refine (HF.out _ (Gr.drew w)).mono ?_
      rintro e w' ⟨rfl, w1, hg, rfl⟩
      have hch : Chg (some g) w1 (w1.setCell ⟨g, o, none⟩ (.string tB)) := setCells_chg g [.string tB] o w1
      have hS1 : (fun y : World => y.cell? ⟨c1, 0, none⟩ = some (.func (.func 122) #[] #[]) ∧ y.cell? ⟨b8, 1, none⟩ = some (.slice (some ⟨g, o, none⟩) 1 c)) (w1.setCell ⟨g, o, none⟩ (.string tB)) :=
        ⟨hch.cell (hg.cell hHeld.1) (by have := HNe.out; simp; exact this.1), hch.cell (hg.cell hHeld.2) (by have := HNe.out; simp; exact this.2)⟩
      refine .inl ⟨_, rfl, hS1, ?_⟩
      have HE : Hid (∃ w2, Gr w w2 ∧ w1.setCell ⟨g, o, none⟩ (.string tB) = w2.setCell ⟨g, o, none⟩ (.string tB)) := Lib.hid ⟨w1, (Gr.drew w).trans hg, rfl⟩
      clear hS1 hch hg hHeld hS0
      refine u_done (by kernel_rfl) ?_ _
      try simp only [Act.put, List.setIfInBounds_toArray, List.set_cons_zero, List.set_cons_succ]
      go_wp2_with fail
      go_roundw
      case rel => exact ⟨1, by omega, by go_num, Lib.hid (.inr ⟨rfl, HE.out⟩)⟩
      case measure => simp [intOf]
    · have HE : Hid (∃ w1, Gr w w1 ∧ wr = w1.setCell ⟨g, o, none⟩ (.string tB)) := Lib.hid (by
        rcases HG.out with ⟨h, _⟩ | ⟨_, h⟩
        · omega
        · exact h)
      clear HG
      go_wp2_with fail
      go_end0
      exact ⟨rfl, HE.out⟩
theorem caught_idle (bp be : Nat) (w : World) :
    CallsD Tryz.prog 53 #[.pointer (some ⟨bp, 0, none⟩), .pointer (some ⟨be, 0, none⟩)] .returning w fun e u' w' => e = .returned (.tuple #[]) ∧ u' = .returning ∧ w' = w := by
  refine callsD_of_wpS Tryz.func53 rfl fun c₀ cs hu => ?_
  simp only [Tryz.ntmps53, List.size_toArray, List.length_cons, List.length_nil, Nat.reduceAdd, Nat.reduceSub, Array.replicate_succ, Array.replicate_zero, List.push_toArray, List.append_toArray, List.nil_append, List.cons_append]
  apply wpS_seq
  apply wpS_region
  simp [wpOpsS, go_sem, recoverD, hu, Exit.thenS]
  refine wpS_of_wp ?_
  go_wp2_with fail
  refine ⟨rfl, .returning, ?_, _, results_none rfl _ _ _, rfl, rfl, rfl⟩
  cases c₀; simp_all
end Go.Proofs.YtaoggehdkddgeaaGreatDoor
end
