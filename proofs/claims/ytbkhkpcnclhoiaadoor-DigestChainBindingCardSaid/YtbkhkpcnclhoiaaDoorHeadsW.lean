/- The contract of the statements' helper heads. -/
import Derived.Test.YtbkhkpcnclhoiaaDoorHeads
import Derived.Test.YtbkhkpcnclhoiaaDoorWay
namespace Go.Proofs.YtbkhkpcnclhoiaaDoor
open Go.RowKit Go.Shelf
attribute [local go_sem] gAt gUpon
attribute [local simp] Gr.refl Gr.alloc

theorem make32 (w : World) : (Instr.makeSlice 45 (.int .i64 32) (.int .i64 32)).run Tryd.prog w = .ok (.slice (some ⟨w.heap.size, 0, none⟩) 32 32) (w.alloc (.cells (Array.replicate 32 (.int .u8 0)) 5)) := by kernel_rfl
theorem zero_bytes (w : World) : Go.Lib.Bytes (w.alloc (.cells (Array.replicate 32 (.int .u8 0)) 5)) w.heap.size 0 zero32 := by
  intro i hi
  have hi32 : i < 32 := by rw [zero32_size] at hi; exact hi
  rw [cell_of_row _ _ _ _ _ _ (heap_alloc_new w _)]
  have hz : ∀ h, (zero32[i]'h) = 0 := by
    intro h
    have h2 : ∀ j : _root_.Fin 32, (zero32[j.1]'(by rw [zero32_size]; exact j.2)) = 0 := by decide
    exact h2 ⟨i, hi32⟩
  simp only [hz]
  simp [hi32]

set_option maxRecDepth 100000 in
set_option maxHeartbeats 1000000 in
theorem heads_any (v : Value) (l : List ByteArray) (w : World) (hv : StrsAt v l w) (hl : l.length ≤ 1000) (hs : ∀ x ∈ l, x.size ≤ 60) (hT : Tab w) :
    Calls Tryd.prog 35 #[v] w fun e w' => ∃ u, e = .returned (.tuple #[u, .string (headD l).2]) ∧ Own w.heap.size 1 u l.length (sC (headD l).1) w' ∧ Gr w w' ∧ (l.length = 0 → u = .slice none 0 0) := by
  obtain ⟨i9, hi9, hz9, hsz9, hb9⟩ := info_parts info9
  obtain ⟨p, cap, rfl⟩ := hv.shape
  have HV := Lib.hid hv
  have HT := Lib.hid hT
  have HS := Lib.hid hs
  have hmk := make32 w
  have hconv := Go.Lib.run_convert_whole (P := Tryd.prog) (w.alloc (.cells (Array.replicate 32 (.int .u8 0)) 5)) 45 5 9 Tryd.underlying45 Tryd.underlying5 Tryd.underlying9 w.heap.size 0 zero32 (zero_bytes w) 32
  rw [zero32_size] at hconv
  clear hv hT hs
  go_enter Tryd.func35, Tryd.ntmps35
  go_wp2_with fail
  clear hmk hconv
  have HG1 : Hid (Gr w (w.alloc (.cells (Array.replicate 32 (.int .u8 0)) 5))) := Lib.hid (Gr.alloc _ _)
  have HD0 : Hid (headD ([] : List ByteArray) = ([], zero32)) := Lib.hid rfl
  generalize w.alloc (.cells (Array.replicate 32 (.int .u8 0)) 5) = wA at HG1 ⊢
  go_loopw [4, 5, 6] (fun v4 v5 v6 W => ∃ (k : Nat) (h : ByteArray) (V5 : Value), k ≤ l.length ∧ v6 = .int .i64 (k : Int) ∧ v4 = .string h ∧ V5 = v5 ∧ h.size = 32 ∧ Hid (h = (headD (l.take k)).2) ∧ Hid (k = 0 → V5 = .slice none 0 0) ∧ Hid (Own w.heap.size 1 V5 k (sC (headD (l.take k)).1) W) ∧ Hid (Gr w W)) (fun _ _ v6 _ => l.length - (intOf v6).toNat)
  case atStart => exact ⟨0, _, _, Nat.zero_le _, rfl, rfl, rfl, zero32_size, Lib.hid rfl, Lib.hid (fun _ => rfl), Lib.hid (Own.nil _ _ _), HG1⟩
  clear HG1 HD0
  case round =>
    obtain ⟨k, h, v5, hk, rfl, rfl, rfl, hh, HH, HZ, HO, HG⟩ := hrel
    by_cases h1 : k < l.length
    · have ht1 : decide (k < l.length) = true := decide_eq_true h1
      obtain ⟨x, hx⟩ : ∃ x, l[k]? = some x := ⟨_, List.getElem?_eq_getElem h1⟩
      obtain ⟨g, off, cc, he, hc4⟩ : ∃ g off cap', Value.slice p l.length cap = .slice (some ⟨g, off, none⟩) l.length cap' ∧ ∀ (j : Nat) x, l[j]? = some x → w.cell? ⟨g, off + j, none⟩ = some (.string x) := by
        rcases HV.out with ⟨_, rfl⟩ | ⟨g, off, cap', h1, _, _, h2⟩
        · simp at h1
        · exact ⟨g, off, cap', h1, h2⟩
      injection he with he1 _ he2
      subst he1 he2
      have hcw := hc4 k x hx
      have hcx := HG.out.cell hcw
      have hxs : x.size ≤ 60 := HS.out x (List.mem_of_getElem? hx)
      have HN : Hid (headD (l.take (k + 1)) = (cat 2 [h, x] :: (headD (l.take k)).1, chainD h x)) := Lib.hid (by
        rw [List.take_add_one, hx, Option.toList_some, headD_snoc, ← HH.out])
      have hadd1 : ∀ w1, (Op.stringOp .add (⟨#[2]⟩ : ByteArray) h).run Tryd.prog w1 = .ok (.string (⟨#[2]⟩ ++ h)) w1 := fun w1 => by
        rw [run_string_add_sum]; rw [show (⟨#[2]⟩ : ByteArray).size = 1 from rfl]; omega
      have hadd2 : ∀ w1, (Op.stringOp .add ((⟨#[2]⟩ : ByteArray) ++ h) x).run Tryd.prog w1 = .ok (.string (cat 2 [h, x])) w1 := fun w1 => by
        rw [run_string_add_sum, cat_add2]
        rw [ByteArray.size_append, show (⟨#[2]⟩ : ByteArray).size = 1 from rfl]; omega
      have HCw := Lib.hid hcw
      clear hc4 hx hcw HH
      by_cases hk0 : k = 0
      · obtain rfl := HZ.out hk0
        subst hk0
        have HO5 : Hid (Own w.heap.size 1 (.slice (some ⟨wr.heap.size, 0, none⟩) 1 1) 1 (sC (headD (l.take 1)).1) (wr.alloc (.cells #[.string (cat 2 [h, x])] 9))) := Lib.hid (by
          have h2 := (own_new1 wr (cat 2 [h, x])).mono HG.out.size
          have h3 : headD (l.take 1) = (cat 2 [h, x] :: (headD (l.take 0)).1, chainD h x) := HN.out
          rw [h3, List.take_zero, headD_nil]; exact h2)
        have HG5 := Lib.hid (HG.out.trans (Gr.alloc wr (.cells #[.string (cat 2 [h, x])] 9)))
        clear HO HG HZ
        have hcx0 : wr.cell? ⟨g, off, none⟩ = some (.string x) := hcx
        have hcx' : (wr.alloc (.cells #[.string (cat 2 [h, x])] 9)).cell? ⟨g, off, none⟩ = some (.string x) := (Gr.alloc wr (.cells #[.string (cat 2 [h, x])] 9)).cell hcx
        have HCh := Lib.hid (chain_any h x (wr.alloc (.cells #[.string (cat 2 [h, x])] 9)) (by omega) (HT.out.gr HG5.out))
        go_wp2_with fail
        refine HCh.out.mono ?_
        rintro e w6 ⟨rfl, hg6⟩
        have HG6 := Lib.hid (HG5.out.trans hg6)
        have HO6 := Lib.hid (HO5.out.gr hg6)
        clear hg6 HCh HG5 HO5 hadd1 hadd2
        go_wp2_with fail
        go_roundw
        case rel => exact ⟨1, _, _, by omega, by go_num, rfl, rfl, chainD_size _ _, Lib.hid (by have := HN.out; rw [this]), Lib.hid (fun e => by omega), HO6, HG6⟩
        case measure => simp [intOf]; omega
      · obtain ⟨g5, o5, c5, rfl, _, hc51, hc52⟩ := HO.out.shape (by omega)
        have hlen : (headD (l.take k)).1.length = k := headD_len k _ (by rw [List.length_take]; omega)
        have HLn := Lib.hid hlen
        clear hlen HZ
        generalize hLL : (headD (l.take k)).1 = LL at *
        clear hLL
        have HOo := Lib.hid (own_new1 wr (cat 2 [h, x]))
        go_upto_region 7 with ((with_reducible show wpList _ _ _ (⟨some 24, _, _, _, _, _⟩ :: _) _ _); refine wpList_append_Own rfl (.tmp 22) (.tmp 23) 22 rfl 9 i9 (.string ⟨#[]⟩) 1 16 Tryd.underlying22 hi9 hz9 hsz9 hb9 rfl (by decide) rfl HOo.out ⟨g5, o5, none⟩ k c5 (sC LL) rfl ?hlA ?hnewsA ?h1cA (by omega) ?b1A ?b2A ?hBA ?_)
        case hlA => rw [sC_length, HLn.out]
        case hnewsA => exact fun j u hj => (Gr.alloc wr _).cell (HO.out.cell j u hj)
        case h1cA => intro u hu; simp [sC] at hu; obtain ⟨y, _, rfl⟩ := hu; rfl
        case b1A => unfold maxLen; omega
        case b2A => omega
        intro v7 w7 hown hchg _
        have hg7 : Gr w w7 := gr_step HG.out (Gr.alloc wr (.cells #[.string (cat 2 [h, x])] 9)) hchg (fun g hg => by
          have := HOo.out.ge hg
          have := HG.out.size; omega)
        have HO5 : Hid (Own w.heap.size 1 v7 (k + 1) (sC (headD (l.take (k + 1))).1) w7) := Lib.hid (by
          have h2 := hown.mono HG.out.size
          rw [Nat.add_comm] at h2
          rw [HN.out]; exact h2)
        have HG5 := Lib.hid hg7
        have hcx' := hg7.cell HCw.out
        have HCh := Lib.hid (chain_any h x w7 (by omega) (HT.out.gr hg7))
        clear hown hchg hg7 HO HG HOo hcx
        go_wp2_with fail
        refine HCh.out.mono ?_
        rintro e w6 ⟨rfl, hg6⟩
        have HG6 := Lib.hid (HG5.out.trans hg6)
        have HO6 := Lib.hid (HO5.out.gr hg6)
        clear hg6 HCh HG5 HO5 hadd1 hadd2
        go_wp2_with fail
        go_roundw
        case rel => exact ⟨k + 1, _, _, by omega, by go_num, rfl, rfl, chainD_size _ _, Lib.hid (by have := HN.out; rw [this]), Lib.hid (fun e => by omega), HO6, HG6⟩
        case measure => simp [intOf]; omega
    · have ht1 : decide (k < l.length) = false := decide_eq_false h1
      have hkl : k = l.length := by omega
      have HE : Hid (headD (l.take k) = headD l) := Lib.hid (by rw [hkl, List.take_length])
      have HK := Lib.hid hkl
      clear hkl
      go_wp2_with fail
      go_ret2
      refine ⟨_, by rw [← HE.out, ← HH.out]; rfl, ?_, HG.out, fun e => HZ.out (by rw [HK.out]; exact e)⟩
      rw [← HE.out, ← HK.out]; exact HO.out
end Go.Proofs.YtbkhkpcnclhoiaaDoor
