/- Contracts of the disk's New, settle, Write, Sync, Read, Cut. -/
import Derived.Test.YtmkdnfiiehgcaaaDsA
namespace Go.Proofs.Ytmkdnfiiehgcaaa
open Go.RowKit
attribute [local go_sem] gAt gUpon
attribute [local simp] Gr.refl Gr.alloc

theorem info69 : (Try.prog.info? 69).map (fun i => (i.zero, i.size, i.bytes)) = some (some (.agg #[.int .i64 0, .string ⟨#[]⟩]), 2, 24) := by kernel_rfl
theorem z69_one : ∀ v ∈ (Value.agg #[.int .i64 0, .string ⟨#[]⟩]).cells, v.oneCell' = true := by
  intro v hv
  simp [Value.cells] at hv
  rcases hv with rfl | rfl <;> rfl

set_option maxHeartbeats 1000000 in
theorem settle_any {S : Nat → Prop} {gd gf gt n : Nat} {bf bt : List UInt8} {v0 v1 v2 v3 vp : Value} {m : Nat} {xs : List Value} {T : TypeId} {w : World} (hb : w.heap[gd]? = some (.cells #[v0, v1, v2, v3, vp] T (0, 0)))
    (hf : ByRow 5 gf bf w) (ht : ByRow 5 gt bt w) (hlf : bf.length = n) (hlt : bt.length = n) (ho : Own 0 2 vp m xs w) (hv : ∀ g, vp.ownBlock = some g → S g ∧ g ≠ gd ∧ g ≠ gt) (hvf : ∀ g, vp.ownBlock = some g → g ≠ gf)
    (hSd : S gd) (hSt : S gt) (hdt : gd ≠ gt) (hdf : gf ≠ gd) (htf : gt ≠ gf) :
    Calls Try.prog 37 #[.pointer (some ⟨gd, 0, none⟩), .slice (some ⟨gf, 0, none⟩) n n, .slice (some ⟨gt, 0, none⟩) n n] w fun e w' => e = .returned (.tuple #[]) ∧
      ∃ vp', w'.heap[gd]? = some (.cells #[v0, v1, v2, v3, vp'] T (0, 0)) ∧ Own 0 2 vp' 0 [] w' ∧ (∀ g, vp'.ownBlock = some g → vp.ownBlock = some g) ∧ ByRow 5 gt bf w' ∧ ByRow 5 gf bf w' ∧ Chs S w w' := by
  obtain ⟨i69, hi69, hz69, hsz69, hb69⟩ := info_parts info69
  have HF := Lib.hid hf
  have HT := Lib.hid ht
  have HB := Lib.hid hb
  have HV := Lib.hid hv
  have HVf := Lib.hid hvf
  have HL : Hid (bt.length = n ∧ bf.length = n) := Lib.hid ⟨hlt, hlf⟩
  have HN : Hid (gd ≠ gt ∧ gt ≠ gf) := Lib.hid ⟨hdt, htf⟩
  have HVf2 : Hid (gf ≠ gd) := Lib.hid hdf
  have HS : Hid (S gd ∧ S gt) := Lib.hid ⟨hSd, hSt⟩
  have hown := ho
  have HO := Lib.hid ho
  clear hf ht hb hv hvf hlf hlt ho hdt hdf htf hSd hSt
  rcases hown.2 with ⟨rfl, rfl⟩ | ⟨g, off, cap, rfl, -, -, -, -, -⟩
  · clear hown
    go_enter Try.func37, Try.ntmps37
    go_upto_region 1 with ((with_reducible show wpList _ _ _ (⟨some 8, _, _, _, _, _⟩ :: _) _ _); refine wpList_copy_whole rfl (.tmp 6) (.tmp 7) 40 40 rfl 5 Try.underlying40 info5k gt gf n rfl rfl (U := 5) (b := bt) (b' := bf) HT.out HF.out HL.out.1 HL.out.2 ?_)
    intro w1 hr1 hc1
    have hb1 := Chs.block hc1 HB.out (fun e => HN.out.1 e)
    have HB1 := Lib.hid hb1
    have hO1 := HO.out.keepS hc1 (fun g hg e => (HV.out g hg).2.2 e)
    have HO1 := Lib.hid hO1
    have HT1 := Lib.hid hr1
    have HF1 := Lib.hid (Chs.block hc1 HF.out (fun e => HN.out.2 e.symm))
    have HC1 : Hid (Chs S w w1) := Lib.hid (hc1.mono (fun k e => e ▸ HS.out.2))
    obtain ⟨-, -, -, -, c4, -, -, f4⟩ := cells5 hb1
    clear hr1 hc1 hb1 hO1
    go_upto_region 2 with ((with_reducible show wpList _ _ _ (⟨none, .call _, _, _, _, _⟩ :: _) _ _); refine wpList_clear_own rfl (.tmp 12) 63 rfl 69 i69 _ Try.underlying63 hi69 hz69 (s := 2) rfl z69_one rfl HO1.out ?_)
    rintro w2 ⟨p', cap', hp', hO2⟩ hc2
    injection hp' with e1 e2 e3
    subst e1 e3
    have hb2 := Chs.block hc2 HB1.out (fun e => (HV.out gd e).2.1 rfl)
    have HB2 := Lib.hid hb2
    have HO2 := Lib.hid hO2
    have HT2 := Lib.hid (Chs.block hc2 HT1.out (fun e => (HV.out gt e).2.2 rfl))
    have HF2 := Lib.hid (Chs.block hc2 HF1.out (fun e => HVf.out gf e rfl))
    have HC2 : Hid (Chs S w w2) := Lib.hid (HC1.out.trans (hc2.mono (fun k e => (HV.out k e).1)) (fun _ _ h => h))
    obtain ⟨-, -, -, -, d4, -, -, g4⟩ := cells5 hb2
    clear hb2 hO2 hc2 c4 f4 HB1 HO1 HT1 HF1 HC1
    have HX : Hid (∀ x, (w2.setCell ⟨gd, 4, none⟩ x).heap[gd]? = some (.cells #[v0, v1, v2, v3, x] T (0, 0))) := Lib.hid (fun x => by
      rw [heap_setCell_same w2 gd 4 _ _ x HB2.out]; rfl)
    go_wp2_with fail
    go_end0
    refine ⟨rfl, _, HX.out _, ?_, ?_, ?_, ?_, ?_⟩
    · exact HO2.out.keepS (chs_setCell (S := fun k => k = gd) w2 rfl 4 _) (fun g hg e => (HV.out g hg).2.1 e)
    · exact fun g hg => hg
    · exact Chs.block (chs_setCell (S := fun k => k = gd) w2 rfl 4 _) HT2.out (fun e => HN.out.1 e.symm)
    · exact Chs.block (chs_setCell (S := fun k => k = gd) w2 rfl 4 _) HF2.out (fun e => HVf2.out e)
    · exact HC2.out.trans (chs_setCell (S := S) w2 HS.out.1 4 _) (fun _ _ h => h)
  · clear hown
    go_enter Try.func37, Try.ntmps37
    go_upto_region 1 with ((with_reducible show wpList _ _ _ (⟨some 8, _, _, _, _, _⟩ :: _) _ _); refine wpList_copy_whole rfl (.tmp 6) (.tmp 7) 40 40 rfl 5 Try.underlying40 info5k gt gf n rfl rfl (U := 5) (b := bt) (b' := bf) HT.out HF.out HL.out.1 HL.out.2 ?_)
    intro w1 hr1 hc1
    have hb1 := Chs.block hc1 HB.out (fun e => HN.out.1 e)
    have HB1 := Lib.hid hb1
    have hO1 := HO.out.keepS hc1 (fun g hg e => (HV.out g hg).2.2 e)
    have HO1 := Lib.hid hO1
    have HT1 := Lib.hid hr1
    have HF1 := Lib.hid (Chs.block hc1 HF.out (fun e => HN.out.2 e.symm))
    have HC1 : Hid (Chs S w w1) := Lib.hid (hc1.mono (fun k e => e ▸ HS.out.2))
    obtain ⟨-, -, -, -, c4, -, -, f4⟩ := cells5 hb1
    clear hr1 hc1 hb1 hO1
    go_upto_region 2 with ((with_reducible show wpList _ _ _ (⟨none, .call _, _, _, _, _⟩ :: _) _ _); refine wpList_clear_own rfl (.tmp 12) 63 rfl 69 i69 _ Try.underlying63 hi69 hz69 (s := 2) rfl z69_one rfl HO1.out ?_)
    rintro w2 ⟨p', cap', hp', hO2⟩ hc2
    injection hp' with e1 e2 e3
    subst e1 e3
    have hb2 := Chs.block hc2 HB1.out (fun e => (HV.out gd e).2.1 rfl)
    have HB2 := Lib.hid hb2
    have HO2 := Lib.hid hO2
    have HT2 := Lib.hid (Chs.block hc2 HT1.out (fun e => (HV.out gt e).2.2 rfl))
    have HF2 := Lib.hid (Chs.block hc2 HF1.out (fun e => HVf.out gf e rfl))
    have HC2 : Hid (Chs S w w2) := Lib.hid (HC1.out.trans (hc2.mono (fun k e => (HV.out k e).1)) (fun _ _ h => h))
    obtain ⟨-, -, -, -, d4, -, -, g4⟩ := cells5 hb2
    clear hb2 hO2 hc2 c4 f4 HB1 HO1 HT1 HF1 HC1
    have HX : Hid (∀ x, (w2.setCell ⟨gd, 4, none⟩ x).heap[gd]? = some (.cells #[v0, v1, v2, v3, x] T (0, 0))) := Lib.hid (fun x => by
      rw [heap_setCell_same w2 gd 4 _ _ x HB2.out]; rfl)
    go_wp2_with fail
    go_end0
    refine ⟨rfl, _, HX.out _, ?_, ?_, ?_, ?_, ?_⟩
    · exact HO2.out.keepS (chs_setCell (S := fun k => k = gd) w2 rfl 4 _) (fun g hg e => (HV.out g hg).2.1 e)
    · exact fun g hg => hg
    · exact Chs.block (chs_setCell (S := fun k => k = gd) w2 rfl 4 _) HT2.out (fun e => HN.out.1 e.symm)
    · exact Chs.block (chs_setCell (S := fun k => k = gd) w2 rfl 4 _) HF2.out (fun e => HVf2.out e)
    · exact HC2.out.trans (chs_setCell (S := S) w2 HS.out.1 4 _) (fun _ _ h => h)
end Go.Proofs.Ytmkdnfiiehgcaaa
