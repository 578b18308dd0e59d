/- The contract of the disk's Write. -/
import Derived.Test.YtmkdnfiiehgcaaaDsD
import Derived.Deep.RegionLaw
namespace Go.Proofs.Ytmkdnfiiehgcaaa
open Go.RowKit
attribute [local go_sem] gAt gUpon
attribute [local simp] Gr.refl Gr.alloc

theorem own_lt2 {B : Nat} {v : Value} {n : Nat} {xs : List Value} {w : World} (h : Own B 2 v (n + 1) xs w) {g : Nat} (hg : v.ownBlock = some g) : g < w.heap.size := by
  rcases h.2 with ⟨rfl, _⟩ | ⟨g', off, cap, rfl, hB, hc, hm, _, hw⟩
  · simp [Value.ownBlock] at hg
  · simp [Value.ownBlock] at hg; subst hg
    exact isSome_lt (hw 0 (by omega)).1
theorem chs_push {wA W w6 : World} {b : Option Nat} (hG : Gr wA W) (hc : Chg b W w6) : Chs (fun k => b = some k) wA w6 :=
  (Chs.of_gr hG).trans (Chs.of_chg (S := fun k => b = some k) hc (fun g hg => hg)) (fun _ _ h => h)
theorem new_ge {wA W : World} {v6 : Value} {b : Option Nat} (hG : Gr wA W) (h : ∀ g, v6.ownBlock = some g → b = some g ∨ W.heap.size ≤ g) : Hid (∀ g, v6.ownBlock = some g → b = some g ∨ wA.heap.size ≤ g) :=
  fun g hg => (h g hg).imp id (fun e => Nat.le_trans hG.size e)
/-- a write pushed onto the pending ones, as a step of the region's walk -/
theorem step_push {ops : Array Oper} {o : Oper} {a : Act} {W : World} {K : Act → World → Prop} {Q : Exit → Act → World → Prop} {E : Prop} (hg : o.guard = none) (s x : Operand)
    (ho : o.op = .call { callee := .builtin .append, args := #[s, x], argTypes := #[63, 63] }) (i : TypeInfo) (h1 : Try.prog.underlying 63 = some (.slice 69)) (h2 : Try.prog.info? 69 = some i) (h3 : i.zero = some (.agg #[.int .i64 0, .string ⟨#[]⟩])) (h4 : i.size = 2) (h5 : i.bytes = 24)
    {v : Value} {m : Nat} {xs : List Value} (hs : a.eval s = v) (hown : Own 0 2 v m xs W) (gb : Nat) (u0 u1 : Value) (hx : a.eval x = .slice (some ⟨gb, 0, none⟩) 1 1) (hrow : W.heap[gb]? = some (.cells #[u0, u1] 69 (0, 0)))
    (c0 : u0.oneCell' = true) (c1 : u1.oneCell' = true) (hm : m ≤ 1000000)
    (h : ∀ v' w', Own 0 2 v' (m + 1) (xs ++ [u0, u1]) w' → Chg v.ownBlock W w' → (∀ g, v'.ownBlock = some g → v.ownBlock = some g ∨ W.heap.size ≤ g) → K (a.put o.dst v') w') :
    if Region.wanted o (yielded ops a.tmps) = true then Oper.wp Try.prog o a W K Q else E := by
  refine step_of_list (ops' := #[]) hg ho ?_
  refine wpList_append_Own hg s x 63 ho 69 i _ 2 24 h1 h2 h3 h4 h5 rfl (by decide) hs hown ⟨gb, 0, none⟩ 1 1 [u0, u1] hx rfl ?_ ?_ (by decide) (by unfold maxLen; omega) (by omega) (Nat.zero_le _) ?_
  · intro j u hj
    rw [Addr.add_mid, cell_of_row _ _ _ _ _ _ hrow, Nat.zero_add]; simpa using hj
  · intro u hu; simp at hu; rcases hu with rfl | rfl <;> assumption
  · intro v' w' k1 k2 k3
    exact ⟨rfl, h v' w' k1 k2 k3⟩
/-- what holds behind the append and the store of the pending writes -/
def WF (S : Nat → Prop) (gd n : Nat) (d : Dk) (oN : Nat) (s : ByteArray) (w : World) (gw g1 g2 : Nat) (v6 : Value) (x : World) : Prop :=
  x.heap[gd]? = some (.cells #[.bool d.off, .int .i64 (d.left : Int), .slice (some ⟨g1, 0, none⟩) n n, .slice (some ⟨g2, 0, none⟩) n n, v6] 65 (0, 0)) ∧ ByRow 5 g1 d.dur x ∧ ByRow 5 g2 d.vis x ∧
    Own 0 2 v6 (d.pend ++ [(oN, s)]).length (pC (d.pend ++ [(oN, s)])) x ∧ x.heap[gw]? = some (.cells #[.int .i64 (oN : Int), .string s] 69 (0, 0)) ∧ Chs S w x ∧
    ∀ g, v6.ownBlock = some g → g ≠ gd ∧ g ≠ g1 ∧ g ≠ g2 ∧ g < x.heap.size ∧ (S g ∨ w.heap.size ≤ g)
set_option maxHeartbeats 2000000 in
theorem write_any {S : Nat → Prop} {gd n : Nat} {d : Dk} {w : World} (o : Int) (s : ByteArray) (h : DkAt S gd n d w) (hi : d.inv n) (hn : n ≤ 4194304) (hp : d.pend.length ≤ 1000000) (hob : -9223372036854775808 ≤ o ∧ o ≤ 9223372036854775807) (hS : ∀ k, S k → k < w.heap.size) :
    Calls Try.prog 21 #[.pointer (some ⟨gd, 0, none⟩), .int .i64 o, .string s] w fun e w' => e = .returned (.int .i64 (writeD d n o s).1) ∧ DkAt (Sx S w w') gd n (writeD d n o s).2 w' ∧ Chs S w w' := by
  have HC := Lib.hid (check_any h)
  have HI := Lib.hid (inside_any o (s.size : Int) h hn hob)
  have HD := Lib.hid h
  obtain ⟨i69, hi69, hz69, hsz69, hb69⟩ := info_parts info69
  obtain ⟨g1, g2, vp, s0, s1, s2, n1, n2, n3, hv, hb, h1, h2, ho⟩ := h
  by_cases hoff : d.off = true
  · have e1 : writeD d n o s = (251, d) := by unfold writeD; rw [if_pos hoff]
    rw [e1]
    rw [if_pos hoff] at HC
    clear hv hb h1 h2 ho e1 hoff hi HI hS
    go_enter Try.func21, Try.ntmps21
    go_wp2_with fail
    refine HC.out.mono ?_
    rintro e w1 ⟨rfl, rfl⟩
    go_wp2_with fail
    go_ret
    exact ⟨rfl, HD.out.mono (fun k hk => .inl hk), Chs.refl _ _⟩
  · rw [if_neg hoff] at HC
    by_cases hins : insideD n o (s.size : Int) = false
    · have e1 : writeD d n o s = (250, d) := by unfold writeD; rw [if_neg hoff, if_pos hins]
      rw [e1]
      rw [hins] at HI
      clear hv hb h1 h2 ho e1 hoff hi hS hins
      go_enter Try.func21, Try.ntmps21
      go_wp2_with fail
      refine HC.out.mono ?_
      rintro e w1 ⟨rfl, rfl⟩
      go_wp2_with fail
      refine HI.out.mono ?_
      rintro e w1 ⟨rfl, rfl⟩
      go_wp2_with fail
      go_ret
      exact ⟨rfl, HD.out.mono (fun k hk => .inl hk), Chs.refl _ _⟩
    · have hins' : insideD n o (s.size : Int) = true := by simpa using hins
      obtain ⟨ho1, -, ho2, ho3⟩ := insideD_out hins'
      obtain ⟨oN, rfl⟩ := Int.eq_ofNat_of_zero_le ho1
      have e1 : writeD d n (oN : Int) s = (0, d.wrote oN s) := writeD_ok (by simpa using hoff) (by omega)
      rw [e1]
      rw [hins'] at HI
      clear e1 hoff hins hins' HD hob
      obtain ⟨p, c, rfl⟩ := ho.slice2
      have hW : (w.alloc (.cells #[.int .i64 (oN : Int), .string s] 69)).cell? ⟨w.heap.size, 0, none⟩ = some (.int .i64 (oN : Int)) ∧ (w.alloc (.cells #[.int .i64 (oN : Int), .string s] 69)).cell? ⟨w.heap.size, 1, none⟩ = some (.string s) :=
        ⟨by rw [cell_of_row _ _ _ _ _ _ (heap_alloc_new w _)]; rfl, by rw [cell_of_row _ _ _ _ _ _ (heap_alloc_new w _)]; rfl⟩
      have HW := Lib.hid hW
      have HB := Lib.hid hb
      have HV := Lib.hid hv
      have HO := Lib.hid ho
      have H1 := Lib.hid h1
      have H2 := Lib.hid h2
      have HInv := Lib.hid hi
      clear hW hb hv ho h1 h2 hi
      go_enter Try.func21, Try.ntmps21
      go_wp2_with fail
      refine HC.out.mono ?_
      rintro e w1 ⟨rfl, rfl⟩
      go_wp2_with fail
      refine HI.out.mono ?_
      rintro e w1 ⟨rfl, rfl⟩
      clear HC HI
      go_upto_region 7 with fail
      refine wp_gen (F := fun x => Gr w x ∧ x.heap[w.heap.size]? = some (.cells #[.int .i64 (oN : Int), .string s] 69 (0, 0)) ∧ x.heap.size = w.heap.size + 1) ⟨Gr.alloc _ _, heap_alloc_new _ _, by simp⟩ ?_
      rintro wA ⟨hgA, hrA, hzA⟩
      have HGA := Lib.hid hgA
      have HrA := Lib.hid hrA
      have HzA := Lib.hid hzA
      have hlt : gd < w.heap.size := hS gd s0
      have hltA : gd < wA.heap.size := by omega
      obtain ⟨-, -, -, -, c4, -, -, f4⟩ := cells5 (hgA.block HB.out)
      have w0 : wA.cell? ⟨w.heap.size, 0, none⟩ = some (.int .i64 (oN : Int)) := by rw [cell_of_row _ _ _ _ _ _ hrA]; rfl
      have w1 : wA.cell? ⟨w.heap.size, 1, none⟩ = some (.string s) := by rw [cell_of_row _ _ _ _ _ _ hrA]; rfl
      have HOA := Lib.hid (HO.out.gr hgA)
      clear hgA hrA hzA HW HO
      go_region_law (first
        | (refine step_push rfl (.tmp 27) (.tmp 29) rfl i69 Try.underlying63 hi69 hz69 hsz69 hb69 rfl (HOA.out.gr ((Gr.alloc wA _).trans (Gr.drew _))) wA.heap.size _ _ rfl (heap_alloc_new wA _) rfl rfl hp ?_
           intro v6 w6 hown6 hchg6 hnew6
           obtain ⟨p6, c6, rfl⟩ := hown6.slice2
           have hch6 : Chs (fun k => (Value.slice p d.pend.length c).ownBlock = some k) wA w6 := chs_push ((Gr.alloc wA _).trans (Gr.drew _)) hchg6
           have c4' := hch6.cell c4 (fun e => (HV.out gd e).2.1 rfl)
           have f4' := (hch6.frozen (a := ⟨gd, 4, none⟩) hltA (fun e => (HV.out gd e).2.1 rfl)).trans f4
           have HO6 := Lib.hid hown6
           have HC6 := Lib.hid hch6
           have HN6 : Hid (∀ g, (Value.slice p6 (d.pend.length + 1) c6).ownBlock = some g → (Value.slice p d.pend.length c).ownBlock = some g ∨ wA.heap.size ≤ g) := new_ge ((Gr.alloc wA _).trans (Gr.drew _)) hnew6
           clear hown6 hchg6 hnew6 hch6)
        | (refine step_push rfl (.tmp 27) (.tmp 29) rfl i69 Try.underlying63 hi69 hz69 hsz69 hb69 rfl (HOA.out.gr (Gr.alloc wA _)) wA.heap.size _ _ rfl (heap_alloc_new wA _) rfl rfl hp ?_
           intro v6 w6 hown6 hchg6 hnew6
           obtain ⟨p6, c6, rfl⟩ := hown6.slice2
           have hch6 : Chs (fun k => (Value.slice p d.pend.length c).ownBlock = some k) wA w6 := chs_push (Gr.alloc wA _) hchg6
           have c4' := hch6.cell c4 (fun e => (HV.out gd e).2.1 rfl)
           have f4' := (hch6.frozen (a := ⟨gd, 4, none⟩) hltA (fun e => (HV.out gd e).2.1 rfl)).trans f4
           have HO6 := Lib.hid hown6
           have HC6 := Lib.hid hch6
           have HN6 : Hid (∀ g, (Value.slice p6 (d.pend.length + 1) c6).ownBlock = some g → (Value.slice p d.pend.length c).ownBlock = some g ∨ wA.heap.size ≤ g) := new_ge (Gr.alloc wA _) hnew6
           clear hown6 hchg6 hnew6 hch6)
        | (refine step_push rfl (.tmp 27) (.tmp 29) rfl i69 Try.underlying63 hi69 hz69 hsz69 hb69 rfl (HOA.out.gr (((Gr.alloc wA _).trans (Gr.drew _)).trans (Gr.drew _))) wA.heap.size _ _ rfl (heap_alloc_new wA _) rfl rfl hp ?_
           intro v6 w6 hown6 hchg6 hnew6
           obtain ⟨p6, c6, rfl⟩ := hown6.slice2
           have hch6 : Chs (fun k => (Value.slice p d.pend.length c).ownBlock = some k) wA w6 := chs_push (((Gr.alloc wA _).trans (Gr.drew _)).trans (Gr.drew _)) hchg6
           have c4' := hch6.cell c4 (fun e => (HV.out gd e).2.1 rfl)
           have f4' := (hch6.frozen (a := ⟨gd, 4, none⟩) hltA (fun e => (HV.out gd e).2.1 rfl)).trans f4
           have HO6 := Lib.hid hown6
           have HC6 := Lib.hid hch6
           have HN6 : Hid (∀ g, (Value.slice p6 (d.pend.length + 1) c6).ownBlock = some g → (Value.slice p d.pend.length c).ownBlock = some g ∨ wA.heap.size ≤ g) := new_ge (((Gr.alloc wA _).trans (Gr.drew _)).trans (Gr.drew _)) hnew6
           clear hown6 hchg6 hnew6 hch6))
      all_goals
        have hBA := Gr.block HGA.out HB.out
        have hb6 := HC6.out.block hBA (fun e => (HV.out gd e).2.1 rfl)
        have hb7 : (w6.setCell ⟨gd, 4, none⟩ (Value.slice p6 (d.pend.length + 1) c6)).heap[gd]? = some (.cells #[.bool d.off, .int .i64 (d.left : Int), .slice (some ⟨g1, 0, none⟩) n n, .slice (some ⟨g2, 0, none⟩) n n, (Value.slice p6 (d.pend.length + 1) c6)] 65 (0, 0)) := by
          rw [heap_setCell_same w6 gd 4 _ _ (Value.slice p6 (d.pend.length + 1) c6) hb6]; rfl
        have hcs : Chs (fun k => k = gd) w6 (w6.setCell ⟨gd, 4, none⟩ (Value.slice p6 (d.pend.length + 1) c6)) := chs_setCell (S := fun k => k = gd) w6 rfl 4 (Value.slice p6 (d.pend.length + 1) c6)
        have hv6 : ∀ g, (Value.slice p6 (d.pend.length + 1) c6).ownBlock = some g → g ≠ gd ∧ g ≠ g1 ∧ g ≠ g2 ∧ g < w6.heap.size ∧ (S g ∨ w.heap.size ≤ g) := fun g hg => by
          have hl6 := own_lt2 HO6.out hg
          rcases HN6.out g hg with e | e
          · obtain ⟨a1, a2, a3, a4⟩ := HV.out g e
            exact ⟨a2, a3, a4, hl6, .inl a1⟩
          · have := HzA.out
            have := hS g1 s1
            have := hS g2 s2
            exact ⟨by omega, by omega, by omega, hl6, .inr (by omega)⟩
        have hx : Hid (WF S gd n d oN s w w.heap.size g1 g2 (Value.slice p6 (d.pend.length + 1) c6) (w6.setCell ⟨gd, 4, none⟩ (Value.slice p6 (d.pend.length + 1) c6))) := Lib.hid (by
          refine ⟨hb7, ?_, ?_, ?_, ?_, ?_, ?_⟩
          · exact Chs.block hcs (HC6.out.block (Gr.block HGA.out H1.out) (fun e => (HV.out g1 e).2.2.1 rfl)) (fun e => n1 e.symm)
          · exact Chs.block hcs (HC6.out.block (Gr.block HGA.out H2.out) (fun e => (HV.out g2 e).2.2.2 rfl)) (fun e => n2 e.symm)
          · have h := HO6.out.keepS hcs (fun g hg e => (hv6 g hg).1 e)
            have e := pC_push d.pend (oN, s)
            rw [← e, List.length_append]; exact h
          · exact Chs.block hcs (HC6.out.block HrA.out (fun e => by have := hS _ (HV.out _ e).1; omega)) (fun e => by omega)
          · have h1 : Chs S w w6 := (Chs.of_gr HGA.out).trans (HC6.out.mono (fun k e => (HV.out k e).1)) (fun _ _ h => h)
            exact h1.trans (chs_setCell (S := S) w6 s0 4 (Value.slice p6 (d.pend.length + 1) c6)) (fun _ _ h => h)
          · intro g hg
            obtain ⟨a1, a2, a3, a4, a5⟩ := hv6 g hg
            refine ⟨a1, a2, a3, ?_, a5⟩
            have := hcs.size; omega)
        clear hBA hb6 hb7 hcs hv6 HO6 HC6 HN6 c4' f4' c4 f4 w0 w1 HOA HrA HzA hltA HGA
        go_upto_region 8 with fail
        refine wp_gen hx.out ?_
        clear hx
        rintro wB ⟨hb, h1, h2, hO, hw, hC, hv⟩
        obtain ⟨-, -, -, c3, -⟩ := cells5 hb
        have w0 : wB.cell? ⟨w.heap.size, 0, none⟩ = some (.int .i64 (oN : Int)) := by rw [cell_of_row _ _ _ _ _ _ hw]; rfl
        have w1 : wB.cell? ⟨w.heap.size, 1, none⟩ = some (.string s) := by rw [cell_of_row _ _ _ _ _ _ hw]; rfl
        have hS0 : ∀ m : GrS wB.drew, m.w.cell? ⟨w.heap.size, 0, none⟩ = some (.int .i64 (oN : Int)) := fun m => m.h.cell (w := wB.drew) w0
        have hS1 : ∀ m : GrS wB.drew, m.w.cell? ⟨w.heap.size, 1, none⟩ = some (.string s) := fun m => m.h.cell (w := wB.drew) w1
        have hS3 : ∀ m : GrS wB.drew, m.w.cell? ⟨gd, 3, none⟩ = some (.slice (some ⟨g2, 0, none⟩) n n) := fun m => m.h.cell (w := wB.drew) c3
        have HB := Lib.hid hb
        have H1 := Lib.hid h1
        have H2 := Lib.hid h2
        have HO := Lib.hid hO
        have HCc := Lib.hid hC
        have HV := Lib.hid hv
        clear hb h1 h2 hO hw hC hv c3 w0 w1
        refine region_grow 5 43 (by kernel_rfl) rfl (by kernel_rfl) rfl rfl ?_
        simp only [List.take_succ_cons, List.take_zero, List.drop_succ_cons, List.drop_zero]
        refine seg 5 rfl rfl rfl rfl ?_
        simp only [List.take_succ_cons, List.take_zero, List.drop_succ_cons, List.drop_zero]
        repeat (go_big_quiet_step (fail))
        refine wpQuiet_nil ?_
        intro _
        refine grow_end0 rfl rfl ?_
        intro wC hG
        have HG := Lib.hid (Gr.trans (Gr.drew wB) hG)
        have HOn := Lib.hid (onto_any (S := fun k => k = g2) (o := oN) (s := s) (g := g2) (n := n) (b := d.vis) (w := wC) (Gr.block HG.out H2.out) HInv.out.2.1 (by omega) hn rfl)
        clear hS0 hS1 hS3 hG
        go_wp2_with fail
        refine HOn.out.mono ?_
        rintro e wD ⟨rfl, hrD, hcD⟩
        have hbD := Chs.block hcD (Gr.block HG.out HB.out) (fun e => n2 e)
        have HU := Lib.hid (used_any hbD HInv.out.2.2.2.2)
        have H1D := Lib.hid (Chs.block hcD (Gr.block HG.out H1.out) (fun e => n3 e))
        have HrD := Lib.hid hrD
        have HOD := Lib.hid ((HO.out.gr HG.out).keepS hcD (fun g hg e => (HV.out g hg).2.2.1 e))
        have HCD : Hid (Chs S w wD) := Lib.hid ((HCc.out.trans (Chs.of_gr (S := S) HG.out) (fun _ _ h => h)).trans (hcD.mono (S' := S) (fun k e => e ▸ s2)) (fun _ _ h => h))
        have HszD : Hid (wB.heap.size ≤ wD.heap.size) := Lib.hid (Nat.le_trans HG.out.size hcD.size)
        clear hrD hcD hbD HOn HG HB H1 H2 HO HCc
        go_wp2_with fail
        refine HU.out.mono ?_
        rintro e wE ⟨rfl, hbE, hcE⟩
        have HF : Hid (DkAt (Sx S w wE) gd n (d.wrote oN s) wE ∧ Chs S w wE) := Lib.hid (by
          refine ⟨⟨g1, g2, _, .inl s0, .inl s1, .inl s2, n1, n2, n3, fun g hg => ?_, hbE, Chs.block hcE H1D.out (fun e => n1 e.symm), Chs.block hcE HrD.out (fun e => n2 e.symm), HOD.out.keepS hcE (fun g hg e => (HV.out g hg).1 e)⟩, HCD.out.trans (hcE.mono (S' := S) (fun k e => e ▸ s0)) (fun _ _ h => h)⟩
          obtain ⟨a1, a2, a3, a4, a5⟩ := HV.out g hg
          refine ⟨?_, a1, a2, a3⟩
          rcases a5 with a5 | a5
          · exact .inl a5
          · exact .inr ⟨a5, by have := HszD.out; have := hcE.size; omega⟩)
        clear hbE hcE HU H1D HrD HOD HCD HV
        go_wp2_with fail
        go_ret
        exact ⟨rfl, HF.out⟩
end Go.Proofs.Ytmkdnfiiehgcaaa
