/- The statements' helper few; the grow law at an operation that looks at two open temporaries. -/
import Derived.Test.YtakhomofckcckaaGreatDoorHdA
import Derived.Test.YtakhomofckcckaaGreatDoorHit
namespace Go.Proofs.YtakhomofckcckaaGreatDoor
open Go Go.RowKit Go.Shelf
attribute [local go_sem] gAt gUpon
attribute [local simp] Gr.refl Gr.alloc

def fewX (x : Lf) : Lf := ⟨x.shown, x.text.extract 0 (min x.text.size 90), x.mark, x.salt.extract 0 (min x.salt.size 20), x.digest.extract 0 (min x.digest.size 40)⟩
def fewD (l : List Lf) : List Lf := (l.take 66).map fewX
theorem fewD_len (l : List Lf) : (fewD l).length ≤ 66 := by unfold fewD; rw [List.length_map, List.length_take]; omega
theorem few_step {l : List Lf} {k : Nat} {x : Lf} (h : l[k]? = some x) : ((l.take (k + 1)).map fewX).flatMap lfC = ((l.take k).map fewX).flatMap lfC ++ lfC (fewX x) := by
  rw [List.take_add_one, h, Option.toList_some, List.map_append, List.flatMap_append]
  simp
set_option maxRecDepth 100000 in
set_option maxHeartbeats 4000000 in
theorem few_any (v : Value) (l : List Lf) (w : World) (hv : Rws 5 lfC v l w) (hl : l.length ≤ 9223372036854775807) (hq : ∀ x ∈ l, x.text.size ≤ maxLen ∧ x.salt.size ≤ maxLen ∧ x.digest.size ≤ maxLen) :
    Calls Tryz.prog 12 #[v] w fun e w' => ∃ u, e = .returned u ∧ Own w.heap.size 5 u (fewD l).length ((fewD l).flatMap lfC) w' ∧ Gr w w' := by
  obtain ⟨i5, hi5, hz5, hsz5, hb5⟩ := info_parts infoLf
  have HI := Lib.hid hi5
  have HI0 := Lib.hid hz5
  have HI1 := Lib.hid hsz5
  have HI2 := Lib.hid hb5
  clear hi5 hz5 hsz5 hb5
  obtain ⟨p, c, rfl⟩ := hv.shape
  have HV := Lib.hid hv
  have HQ := Lib.hid hq
  clear hv hq
  go_enter Tryz.func12, Tryz.ntmps12
  go_wp2_with fail
  go_loopw [3, 4] (fun v3 v4 W => ∃ (k : Nat) (V : Value), k ≤ l.length ∧ k ≤ 66 ∧ v4 = .int .i64 (k : Int) ∧ V = v3 ∧ Hid (Own w.heap.size 5 V k (((l.take k).map fewX).flatMap lfC) W) ∧ Hid (Gr w W)) (fun _ v4 _ => l.length - (intOf v4).toNat)
  case atStart => exact ⟨0, _, Nat.zero_le _, Nat.zero_le _, rfl, rfl, Lib.hid (Own.nil _ _ _), Lib.hid (Gr.refl _)⟩
  case round =>
    obtain ⟨k, v3, hk, hk66, rfl, rfl, HO, HG⟩ := hrel
    by_cases hlt : k < l.length
    · have ht : decide (k < l.length) = true := decide_eq_true hlt
      by_cases h66 : k < 66
      · have ht2 : decide (k < 66) = true := decide_eq_true h66
        have ht2' : decide ((k : Int) < 66) = true := decide_eq_true (by omega)
        obtain ⟨x, hx⟩ : ∃ x, l[k]? = some x := ⟨_, List.getElem?_eq_getElem hlt⟩
        obtain ⟨g, off, rfl, hlc, hc⟩ := (HV.out.gr HG.out).at_ hx
        obtain ⟨q1, q2, q3⟩ := HQ.out x (List.mem_of_getElem? hx)
        unfold maxLen at q1 q2 q3
        have hc0 := hc 0 _ rfl
        have hc1 := hc 1 _ rfl
        have hc2 := hc 2 _ rfl
        have hc3 := hc 3 _ rfl
        have hc4 := hc 4 _ rfl
        rw [Nat.add_zero] at hc0
        rw [← Nat.add_assoc] at hc1 hc2 hc3 hc4
        obtain ⟨sh, t, m, sl, dg⟩ := x
        simp only at hc0 hc1 hc2 hc3 hc4 q1 q2 q3
        have HE : Hid (((l.take (k + 1)).map fewX).flatMap lfC = ((l.take k).map fewX).flatMap lfC ++ lfC ⟨sh, t.extract 0 (min t.size 90), m, sl.extract 0 (min sl.size 20), dg.extract 0 (min dg.size 40)⟩) := Lib.hid (few_step hx)
        have m1 : min (t.size : Int) 90 = ((min t.size 90 : Nat) : Int) := by omega
        have m2 : min (sl.size : Int) 20 = ((min sl.size 20 : Nat) : Int) := by omega
        have m3 : min (dg.size : Int) 40 = ((min dg.size 40 : Nat) : Int) := by omega
        have l1 : min t.size 90 ≤ t.size := Nat.min_le_left _ _
        have l2 : min sl.size 20 ≤ sl.size := Nat.min_le_left _ _
        have l3 : min dg.size 40 ≤ dg.size := Nat.min_le_left _ _
        clear hc hx
        go_upto_region 9 with fail
        refine wp_gen (F := fun y => Gr wr y ∧ y.heap[wr.heap.size]? = some (.cells #[.bool sh, .string (t.extract 0 (min t.size 90)), .int .i64 m, .string (sl.extract 0 (min sl.size 20)), .string (dg.extract 0 (min dg.size 40))] 35 (0, 0))) ⟨Gr.alloc _ _, heap_alloc_new _ _⟩ ?_
        generalize t.extract 0 (min t.size 90) = t1 at HE ⊢
        generalize sl.extract 0 (min sl.size 20) = sl1 at HE ⊢
        generalize dg.extract 0 (min dg.size 40) = dg1 at HE ⊢
        rintro wA ⟨hgA, hrA⟩
        obtain ⟨d0, d1, d2, d3, d4⟩ := row5 hrA
        have HGA := Lib.hid (HG.out.trans hgA)
        have HOA := Lib.hid (HO.out.gr hgA)
        clear hgA hrA m1 m2 m3 l1 l2 l3 hc0 hc1 hc2 hc3 hc4 HO HG
        go_wp2_with ((with_reducible show wpList _ _ _ (⟨some 50, _, _, _, _, _⟩ :: _) _ _); refine wpList_append_Own rfl (.tmp 47) (.tmp 49) 31 rfl 35 i5 (.agg #[.bool false, .string ⟨#[]⟩, .int .i64 0, .string ⟨#[]⟩, .string ⟨#[]⟩]) 5 64 Tryz.underlying31 HI.out HI0.out HI1.out HI2.out rfl (by decide) rfl (HOA.out.gr (Gr.alloc wA _)) ⟨wA.heap.size, 0, none⟩ 1 1 (lfC ⟨sh, t1, m, sl1, dg1⟩) rfl rfl (cells_new_at wA (lfC ⟨sh, t1, m, sl1, dg1⟩) 35) ?h1 (by decide) ?b1 ?b2 ?hB ?_)
        case h1 => exact lfC_one ⟨sh, t1, m, sl1, dg1⟩
        case b1 => unfold maxLen; omega
        case b2 => omega
        case hB => have := HGA.out.size; simp; omega
        intro v50 w50 hown hchg _
        have HG2 : Hid (Gr w w50) := Lib.hid (gr_step HGA.out (Gr.alloc _ _) hchg (fun g hg => Own.ge HOA.out hg))
        have HO2 : Hid (Own w.heap.size 5 v50 (k + 1) (((l.take (k + 1)).map fewX).flatMap lfC) w50) := Lib.hid (by rw [HE.out, List.map_take]; exact hown)
        clear hown hchg HGA HOA HE d0 d1 d2 d3 d4
        go_wp2_with fail
        go_roundw
        case rel => exact ⟨k + 1, _, by omega, by omega, by go_num, rfl, HO2, HG2⟩
        case measure => simp [intOf]; omega
      · have ht2 : decide (k < 66) = false := decide_eq_false h66
        have ht2' : decide ((k : Int) < 66) = false := decide_eq_false (by omega)
        have HF : Hid ((l.take k).map fewX = fewD l) := Lib.hid (by unfold fewD; rw [show k = 66 by omega])
        have HL : Hid ((fewD l).length = k) := Lib.hid (by unfold fewD; rw [List.length_map, List.length_take]; omega)
        clear hlt h66
        go_wp2_with fail
        go_ret
        refine ⟨_, rfl, ?_, HG.out⟩
        rw [HL.out, ← HF.out]
        exact HO.out
    · have ht : decide (k < l.length) = false := decide_eq_false hlt
      have HF : Hid ((l.take k).map fewX = fewD l) := Lib.hid (by unfold fewD; rw [List.take_of_length_le (show l.length ≤ k by omega), List.take_of_length_le (show l.length ≤ 66 by omega)])
      have HL : Hid ((fewD l).length = k) := Lib.hid (by unfold fewD; rw [List.length_map, List.length_take]; omega)
      clear hlt
      go_wp2_with fail
      go_ret
      refine ⟨_, rfl, ?_, HG.out⟩
      rw [HL.out, ← HF.out]
      exact HO.out
section
variable {P : Program} {ops : Array Oper} {w0 : World} {D : List Deferred} {N : Nat} {QT : Act → World → Prop} {o : Oper} {rest : List Oper} {Γ : Opn} {a : Act}
theorem grow_det2 (t1 t2 : Tmp) {V1 V2 : Value → World → Prop} (hN : a.tmps.size = N) (ht : t1 < N) (ht2 : t2 < N) (ho : Γ.lookup t1 = some V1) (ho2 : Γ.lookup t2 = some V2) (hs : isSelect o.op = false)
    (hf : free Γ ((o.looksAt ops).filter (fun t => t != t1 && t != t2)) = true) (hm : t1 ∈ o.looksAt ops) (hm2 : t2 ∈ o.looksAt ops)
    (hg : guardOff ops o t1 = true) (hg2 : guardOff ops o t2 = true) (hw : Region.wanted o (yielded ops a.tmps) = true) (hd : dstOk Γ N o.dst = true)
    {v : Value} (hob : ∀ w u u2, Gr w0 w → V1 u w → V2 u2 w → gAt P o ((a.put (some t1) u).put (some t2) u2) w (fun u _ => u = v)) (h : wpG P ops w0 D N QT rest (EG Γ (a.put o.dst v))) : wpG P ops w0 D N QT (o :: rest) (EG Γ a) := by
  refine ⟨fun u _ => u = v, stb_pure _, ?_, by rw [EG_put (dstOk_spec hN hd)]; exact h⟩
  intro a' w hG _ _ hl
  have hsame := same_two (t1 := t1) (t2 := t2) (by rw [hN]; exact ht) (by rw [hN]; exact ht2) hf hl
  have h1 := hl t1 hm
  simp only [EG, ho] at h1
  have h2 := hl t2 hm2
  simp only [EG, ho2] at h2
  exact .inl ⟨by rw [wanted_same hsame, wanted_put1 hg2, wanted_put1 hg]; exact hw, gAt_same hs hsame (hob w _ _ hG h1 h2)⟩
end
end Go.Proofs.YtakhomofckcckaaGreatDoor
