/- The iterators over leaves. -/
import Derived.Test.YtakhomofckcckaaGreatDoorRdE
namespace Go.Proofs.YtakhomofckcckaaGreatDoor
section
open Go Go.RowKit Go.Shelf
attribute [local go_sem] Oper.semAt_some

theorem gr_grown {W W' : World} (h : Gr W W') : W.grownBy W' none := ⟨h.os, h.tape, h.output, h.size, fun k hk _ => (show Below W.heap.size W W' from h).block k hk⟩
set_option maxRecDepth 100000 in
set_option maxHeartbeats 2000000 in
theorem thoseS_stops (n : Nat) (hn : 1 ≤ n) (fh fo : Nat) (p : Lf → Bool) (o : Lf → ByteArray) (l : List Lf) (v : Value) (b1 b2 b3 : Nat) (w : World) (hv : Rws 5 lfC v l w) (hl : l.length ≤ 9223372036854775806)
    (c1 : w.cell? ⟨b1, 0, none⟩ = some v) (c2 : w.cell? ⟨b2, 0, none⟩ = some (.func (.func fh) #[] #[])) (c3 : w.cell? ⟨b3, 0, none⟩ = some (.func (.func fo) #[] #[]))
    (eh : ∀ args w, (callFunc fh args).run Tryz.prog w = .ok (.enter fh args) w) (eo : ∀ args w, (callFunc fo args).run Tryz.prog w = .ok (.enter fo args) w)
    (hh : ∀ x W, x ∈ l → Gr w W → Calls Tryz.prog fh #[.agg #[.bool x.shown, .string x.text, .int .i64 x.mark, .string x.salt, .string x.digest]] W fun e W' => e = .returned (.bool (p x)) ∧ Gr W W')
    (ho : ∀ x W, x ∈ l → p x = true → Below w.heap.size w W → Calls Tryz.prog fo #[.agg #[.bool x.shown, .string x.text, .int .i64 x.mark, .string x.salt, .string x.digest]] W fun e W' => e = .returned (.string (o x)) ∧ Gr W W') :
    SeqStopsK Fence.wide n Tryz.prog 74 #[.pointer (some ⟨b1, 0, none⟩), .pointer (some ⟨b2, 0, none⟩), .pointer (some ⟨b3, 0, none⟩)] (fun x : Lf => #[.string (o x)]) (Below w.heap.size) (fun xs => xs = l.filter p) (fun _ => True) l.length w := by
  intro L J Jx W hW hJ hJx hY h0
  obtain ⟨pp, c, rfl⟩ := hv.shape
  have HV := Lib.hid hv
  have HA := Lib.hid hJ
  have HH := Lib.hid hh
  have HO := Lib.hid ho
  have H0 := Lib.hid hW
  have d1 : W.cell? ⟨b1, 0, none⟩ = some (.slice pp l.length c) := Gr.cell hW c1
  have C2 := Lib.hid c2
  have C3 := Lib.hid c3
  clear c1 c2 c3 hv hJ hh ho hW
  refine callsIn_of_wp Tryz.func74 rfl trivial ?_ rfl
  simp only [Tryz.ntmps74, List.size_toArray, List.length_cons, List.length_nil, Nat.reduceAdd, Nat.reduceSub, Array.replicate_succ, Array.replicate_zero, List.push_toArray, List.append_toArray, List.nil_append, List.cons_append]
  gi_wp2
  clear d1
  gi_loopw [9] (fun t wr => ∃ k : Nat, k ≤ l.length ∧ t = .int .i64 (k : Int) ∧ J ((l.take k).filter p) wr ∧ Hid (Below w.heap.size w wr)) (fun t _ => l.length - (intOf t).toNat)
  case atStart => exact ⟨0, Nat.zero_le _, rfl, h0, H0⟩
  clear h0 H0
  case round =>
    obtain ⟨k, hk, rfl, hJs, HB⟩ := hrel
    by_cases hlt : k < l.length
    · have tk : decide (k < l.length) = true := decide_eq_true hlt
      obtain ⟨x, hx⟩ : ∃ x, l[k]? = some x := ⟨_, List.getElem?_eq_getElem hlt⟩
      obtain ⟨g, off, rfl, hlc, hc⟩ := (HV.out.gr (show Gr w wr from HB.out)).at_ hx
      have hgl : g < wr.heap.size := World.block_lt_of_cell? wr _ (hc 0 _ rfl)
      have hc0 := hc 0 _ rfl
      have hc1 := hc 1 _ rfl
      have hc2 := hc 2 _ rfl
      have hc3 := hc 3 _ rfl
      have hc4 := hc 4 _ rfl
      rw [Nat.add_zero] at hc0
      rw [← Nat.add_assoc] at hc1 hc2 hc3 hc4
      have d2 := (show Gr w wr from HB.out).cell C2.out
      have d3 := (show Gr w wr from HB.out).cell C3.out
      have hb2 := World.block_lt_of_cell? wr _ d2
      have hb3 := World.block_lt_of_cell? wr _ d3
      simp only at hb2 hb3
      have Hx := Lib.hid hx
      clear hc hx
      obtain ⟨sh, t, m, sl, dg⟩ := x
      simp only at hc0 hc1 hc2 hc3 hc4
      gi_wp2
      have hrow := heap_alloc_new wr (.cells #[.bool sh, .string t, .int .i64 m, .string sl, .string dg] 35)
      have hga := Gr.alloc wr (.cells #[.bool sh, .string t, .int .i64 m, .string sl, .string dg] 35)
      refine ⟨trivial, (callsIn_wide.2 (HH.out ⟨sh, t, m, sl, dg⟩ _ (List.mem_of_getElem? Hx.out) ((show Gr w wr from HB.out).trans hga))).mono ?_⟩
      rintro e w1 ⟨rfl, hg⟩
      have HG := Lib.hid (hga.trans hg)
      obtain ⟨r0, r1, r2, r3, r4⟩ := row5 (hg.block hrow)
      have d3 := HG.out.cell d3
      have hst : (l.take (k + 1)).filter p = (l.take k).filter p ++ (if p ⟨sh, t, m, sl, dg⟩ then [⟨sh, t, m, sl, dg⟩] else []) := by
        rw [List.take_add_one, Hx.out, Option.toList_some, List.filter_append]
        by_cases h : p ⟨sh, t, m, sl, dg⟩ = true <;> simp [h]
      have hlen : ((l.take k).filter p).length < l.length := Nat.lt_of_le_of_lt (List.length_filter_le _ _) (by rw [List.length_take]; omega)
      have hmem := List.mem_of_getElem? Hx.out
      obtain ⟨bp, hp⟩ : ∃ bp, p ⟨sh, t, m, sl, dg⟩ = bp := ⟨_, rfl⟩
      rw [hp] at hst ⊢
      clear hrow hga hg d2 hc0 hc1 hc2 hc3 hc4
      cases bp with
      | false =>
        have HS : Hid ((l.take (k + 1)).filter p = (l.take k).filter p) := Lib.hid (by rw [hst]; simp)
        have HJ1 := Lib.hid (HA.out _ wr w1 none hJs (gr_grown HG.out) (fun r e => by cases e))
        clear hst hp
        gi_wp2
        refine ⟨fun f h => (by cases h), ?_⟩
        gi_wp2
        try (refine ⟨fun f h => (by cases h), ?_⟩; gi_wp2)
        go_roundw
        case rel => exact ⟨k + 1, by omega, by go_num, by rw [HS.out]; exact HJ1.out, Lib.hid (HB.out.trans ((show Below wr.heap.size wr w1 from HG.out).mono HB.out.size))⟩
        case measure => simp [intOf]; omega
      | true =>
        have HS : Hid ((l.take (k + 1)).filter p = (l.take k).filter p ++ [⟨sh, t, m, sl, dg⟩]) := Lib.hid (by rw [hst]; simp)
        have HB1 := Lib.hid (HB.out.trans ((show Below wr.heap.size wr w1 from HG.out).mono HB.out.size))
        have hb3' := World.block_lt_of_cell? w1 _ d3
        simp only at hb3'
        clear hst
        gi_wp2
        refine ⟨trivial, (callsIn_wide.2 (HO.out ⟨sh, t, m, sl, dg⟩ _ hmem hp HB1.out)).mono ?_⟩
        rintro e w2 ⟨rfl, hg2⟩
        have HG2 := Lib.hid (HG.out.trans hg2)
        have hJ2 := HA.out _ wr w2 none hJs (gr_grown HG2.out) (fun r e => by cases e)
        obtain ⟨fn, tmps, assign, body, hy, hR⟩ := hY _ ⟨sh, t, m, sl, dg⟩ w2 hJ2 hlen
        have HB2 := Lib.hid (HB.out.trans ((show Below wr.heap.size wr w2 from HG2.out).mono HB.out.size))
        clear hJ2 hg2 hp
        gi_wp2
        refine hR.mono ?_
        rintro e W3 (⟨rfl, hJ3, hk3⟩ | ⟨rfl, hJx3⟩)
        · have HJ3 := Lib.hid hJ3
          have HB3 := Lib.hid (HB2.out.trans hk3)
          clear hJ3 hk3 hy hR
          gi_wp2
          go_roundw
          case rel => exact ⟨k + 1, by omega, by go_num, by rw [HS.out]; exact HJ3.out, HB3⟩
          case measure => simp [intOf]; omega
        · gi_wp2
          refine bodyPost_ret (results_none rfl _ _ _) rfl ?_
          exact ⟨⟨_, rfl⟩, .inr ⟨_, trivial, hJx3⟩⟩
    · have tk : decide (k < l.length) = false := decide_eq_false hlt
      have HS : Hid ((l.take k).filter p = l.filter p) := Lib.hid (by rw [List.take_of_length_le (by omega)])
      clear hlt
      gi_wp2
      go_end0
      exact ⟨⟨_, rfl⟩, .inl ⟨_, rfl, by rw [← HS.out]; exact hJs⟩⟩
end
section
open Go Go.RowKit Go.Shelf
section
attribute [local go_sem] Oper.semAt_some

set_option maxRecDepth 100000 in
set_option maxHeartbeats 2000000 in
theorem thoseL_stops (n : Nat) (hn : 1 ≤ n) (fh fo : Nat) (p : Lf → Bool) (o : Lf → Ln) (l : List Lf) (v : Value) (b1 b2 b3 : Nat) (w : World) (hv : Rws 5 lfC v l w) (hl : l.length ≤ 9223372036854775806)
    (c1 : w.cell? ⟨b1, 0, none⟩ = some v) (c2 : w.cell? ⟨b2, 0, none⟩ = some (.func (.func fh) #[] #[])) (c3 : w.cell? ⟨b3, 0, none⟩ = some (.func (.func fo) #[] #[]))
    (eh : ∀ args w, (callFunc fh args).run Tryz.prog w = .ok (.enter fh args) w) (eo : ∀ args w, (callFunc fo args).run Tryz.prog w = .ok (.enter fo args) w)
    (hh : ∀ x W, x ∈ l → Gr w W → Calls Tryz.prog fh #[.agg #[.bool x.shown, .string x.text, .int .i64 x.mark, .string x.salt, .string x.digest]] W fun e W' => e = .returned (.bool (p x)) ∧ Gr W W')
    (ho : ∀ x W, x ∈ l → p x = true → Below w.heap.size w W → Calls Tryz.prog fo #[.agg #[.bool x.shown, .string x.text, .int .i64 x.mark, .string x.salt, .string x.digest]] W fun e W' => e = .returned (.agg #[.string (o x).1, .int .i64 (o x).2]) ∧ Gr W W') :
    SeqStopsK Fence.wide n Tryz.prog 79 #[.pointer (some ⟨b1, 0, none⟩), .pointer (some ⟨b2, 0, none⟩), .pointer (some ⟨b3, 0, none⟩)] (fun x : Lf => #[.agg #[.string (o x).1, .int .i64 (o x).2]]) (Below w.heap.size) (fun xs => xs = l.filter p) (fun _ => True) l.length w := by
  intro L J Jx W hW hJ hJx hY h0
  obtain ⟨pp, c, rfl⟩ := hv.shape
  have HV := Lib.hid hv
  have HA := Lib.hid hJ
  have HH := Lib.hid hh
  have HO := Lib.hid ho
  have H0 := Lib.hid hW
  have d1 : W.cell? ⟨b1, 0, none⟩ = some (.slice pp l.length c) := Gr.cell hW c1
  have C2 := Lib.hid c2
  have C3 := Lib.hid c3
  clear c1 c2 c3 hv hJ hh ho hW
  refine callsIn_of_wp Tryz.func79 rfl trivial ?_ rfl
  simp only [Tryz.ntmps79, List.size_toArray, List.length_cons, List.length_nil, Nat.reduceAdd, Nat.reduceSub, Array.replicate_succ, Array.replicate_zero, List.push_toArray, List.append_toArray, List.nil_append, List.cons_append]
  gi_wp2
  clear d1
  gi_loopw [9] (fun t wr => ∃ k : Nat, k ≤ l.length ∧ t = .int .i64 (k : Int) ∧ J ((l.take k).filter p) wr ∧ Hid (Below w.heap.size w wr)) (fun t _ => l.length - (intOf t).toNat)
  case atStart => exact ⟨0, Nat.zero_le _, rfl, h0, H0⟩
  clear h0 H0
  case round =>
    obtain ⟨k, hk, rfl, hJs, HB⟩ := hrel
    by_cases hlt : k < l.length
    · have tk : decide (k < l.length) = true := decide_eq_true hlt
      obtain ⟨x, hx⟩ : ∃ x, l[k]? = some x := ⟨_, List.getElem?_eq_getElem hlt⟩
      obtain ⟨g, off, rfl, hlc, hc⟩ := (HV.out.gr (show Gr w wr from HB.out)).at_ hx
      have hgl : g < wr.heap.size := World.block_lt_of_cell? wr _ (hc 0 _ rfl)
      have hc0 := hc 0 _ rfl
      have hc1 := hc 1 _ rfl
      have hc2 := hc 2 _ rfl
      have hc3 := hc 3 _ rfl
      have hc4 := hc 4 _ rfl
      rw [Nat.add_zero] at hc0
      rw [← Nat.add_assoc] at hc1 hc2 hc3 hc4
      have d2 := (show Gr w wr from HB.out).cell C2.out
      have d3 := (show Gr w wr from HB.out).cell C3.out
      have hb2 := World.block_lt_of_cell? wr _ d2
      have hb3 := World.block_lt_of_cell? wr _ d3
      simp only at hb2 hb3
      have Hx := Lib.hid hx
      clear hc hx
      obtain ⟨sh, t, m, sl, dg⟩ := x
      simp only at hc0 hc1 hc2 hc3 hc4
      gi_wp2
      have hrow := heap_alloc_new wr (.cells #[.bool sh, .string t, .int .i64 m, .string sl, .string dg] 35)
      have hga := Gr.alloc wr (.cells #[.bool sh, .string t, .int .i64 m, .string sl, .string dg] 35)
      refine ⟨trivial, (callsIn_wide.2 (HH.out ⟨sh, t, m, sl, dg⟩ _ (List.mem_of_getElem? Hx.out) ((show Gr w wr from HB.out).trans hga))).mono ?_⟩
      rintro e w1 ⟨rfl, hg⟩
      have HG := Lib.hid (hga.trans hg)
      obtain ⟨r0, r1, r2, r3, r4⟩ := row5 (hg.block hrow)
      have d3 := HG.out.cell d3
      have hst : (l.take (k + 1)).filter p = (l.take k).filter p ++ (if p ⟨sh, t, m, sl, dg⟩ then [⟨sh, t, m, sl, dg⟩] else []) := by
        rw [List.take_add_one, Hx.out, Option.toList_some, List.filter_append]
        by_cases h : p ⟨sh, t, m, sl, dg⟩ = true <;> simp [h]
      have hlen : ((l.take k).filter p).length < l.length := Nat.lt_of_le_of_lt (List.length_filter_le _ _) (by rw [List.length_take]; omega)
      have hmem := List.mem_of_getElem? Hx.out
      obtain ⟨bp, hp⟩ : ∃ bp, p ⟨sh, t, m, sl, dg⟩ = bp := ⟨_, rfl⟩
      rw [hp] at hst ⊢
      clear hrow hga hg d2 hc0 hc1 hc2 hc3 hc4
      cases bp with
      | false =>
        have HS : Hid ((l.take (k + 1)).filter p = (l.take k).filter p) := Lib.hid (by rw [hst]; simp)
        have HJ1 := Lib.hid (HA.out _ wr w1 none hJs (gr_grown HG.out) (fun r e => by cases e))
        clear hst hp
        gi_wp2
        refine ⟨fun f h => (by cases h), ?_⟩
        gi_wp2
        try (refine ⟨fun f h => (by cases h), ?_⟩; gi_wp2)
        go_roundw
        case rel => exact ⟨k + 1, by omega, by go_num, by rw [HS.out]; exact HJ1.out, Lib.hid (HB.out.trans ((show Below wr.heap.size wr w1 from HG.out).mono HB.out.size))⟩
        case measure => simp [intOf]; omega
      | true =>
        have HS : Hid ((l.take (k + 1)).filter p = (l.take k).filter p ++ [⟨sh, t, m, sl, dg⟩]) := Lib.hid (by rw [hst]; simp)
        have HB1 := Lib.hid (HB.out.trans ((show Below wr.heap.size wr w1 from HG.out).mono HB.out.size))
        have hb3' := World.block_lt_of_cell? w1 _ d3
        simp only at hb3'
        clear hst
        gi_wp2
        refine ⟨trivial, (callsIn_wide.2 (HO.out ⟨sh, t, m, sl, dg⟩ _ hmem hp HB1.out)).mono ?_⟩
        rintro e w2 ⟨rfl, hg2⟩
        have HG2 := Lib.hid (HG.out.trans hg2)
        have hJ2 := HA.out _ wr w2 none hJs (gr_grown HG2.out) (fun r e => by cases e)
        obtain ⟨fn, tmps, assign, body, hy, hR⟩ := hY _ ⟨sh, t, m, sl, dg⟩ w2 hJ2 hlen
        have HB2 := Lib.hid (HB.out.trans ((show Below wr.heap.size wr w2 from HG2.out).mono HB.out.size))
        clear hJ2 hg2 hp
        gi_wp2
        refine hR.mono ?_
        rintro e W3 (⟨rfl, hJ3, hk3⟩ | ⟨rfl, hJx3⟩)
        · have HJ3 := Lib.hid hJ3
          have HB3 := Lib.hid (HB2.out.trans hk3)
          clear hJ3 hk3 hy hR
          gi_wp2
          go_roundw
          case rel => exact ⟨k + 1, by omega, by go_num, by rw [HS.out]; exact HJ3.out, HB3⟩
          case measure => simp [intOf]; omega
        · gi_wp2
          refine bodyPost_ret (results_none rfl _ _ _) rfl ?_
          exact ⟨⟨_, rfl⟩, .inr ⟨_, trivial, hJx3⟩⟩
    · have tk : decide (k < l.length) = false := decide_eq_false hlt
      have HS : Hid ((l.take k).filter p = l.filter p) := Lib.hid (by rw [List.take_of_length_le (by omega)])
      clear hlt
      gi_wp2
      go_end0
      exact ⟨⟨_, rfl⟩, .inl ⟨_, rfl, by rw [← HS.out]; exact hJs⟩⟩
end
attribute [local go_sem] gAt gUpon
attribute [local simp] Gr.refl Gr.alloc
theorem isShown_any (x : Lf) (w : World) :
    Calls Tryz.prog 51 #[.agg #[.bool x.shown, .string x.text, .int .i64 x.mark, .string x.salt, .string x.digest]] w fun e w' => e = .returned (.bool x.shown) ∧ Gr w w' := by
  obtain ⟨sh, t, m, sl, dg⟩ := x
  simp only
  go_enter Tryz.func51, Tryz.ntmps51
  go_wp2_with fail
  go_ret
  exact ⟨rfl, Gr.alloc _ _⟩
theorem line_any (x : Lf) (w : World) :
    Calls Tryz.prog 52 #[.agg #[.bool x.shown, .string x.text, .int .i64 x.mark, .string x.salt, .string x.digest]] w fun e w' => e = .returned (.agg #[.string x.text, .int .i64 x.mark]) ∧ Gr w w' := by
  obtain ⟨sh, t, m, sl, dg⟩ := x
  simp only
  go_enter Tryz.func52, Tryz.ntmps52
  go_wp2_with fail
  have hnew := heap_alloc_new (w.alloc (.cells #[.bool sh, .string t, .int .i64 m, .string sl, .string dg] 81)) (.cells #[.string t, .int .i64 m] 33)
  have hz : (w.alloc (.cells #[.bool sh, .string t, .int .i64 m, .string sl, .string dg] 81)).heap.size = w.heap.size + 1 := by simp
  rw [hz] at hnew
  refine bodyPost_ret (results_cell_row rfl _ _ (w.heap.size + 1) 33 _ (0, 0) _ rfl hnew Tryz.underlying33 rfl (by kernel_rfl)) rfl ?_
  exact ⟨rfl, (Gr.alloc _ _).trans (Gr.alloc _ _)⟩
end
end Go.Proofs.YtakhomofckcckaaGreatDoor
