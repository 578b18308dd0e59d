/- What collects lines that an iterator gives, and redact.Lines. -/
import Derived.Test.YtakhomofckcckaaGreatDoorMN
namespace Go.Proofs.YtakhomofckcckaaGreatDoor
section
open Go Go.RowKit Go.Shelf
section
attribute [local go_sem] Oper.semAt_some

theorem infoLn : (Tryz.prog.info? 33).map (fun i => (i.zero, i.size, i.bytes)) = some (some (.agg #[.string ⟨#[]⟩, .int .i64 0]), 2, 24) := by kernel_rfl
theorem flat_len {α : Type} {s : Nat} {enc : α → List Value} (hs : ∀ x, (enc x).length = s) : ∀ l : List α, (l.flatMap enc).length = l.length * s
  | [] => by simp
  | x :: l => by rw [List.flatMap_cons, List.length_append, hs, flat_len hs l, List.length_cons, Nat.succ_mul]; omega
theorem rws_get {α : Type} {s : Nat} {enc : α → List Value} (hs : ∀ x, (enc x).length = s) : ∀ (l : List α) (i j : Nat) (x : α) (u : Value), l[i]? = some x → (enc x)[j]? = some u → (l.flatMap enc)[i * s + j]? = some u
  | [], i, j, x, u, h, _ => by simp at h
  | y :: l, 0, j, x, u, h, hu => by
    simp at h
    subst h
    rw [List.flatMap_cons, Nat.zero_mul, Nat.zero_add, List.getElem?_append_left (List.getElem?_eq_some_iff.1 hu).1]
    exact hu
  | y :: l, i + 1, j, x, u, h, hu => by
    rw [List.flatMap_cons, List.getElem?_append_right (by rw [hs, Nat.succ_mul]; omega), hs, show (i + 1) * s + j - s = i * s + j by rw [Nat.succ_mul]; omega]
    exact rws_get hs l i j x u (by simpa using h) hu
theorem rws_of_row {α : Type} {s : Nat} {enc : α → List Value} (hs : ∀ x, (enc x).length = s) {W : World} {base : Nat} {e : TypeId} {v : Value} {L : List α} (h : W.ownsRow base e s v L.length (L.flatMap enc)) : Rws s enc v L W := by
  rcases h.2 with ⟨h1, h2⟩ | ⟨g, c, cur, rfl, _, hg, h3, h4, h5, ht⟩
  · exact .inl ⟨List.eq_nil_of_length_eq_zero h2, none, 0, by rw [h1]⟩
  · refine .inr ⟨g, 0, c, rfl, h3, fun i x j u hx hu => ?_⟩
    rw [cell_of_row _ _ _ _ _ _ hg]
    have hk := rws_get hs L i j x u hx hu
    rw [← ht] at hk
    have hl := (List.getElem?_eq_some_iff.1 hk).1
    rw [List.getElem?_take_of_lt (by rw [List.length_take] at hl; omega)] at hk
    simpa using hk
theorem row_mono {w : World} {base base' : Nat} {e : TypeId} {size : Nat} {v : Value} {n : Nat} {xs : List Value} (h : w.ownsRow base e size v n xs) (hb : base' ≤ base) : w.ownsRow base' e size v n xs := by
  refine ⟨h.1, ?_⟩
  rcases h.2 with h2 | ⟨g, cap, cur, h1, h2, h3⟩
  · exact .inl h2
  · exact .inr ⟨g, cap, cur, h1, Nat.le_trans hb h2, h3⟩
theorem cells_new_at (w : World) (l : List Value) (t : TypeId) : ∀ (j : Nat) (u : Value), l[j]? = some u → (w.alloc (.cells l.toArray t)).cell? ((⟨w.heap.size, 0, none⟩ : Addr).add j) = some u := by
  intro j u h
  rw [Addr.add_mid, Nat.zero_add]
  exact cell_new_at w l.toArray t w.heap.size j u rfl (by simpa using h)
set_option maxRecDepth 100000 in
set_option maxHeartbeats 2000000 in
theorem appendSeqL_any (gf : Nat) (lb : Array Value) (eg : ∀ args w, (callFunc gf args).run Tryz.prog w = .ok (.enter gf args) w) (o : Lf → Ln) (L : List Lf) (N : Nat) (hN : N ≤ 1000000) (w0 w : World)
    (hseq : SeqStopsK Fence.wide 5 Tryz.prog gf lb (fun x : Lf => #[.agg #[.string (o x).1, .int .i64 (o x).2]]) (Below w0.heap.size) (fun xs => xs = L) (fun _ => True) N w0) (hb0 : Below w0.heap.size w0 w) :
    Calls Tryz.prog 78 #[.slice none 0 0, .func (.func gf) #[] lb] w fun e W' => ∃ u, e = .returned u ∧ W'.ownsRow w.heap.size 33 2 u L.length (L.flatMap fun x => lnC (o x)) ∧ Below w.heap.size w W' := by
  obtain ⟨i0, hi, hz0, hz1, hz2⟩ := info_parts infoLn
  refine (callsIn_wide (n := 6)).1 ?_
  refine callsIn_of_wp_marks Tryz.func78 rfl trivial ?_ rfl
  simp only [Tryz.ntmps78, List.size_toArray, List.length_cons, List.length_nil, Nat.reduceAdd, Nat.reduceSub, Array.replicate_succ, Array.replicate_zero, List.push_toArray, List.append_toArray, List.nil_append, List.cons_append]
  have hB0 : Below w.heap.size w (w.alloc (.cells #[.slice none 0 0] 22)) := (Below.refl _ w).alloc (Nat.le_refl _) _
  have bO := Boxed.new w 22 (.slice none 0 0)
  gi_wp2
  refine wpIn_rangeFunc_box 5 (fun x : Lf => #[.string (o x).1, .int .i64 (o x).2]) 33 rfl (by decide) (gf := gf) (lb := lb) rfl trivial eg hseq belowK_t (belowK_b (by have := hb0.size; simp; omega)) (hb0.trans (hB0.mono hb0.size)) (fun _ => rfl)
    (fun pre W => (∃ v, Boxed W w.heap.size 22 v ∧ W.ownsRow w.heap.size 33 2 v pre.length (pre.flatMap fun x => lnC (o x)) ∧ True) ∧ Below w.heap.size w W)
    (fun _ _ _ => False)
    (OwnFrom.and (Own.from (holdsRow_own w.heap.size w.heap.size 22 33 2 (fun pre : List Lf => pre.length) (fun pre => pre.flatMap fun x => lnC (o x)) (fun _ _ => True)) _) (ownFrom_below (Nat.le_refl _) (by simp)))
    (fun _ _ _ _ _ hs _ _ => hs)
    ⟨⟨_, bO, World.ownsRow_nil _ _ _ _, trivial⟩, hB0⟩
    (fun pre W h => by obtain ⟨⟨v, hv, -⟩, -⟩ := h; have := hv.lt; simp; omega)
    (fun pre W o h => by obtain ⟨⟨v, hv, hr, ht⟩, hb⟩ := h; exact ⟨⟨v, hv.alloc _, hr.alloc _, ht⟩, hb.alloc hb.size _⟩)
    (fun pre W o h => (Below.refl _ W).alloc (Nat.le_trans hb0.size h.2.size) _)
    ?assign ?body ?done ?stop
  case assign =>
    intro l x W K hK
    simp [boxAct] at hK
    gi_wp2
    exact hK
  case stop => intro D c pre W _ _ h _; exact h.elim
  case body =>
    rintro l pre x Bx W hBx ⟨⟨v, hv, hrow, -⟩, hB⟩ hX hlt
    unfold boxAct
    have hc := hv.cell
    have hcx0 : W.cell? ⟨Bx, 0, none⟩ = some (.string (o x).1) := cell_of_row _ _ _ _ _ _ hX
    have hcx1 : W.cell? ⟨Bx, 1, none⟩ = some (.int .i64 (o x).2) := cell_of_row _ _ _ _ _ _ hX
    clear hX
    have hpx : (pre ++ [x]).flatMap (fun x => lnC (o x)) = pre.flatMap (fun x => lnC (o x)) ++ [.string (o x).1, .int .i64 (o x).2] := by rw [List.flatMap_append]; rfl
    generalize (o x).1 = ox at hpx hcx0 ⊢
    generalize (o x).2 = oy at hpx hcx1 ⊢
    have HPX := Lib.hid hpx
    clear hpx
    gi_wp2_with (gi_at_builtin; refine wpListIn_append_own _ rfl _ _ 22 rfl w.heap.size 33 i0 (.agg #[.string ⟨#[]⟩, .int .i64 0]) 2 24 Tryz.underlying22 hi hz0 hz1 hz2 rfl (by decide) _ _ _ rfl (hrow.alloc _) ⟨W.heap.size, 0, none⟩ 1 1 [.string ox, .int .i64 oy] rfl rfl (cells_new_at _ _ _) (by simp [Value.oneCell']) (by unfold maxLen; omega) (by omega) (by have := hB.size; simp; omega) ?_; intro v' w1 hown' hgrow _; obtain ⟨g', cap', rfl⟩ := ownsRow_succ hown'; obtain ⟨hv1, hv2, hr2, hk2, hb2⟩ := hv.appended (by decide) hrow hB.size (Nat.le_refl _) hown' hgrow; have hc1 := hv1.cell; have hf1 := hv1.frozen)
    exact ⟨hk2.from _, hb2.mono hb0.size, ⟨_, hv2, by rw [HPX.out, List.length_append]; simpa using hr2, trivial⟩, hB.trans hb2⟩
  case done =>
    rintro D ys W hD rfl ⟨⟨v, hv, hrow, -⟩, hB⟩ hK
    have hc := hv.cell
    gi_wp2
    refine ⟨by simp, .inl ⟨_, _, rfl, run_takeDeferred hK, ?_⟩⟩
    exact ⟨_, results_tmp rfl _ _ _, v, rfl, ownsRow_putObj hrow _ hK rfl, hB.trans (belowK_b (w := w) (Nat.le_refl _) W D _ _ (by simp at hD; omega) hK rfl rfl)⟩
end
attribute [local go_sem] gAt gUpon
attribute [local simp] Gr.refl Gr.alloc
theorem collectL_any (gf : Nat) (lb : Array Value) (eg : ∀ args w, (callFunc gf args).run Tryz.prog w = .ok (.enter gf args) w) (o : Lf → Ln) (L : List Lf) (N : Nat) (hN : N ≤ 1000000) (w0 w : World)
    (hseq : SeqStopsK Fence.wide 5 Tryz.prog gf lb (fun x : Lf => #[.agg #[.string (o x).1, .int .i64 (o x).2]]) (Below w0.heap.size) (fun xs => xs = L) (fun _ => True) N w0) (hb0 : Below w0.heap.size w0 w) :
    Calls Tryz.prog 49 #[.func (.func gf) #[] lb] w fun e W' => ∃ u, e = .returned u ∧ W'.ownsRow w.heap.size 33 2 u L.length (L.flatMap fun x => lnC (o x)) ∧ Below w.heap.size w W' := by
  have HA := Lib.hid (appendSeqL_any gf lb eg o L N hN w0 w hseq hb0)
  clear hseq hb0
  go_enter Tryz.func49, Tryz.ntmps49
  go_wp2_with fail
  refine HA.out.mono ?_
  rintro e w1 ⟨u, rfl, h1, h2⟩
  go_wp2_with fail
  go_ret
  exact ⟨u, rfl, h1, h2⟩
/-- the lines that are shown -/
def linesD (l : List Lf) : List Ln := if listB l then (l.filter Lf.shown).map fun x => (x.text, x.mark) else []
theorem rLines_any (v : Value) (l : List Lf) (w : World) (hv : Rws 5 lfC v l w) (hl : l.length ≤ 9223372036854775806) :
    Calls Tryz.prog 21 #[v] w fun e w' => ∃ u, e = .returned u ∧ w'.ownsRow w.heap.size 33 2 u (linesD l).length ((linesD l).flatMap lnC) ∧ Gr w w' := by
  have HI := Lib.hid (isList_any v l w hv hl)
  cases hb : listB l with
  | false =>
    rw [hb] at HI
    obtain ⟨p, c, rfl⟩ := hv.shape
    rw [show linesD l = [] by unfold linesD; rw [hb]; rfl]
    clear hv
    go_enter Tryz.func21, Tryz.ntmps21
    go_wp2_with fail
    refine HI.out.mono ?_
    rintro e w1 ⟨rfl, hg⟩
    go_wp2_with fail
    go_ret
    exact ⟨_, rfl, World.ownsRow_nil _ _ _ _, hg⟩
  | true =>
    rw [hb] at HI
    have hb' := hb
    unfold listB at hb'
    rw [Bool.and_eq_true, decide_eq_true_eq] at hb'
    obtain ⟨h64, -⟩ := hb'
    have HE : Hid (linesD l = (l.filter Lf.shown).map fun x => (x.text, x.mark)) := Lib.hid (by unfold linesD; rw [hb]; rfl)
    obtain ⟨p, c, rfl⟩ := hv.shape
    have HV := Lib.hid hv
    have HCol := Lib.hid (fun (w0 w1 : World) (hv : Rws 5 lfC (.slice p l.length c) l w0) (b1 b2 b3 : Nat) (c1 : w0.cell? ⟨b1, 0, none⟩ = some (.slice p l.length c)) (c2 : w0.cell? ⟨b2, 0, none⟩ = some (.func (.func 51) #[] #[])) (c3 : w0.cell? ⟨b3, 0, none⟩ = some (.func (.func 52) #[] #[])) (hg : Gr w0 w1) =>
      collectL_any 79 #[.pointer (some ⟨b1, 0, none⟩), .pointer (some ⟨b2, 0, none⟩), .pointer (some ⟨b3, 0, none⟩)] (enters_of Tryz.func79 (by kernel_rfl) rfl) (fun x => (x.text, x.mark)) (l.filter Lf.shown) l.length (by omega) w0 w1
        (thoseL_stops 5 (by decide) 51 52 Lf.shown (fun x => (x.text, x.mark)) l (.slice p l.length c) b1 b2 b3 w0 hv (by omega) c1 c2 c3 (enters_of Tryz.func51 (by kernel_rfl) rfl) (enters_of Tryz.func52 (by kernel_rfl) rfl) (fun x W _ _ => isShown_any x W)
            (fun x W _ _ _ => line_any x W)) hg)
    clear hv hb
    go_enter Tryz.func21, Tryz.ntmps21
    go_wp2_with fail
    refine HI.out.mono ?_
    rintro e w1 ⟨rfl, hg⟩
    have HG1 := Lib.hid hg
    clear hg HI
    go_wp2_with fail
    refine (thoseL_any p l.length c _ _ _).mono ?_
    rintro e w2 ⟨rfl, hg2, k1, k2, k3⟩
    have HG2 := Lib.hid (HG1.out.trans hg2)
    have HC := Lib.hid (HCol.out w2 w2 (HV.out.gr HG2.out) _ _ _ k1 k2 k3 (Gr.refl _))
    clear hg2 k1 k2 k3 HCol
    go_wp2_with fail
    refine HC.out.mono ?_
    rintro e w3 ⟨u, rfl, hrow, hg3⟩
    have HG3 := Lib.hid (HG2.out.trans (show Gr w2 w3 from hg3))
    have HR := Lib.hid hrow
    clear hrow hg3 HC
    go_wp2_with fail
    go_ret
    refine ⟨u, rfl, ?_, HG3.out⟩
    have h := row_mono HR.out (show w.heap.size ≤ w2.heap.size from HG2.out.size)
    rw [HE.out, List.length_map, List.flatMap_map]
    exact h
end
section
open Go Go.RowKit Go.Shelf
attribute [local go_sem] gAt gUpon
attribute [local simp] Gr.refl Gr.alloc

theorem infoLf : (Tryz.prog.info? 35).map (fun i => (i.zero, i.size, i.bytes)) = some (some (.agg #[.bool false, .string ⟨#[]⟩, .int .i64 0, .string ⟨#[]⟩, .string ⟨#[]⟩]), 5, 64) := by kernel_rfl
/-- a new block of one element's cells -/
def NewEl (cs : List Value) (T : TypeId) : Value → World → Prop := fun v w => ∃ b, v = .slice (some ⟨b, 0, none⟩) 1 1 ∧ w.heap[b]? = some (.cells cs.toArray T (0, 0))
theorem stb_el (cs : List Value) (T : TypeId) : Stb (NewEl cs T) := fun _ _ _ h ⟨b, hv, hb⟩ => ⟨b, hv, h.block hb⟩
theorem newEl_alloc (w : World) (cs : List Value) (T : TypeId) : NewEl cs T (.slice (some ⟨w.heap.size, 0, none⟩) 1 1) (w.alloc (.cells cs.toArray T)) := ⟨_, rfl, heap_alloc_new _ _⟩
theorem row_at {w : World} {b : Nat} {cs : List Value} {T : TypeId} (h : w.heap[b]? = some (.cells cs.toArray T (0, 0))) : ∀ (j : Nat) (u : Value), cs[j]? = some u → w.cell? ((⟨b, 0, none⟩ : Addr).add j) = some u := by
  intro j u hj
  rw [Addr.add_mid, Nat.zero_add, cell_of_row _ _ _ _ _ _ h]
  simpa using hj
def mkLf (secret : ByteArray) (i : Nat) (x : Ln) : Lf := ⟨true, x.1, x.2, saltD secret (i : Int), ⟨#[]⟩⟩
/-- the leaves of a document -/
def leavesD (secret : ByteArray) (ls : List Ln) : List Lf := ls.mapIdx (mkLf secret)
theorem leavesD_len (secret : ByteArray) (ls : List Ln) : (leavesD secret ls).length = ls.length := List.length_mapIdx
theorem leavesD_take (secret : ByteArray) (ls : List Ln) (k : Nat) (x : Ln) (h : ls[k]? = some x) : (leavesD secret (ls.take (k + 1))).flatMap lfC = (leavesD secret (ls.take k)).flatMap lfC ++ lfC (mkLf secret k x) := by
  unfold leavesD
  have hk := (List.getElem?_eq_some_iff.1 h).1
  rw [List.take_add_one, h, Option.toList_some, List.mapIdx_concat, List.flatMap_append, List.length_take, Nat.min_eq_left (by omega)]
  simp
theorem validB_bounds {ls : List Ln} {cs : List Ce} {wd : Int} {bits : ByteArray} (h : validB ls cs wd bits = true) : ls.length ≤ 64 ∧ cs.length ≤ 64 ∧ (0 ≤ wd ∧ wd ≤ 32) ∧ bits.size ≤ 1024 := by
  unfold validB at h
  simp only [Bool.and_eq_true, decide_eq_true_eq] at h
  obtain ⟨h1, h2, -, -, -, h6⟩ := h
  unfold rasterB withinB at h6
  simp only [Bool.and_eq_true, decide_eq_true_eq] at h6
  obtain ⟨⟨h7, h8⟩, -, h9⟩ := h6
  refine ⟨h1, h2, ⟨h7, h8⟩, ?_⟩
  by_cases h0 : wd = 0
  · rw [if_pos h0] at h9
    simp at h9
    rw [h9]; decide
  · rw [if_neg h0] at h9
    simp only [Bool.and_eq_true, decide_eq_true_eq] at h9
    obtain ⟨h10, h11, h12⟩ := h9
    have : wd * heightD wd bits ≤ 32 * 32 := Int.mul_le_mul h8 h12 (by omega) (by omega)
    omega
theorem DocIn.gr {v1 v2 : Value} {ls : List Ln} {cs : List Ce} {w x : World} (h : DocIn v1 v2 ls cs w) (hg : Gr w x) : DocIn v1 v2 ls cs x := ⟨h.1.gr hg, h.2.gr hg⟩
theorem leaves_bad (v1 v2 : Value) (ls : List Ln) (cs : List Ce) (wd : Int) (bits secret : ByteArray) (w : World) (hd : DocIn v1 v2 ls cs w) (hl1 : ls.length ≤ 9223372036854775806) (hl2 : cs.length ≤ 9223372036854775806) (hw : -9223372036854775808 ≤ wd ∧ wd ≤ 9223372036854775807) (hb : bits.size ≤ 9223372036854775807) (h : validB ls cs wd bits = false) :
    Calls Tryz.prog 9 #[.agg #[v1, v2, .int .i64 wd, .string bits], .string secret] w fun e w' => e = .returned (.tuple #[.slice none 0 0, .int .i64 230]) ∧ Gr w w' := by
  have HV := Lib.hid (fun y (hg : Gr w y) => valid_any v1 v2 ls cs wd bits y (hd.gr hg) hl1 hl2 hw hb)
  rw [h] at HV
  obtain ⟨p1, c1, rfl⟩ := hd.1.shape
  obtain ⟨p2, c2, rfl⟩ := hd.2.shape
  clear hd h
  go_enter Tryz.func9, Tryz.ntmps9
  go_wp2_with fail
  refine (HV.out _ (Gr.alloc _ _)).mono ?_
  rintro e w1 ⟨rfl, hg⟩
  have HG := Lib.hid ((Gr.alloc w _).trans hg)
  clear hg HV
  go_wp2_with fail
  go_ret2
  exact ⟨rfl, HG.out⟩
set_option maxRecDepth 100000 in
set_option maxHeartbeats 2000000 in
theorem leaves_ok (v1 v2 : Value) (ls : List Ln) (cs : List Ce) (wd : Int) (bits secret : ByteArray) (w : World) (hd : DocIn v1 v2 ls cs w) (h : validB ls cs wd bits = true) (hs : secret.size ≤ 140737488354000) (hT : Tab w) :
    Calls Tryz.prog 9 #[.agg #[v1, v2, .int .i64 wd, .string bits], .string secret] w fun e w' => ∃ u, e = .returned (.tuple #[u, .int .i64 0]) ∧ Own w.heap.size 5 u ls.length ((leavesD secret ls).flatMap lfC) w' ∧ Gr w w' := by
  obtain ⟨hb1, hb2, hb3, hb4⟩ := validB_bounds h
  obtain ⟨i0, hi, hz, hsz, hbt⟩ := info_parts infoLf
  have HV := Lib.hid (fun y (hg : Gr w y) => valid_any v1 v2 ls cs wd bits y (hd.gr hg) (by omega) (by omega) (by omega) (by omega))
  rw [h] at HV
  have HS := Lib.hid (fun (k : Nat) y (hT : Tab y) => salt_any secret (k : Int) y hs hT)
  obtain ⟨p1, c1, rfl⟩ := hd.1.shape
  obtain ⟨p2, c2, rfl⟩ := hd.2.shape
  have HD := Lib.hid hd.1
  have HT := Lib.hid hT
  clear hd h hb2 hb3 hb4 hT hs
  go_enter Tryz.func9, Tryz.ntmps9
  go_upto_region 1 with fail
  refine wp_gen (F := fun y => Gr w y ∧ y.heap[w.heap.size]? = some (.cells #[.slice p1 ls.length c1, .slice p2 cs.length c2, .int .i64 wd, .string bits] 25 (0, 0))) ⟨Gr.alloc _ _, heap_alloc_new _ _⟩ ?_
  rintro wA ⟨hgA, hrA⟩
  obtain ⟨k0, k1, k2, k3⟩ := row4 hrA
  have HGA := Lib.hid hgA
  clear hrA hgA
  go_wp2_with fail
  refine (HV.out _ HGA.out).mono ?_
  rintro e w1 ⟨rfl, hg⟩
  have k0 := hg.cell k0
  have HG1 := Lib.hid (HGA.out.trans hg)
  clear hg HV k1 k2 k3 HGA
  go_wp2_with fail
  clear k0
  go_loopw [6, 15] (fun v6 v15 W => ∃ (k : Nat) (V6 : Value), k ≤ ls.length ∧ v15 = .int .i64 (k : Int) ∧ V6 = v6 ∧ Hid (Own w.heap.size 5 V6 k ((leavesD secret (ls.take k)).flatMap lfC) W) ∧ Hid (Gr w W)) (fun _ v15 _ => ls.length - (intOf v15).toNat)
  case atStart => exact ⟨0, _, Nat.zero_le _, rfl, rfl, Lib.hid (Own.nil _ _ _), HG1⟩
  case round =>
    obtain ⟨k, v6, hk, rfl, rfl, HO, HG⟩ := hrel
    by_cases hlt : k < ls.length
    · have ht : decide (k < ls.length) = true := decide_eq_true hlt
      obtain ⟨x, hx⟩ : ∃ x, ls[k]? = some x := ⟨_, List.getElem?_eq_getElem hlt⟩
      obtain ⟨g, off, rfl, hlc, hc⟩ := (HD.out.gr HG.out).at_ hx
      have HE := Lib.hid (leavesD_take secret ls k x hx)
      obtain ⟨t, m⟩ := x
      have hc0 := hc 0 _ rfl
      have hc1 := hc 1 _ rfl
      rw [Nat.add_zero] at hc0
      rw [← Nat.add_assoc] at hc1
      clear hc hx
      go_upto_region 7 with fail
      refine wp_gen (F := fun y => Gr wr y ∧ y.heap[wr.heap.size]? = some (.cells #[.string t, .int .i64 m] 33 (0, 0))) ⟨Gr.alloc _ _, heap_alloc_new _ _⟩ ?_
      rintro wB ⟨hgB, hrB⟩
      have hb0 : wB.cell? ⟨wr.heap.size, 0, none⟩ = some (.string t) := by rw [cell_of_row _ _ _ _ _ _ hrB]; rfl
      have hb1' : wB.cell? ⟨wr.heap.size, 1, none⟩ = some (.int .i64 m) := by rw [cell_of_row _ _ _ _ _ _ hrB]; rfl
      have s1 : ∀ n : GrS wB.drew, n.w.cell? ⟨wr.heap.size, 0, none⟩ = some (.string t) := fun n => n.h.cell (w := wB.drew) hb0
      have s2 : ∀ n : GrS wB.drew, n.w.cell? ⟨wr.heap.size, 1, none⟩ = some (.int .i64 m) := fun n => n.h.cell (w := wB.drew) hb1'
      have HGB := Lib.hid hgB
      have HOB := Lib.hid (HO.out.gr hgB)
      have HTB := Lib.hid (HT.out.gr (HG.out.trans hgB))
      clear hgB hrB hb0 hb1' hc0 hc1 HO
      refine region_grow 7 30 (by kernel_rfl) rfl (by kernel_rfl) rfl rfl ?_
      simp only [List.take_succ_cons, List.take_zero, List.drop_succ_cons, List.drop_zero]
      refine seg 4 rfl rfl rfl rfl ?_
      simp only [List.take_succ_cons, List.take_zero, List.drop_succ_cons, List.drop_zero]
      repeat (go_big_quiet_step (fail))
      refine wpQuiet_nil ?_
      intro _
      refine grow_det (v := .string (saltD secret (k : Int))) rfl rfl rfl rfl rfl ?_ ?_
      · intro w1 hG
        go_simp
        refine (HS.out k w1 (HTB.out.gr (Gr.trans (Gr.drew wB) hG))).mono ?_
        rintro e w' ⟨rfl, hb⟩
        exact ⟨rfl, hb⟩
      simp only [Act.put, List.setIfInBounds_toArray, List.set_cons_zero, List.set_cons_succ]
      refine grow_det (v := .agg #[.bool true, .string t, .int .i64 m, .string (saltD secret (k : Int)), .string ⟨#[]⟩]) rfl rfl rfl rfl rfl ?_ ?_
      · intro w1 hG
        go_simp
      simp only [Act.put, List.setIfInBounds_toArray, List.set_cons_zero, List.set_cons_succ]
      refine grow_open (NewEl [.bool true, .string t, .int .i64 m, .string (saltD secret (k : Int)), .string ⟨#[]⟩] 35) rfl rfl rfl rfl (stb_el _ _) (fun w1 hG => ?_) ?_
      · go_simp
        exact newEl_alloc _ _ _
      refine grow_end1 rfl rfl (by decide) ?_
      rintro w8 u hG8 ⟨b2, rfl, hb2⟩
      simp only [Act.put, List.setIfInBounds_toArray, List.set_cons_zero, List.set_cons_succ]
      have hg78 : Gr wB w8 := Gr.trans (Gr.drew wB) hG8
      go_wp2_with ((with_reducible show wpList _ _ _ (⟨some 27, _, _, _, _, _⟩ :: _) _ _); refine wpList_append_Own rfl (.tmp 20) (.tmp 26) 31 rfl 35 i0 (.agg #[.bool false, .string ⟨#[]⟩, .int .i64 0, .string ⟨#[]⟩, .string ⟨#[]⟩]) 5 64 Tryz.underlying31 hi hz hsz hbt rfl (by decide) rfl (HOB.out.gr hg78) ⟨b2, 0, none⟩ 1 1 [.bool true, .string t, .int .i64 m, .string (saltD secret (k : Int)), .string ⟨#[]⟩] rfl rfl ?hnewsD ?h1cD (by decide) ?b1D ?b2D ?hBD ?_)
      case hnewsD =>
        intro j u hj
        have h := row_at hb2 j u hj
        rw [Addr.add_mid, Nat.zero_add] at h
        exact h
      case h1cD => first | rfl | simp [Value.oneCell']
      case b1D => unfold maxLen; omega
      case b2D => omega
      case hBD => have := HG.out.size; have := HGB.out.size; have := hg78.size; omega
      intro v7 w7 hown hchg _
      have HG7 : Hid (Gr w w7) := Lib.hid (gr_step (HG.out.trans HGB.out) hg78 hchg (fun g hg => HOB.out.ge hg))
      have HO7 : Hid (Own w.heap.size 5 v7 (k + 1) ((leavesD secret (ls.take (k + 1))).flatMap lfC) w7) := Lib.hid (by
        have h := hown
        rw [HE.out]; exact h)
      clear hown hchg HG HOB HGB HTB s1 s2 hb2 hG8 HE
      go_wp2_with fail
      go_roundw
      case rel => exact ⟨k + 1, _, by omega, by go_num, rfl, HO7, HG7⟩
      case measure => simp [intOf]; omega
    · have ht : decide (k < ls.length) = false := decide_eq_false hlt
      have HE : Hid (k = ls.length) := Lib.hid (by omega)
      clear hlt
      go_wp2_with fail
      go_ret2
      refine ⟨_, rfl, ?_, HG.out⟩
      have h := HO.out
      rw [HE.out, List.take_of_length_le (Nat.le_refl _)] at h
      exact h
end
end Go.Proofs.YtakhomofckcckaaGreatDoor
