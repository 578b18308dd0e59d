/- Helpers of the walk of ManifestOrder: two lists of the call's own, pushed to and exchanged. -/
import Derived.Test.YtjnnhhengpinmaaGreatDoorNT
import Derived.Test.YtjnnhhengpinmaaGreatDoorHeldP
import Derived.Test.YtjnnhhengpinmaaGreatDoorNE
import Derived.Deep.CutBlock
namespace Go.Proofs.YtjnnhhengpinmaaGreatDoor
section
open Go Go.RowKit Go.Shelf

section
variable {P : Program} {ops : Array Oper} {Q : Exit → Act → World → Prop} {md : Region.Mode} {S : World → Prop} {X : Nat → Bool}
/-- what is held is chosen anew -/
theorem u_switch : ∀ (fuel : Nat) (listed : Array Bool) (a : Act) (w : World), wpAnyU P md ops Q S X fuel listed a w → wpAnyU P md ops Q (fun _ => True) (fun _ => false) fuel listed a w
  | 0, _, _, _, h => h
  | fuel + 1, _, _, _, h => ⟨h.1, fun i hi => wpOp_mono (fun a' w' h' => ⟨fun _ => trivial, u_switch fuel _ a' w' h'.2⟩) (h.2 i hi)⟩
theorem u_tail3 (i j k : Nat) {oi oj ok : Oper} {fuel : Nat} {listed : Array Bool} {a : Act} {w : World} (hl : 3 ≤ fuel) (hf : forcedB md ops [i, j, k] listed = true) (hX : [i, j, k].all X = true)
    (hi : ops[i]? = some oi) (hj : ops[j]? = some oj) (hk : ops[k]? = some ok) (h : wpList P ops Q [oi, oj, ok] a w) : wpAnyU P md ops Q S X fuel listed a w :=
  u_tail [i, j, k] [oi, oj, ok] fuel listed a w hl hf hX (by simp [hi, hj, hk]) h
end
/-- two lists of the call's own -/
structure Two (w0 : World) (A C : List ByteArray) (ga oa ca ma gb ob cb mb : Nat) (W : World) : Prop where
  a : OwnL w0.heap.size A (.slice (some ⟨ga, oa, none⟩) ma ca) W
  b : OwnL w0.heap.size C (.slice (some ⟨gb, ob, none⟩) mb cb) W
  la : A.length = ma
  lb : C.length = mb
  ne : ga ≠ gb
  g : Gr w0 W
  ha : ga < W.heap.size
  hb : gb < W.heap.size
theorem Two.gr {w0 : World} {A C : List ByteArray} {ga oa ca ma gb ob cb mb : Nat} {W X : World} (h : Two w0 A C ga oa ca ma gb ob cb mb W) (hg : Gr W X) : Two w0 A C ga oa ca ma gb ob cb mb X :=
  ⟨h.a.gr hg, h.b.gr hg, h.la, h.lb, h.ne, h.g.trans hg, Nat.lt_of_lt_of_le h.ha hg.size, Nat.lt_of_lt_of_le h.hb hg.size⟩
theorem Two.flip {w0 : World} {A C : List ByteArray} {ga oa ca ma gb ob cb mb : Nat} {W : World} (h : Two w0 A C ga oa ca ma gb ob cb mb W) : Two w0 C A gb ob cb mb ga oa ca ma W :=
  ⟨h.b, h.a, h.lb, h.la, h.ne.symm, h.g, h.hb, h.ha⟩
theorem Two.geA {w0 : World} {A C : List ByteArray} {ga oa ca ma gb ob cb mb : Nat} {W : World} (h : Two w0 A C ga oa ca ma gb ob cb mb W) : w0.heap.size ≤ ga := Own.ge h.a rfl
theorem Two.pushA {w0 : World} {A C : List ByteArray} {ga oa ca ma gb ob cb mb : Nat} {W w' : World} {x : ByteArray} {v' : Value} (h : Two w0 A C ga oa ca ma gb ob cb mb W) (ho : OwnL w0.heap.size (A ++ [x]) v' w')
    (ht : Gh.Took W (.slice (some ⟨ga, oa, none⟩) ma ca) v' w') : ∃ ga' oa' ca', v' = .slice (some ⟨ga', oa', none⟩) (ma + 1) ca' ∧ Two w0 (A ++ [x]) C ga' oa' ca' (ma + 1) gb ob cb mb w' := by
  obtain ⟨hc, g, e1, e2, e3⟩ := ht
  obtain ⟨ga', oa', ca', rfl, hB, -, -⟩ := ownL_shape (n := ma + 1) ho (by simp [h.la]) (by omega)
  obtain rfl : ga' = g := by simpa [Value.ownBlock] using e1
  have hne : ga' ≠ gb := by
    rcases e2 with e2 | e2
    · have : ga = ga' := by simpa [Value.ownBlock] using e2
      rw [← this]; exact h.ne
    · have := h.hb; omega
  refine ⟨ga', oa', ca', rfl, ho, ?_, by simp [h.la], h.lb, hne, ?_, e3, Nat.lt_of_lt_of_le h.hb hc.size⟩
  · exact Own.keep h.b hc (.inr (by simp [Value.ownBlock]; exact h.ne.symm))
  · exact gr_step h.g (Gr.refl _) hc (fun g e => by
      have : ga = g := by simpa [Value.ownBlock] using e
      rw [← this]; exact h.geA)
/-- a new list beside one that is there -/
theorem Two.mk2 {w0 W X : World} {A C : List ByteArray} {ga oa ca ma gb ob cb mb : Nat} (ha : OwnL w0.heap.size A (.slice (some ⟨ga, oa, none⟩) ma ca) W) (hb : OwnL W.heap.size C (.slice (some ⟨gb, ob, none⟩) mb cb) X) (hg : Gr W X)
    (la : A.length = ma) (lb : C.length = mb) (h0 : ma ≠ 0) (h1 : mb ≠ 0) (g : Gr w0 W) : Two w0 A C ga oa ca ma gb ob cb mb X := by
  obtain ⟨g1, e1, -, e3⟩ := own_some ha (by omega)
  obtain ⟨g2, f1, f2, f3⟩ := own_some hb (by omega)
  obtain rfl : ga = g1 := by simpa [Value.ownBlock] using e1
  obtain rfl : gb = g2 := by simpa [Value.ownBlock] using f1
  exact ⟨ha.gr hg, hb.mono g.size, la, lb, by omega, g.trans hg, Nat.lt_of_lt_of_le e3 hg.size, f3⟩
theorem two_chg (ga oa x y : Nat) (u v : Value) (W : World) : Chg (some ga) W ((W.setCell ⟨ga, oa + x, none⟩ u).setCell ⟨ga, oa + y, none⟩ v) :=
  (setCells_chg ga [u] (oa + x) W).trans (setCells_chg ga [v] (oa + y) _)
/-- two elements of the first list exchanged -/
theorem Two.swapA {w0 : World} {A C : List ByteArray} {ga oa ca ma gb ob cb mb : Nat} {W : World} {x y : Nat} {ax ay : ByteArray} (h : Two w0 A C ga oa ca ma gb ob cb mb W) (hx : A[x]? = some ax) (hy : A[y]? = some ay) :
    Two w0 (swapL A x y) C ga oa ca ma gb ob cb mb ((W.setCell ⟨ga, oa + x, none⟩ (.string ay)).setCell ⟨ga, oa + y, none⟩ (.string ax)) := by
  have hxl := (List.getElem?_eq_some_iff.1 hx).1
  have hyl := (List.getElem?_eq_some_iff.1 hy).1
  have hc := two_chg ga oa x y (.string ay) (.string ax) W
  have e : swapL A x y = (A.set x ay).set y ax := by
    unfold swapL
    rw [List.getD_eq_getElem?_getD, List.getD_eq_getElem?_getD, hx, hy]; rfl
  refine ⟨?_, ?_, ?_, h.lb, h.ne, ?_, Nat.lt_of_lt_of_le h.ha hc.size, Nat.lt_of_lt_of_le h.hb hc.size⟩
  · rw [e]
    exact ownL_put (ownL_put h.a x hxl ay) y (by rw [List.length_set]; exact hyl) ax
  · exact Own.keep h.b hc (.inr (by simp [Value.ownBlock]; exact h.ne.symm))
  · rw [swapL_len]; exact h.la
  · exact gr_step h.g (Gr.refl _) hc (fun g e => by cases e; exact h.geA)
/-- the cells that an exchange reads and writes -/
theorem Two.cells {w0 : World} {A C : List ByteArray} {ga oa ca ma gb ob cb mb : Nat} {W : World} {x y : Nat} {ax ay : ByteArray} (h : Two w0 A C ga oa ca ma gb ob cb mb W) (hx : A[x]? = some ax) (hy : A[y]? = some ay) :
    W.cell? ⟨ga, oa + x, none⟩ = some (.string ax) ∧ W.cell? ⟨ga, oa + y, none⟩ = some (.string ay) ∧ W.frozen? ⟨ga, oa + x, none⟩ = false ∧
      (∃ z, (W.setCell ⟨ga, oa + x, none⟩ (.string ay)).cell? ⟨ga, oa + y, none⟩ = some (.string z)) ∧ (W.setCell ⟨ga, oa + x, none⟩ (.string ay)).frozen? ⟨ga, oa + y, none⟩ = false := by
  have hxl := (List.getElem?_eq_some_iff.1 hx).1
  have hyl := (List.getElem?_eq_some_iff.1 hy).1
  have h2 := ownL_put h.a x hxl ay
  refine ⟨ownL_cell h.a hx, ownL_cell h.a hy, ownL_free h.a (by rw [← h.la]; exact hxl), ?_, ownL_free h2 (by rw [← h.la]; exact hyl)⟩
  obtain ⟨z, hz⟩ : ∃ z, (A.set x ay)[y]? = some z := ⟨_, List.getElem?_eq_getElem (by rw [List.length_set]; exact hyl)⟩
  exact ⟨z, ownL_cell h2 hz⟩
/-- Check's answer, apart from the two lists -/
def WantAt (ga gb : Nat) (R : List ByteArray) (v : Value) (W : World) : Prop := OwnL 0 R v W ∧ (v.ownBlock = none ∨ v.ownBlock ≠ some ga) ∧ (v.ownBlock = none ∨ v.ownBlock ≠ some gb)
theorem WantAt.gr {ga gb : Nat} {R : List ByteArray} {v : Value} {W X : World} (h : WantAt ga gb R v W) (hg : Gr W X) : WantAt ga gb R v X := ⟨h.1.gr hg, h.2⟩
theorem WantAt.keepA {ga gb : Nat} {R : List ByteArray} {v : Value} {W X : World} (h : WantAt ga gb R v W) (hc : Chg (some ga) W X) : WantAt ga gb R v X := ⟨Own.keep h.1 hc h.2.1, h.2⟩
theorem WantAt.keepB {ga gb : Nat} {R : List ByteArray} {v : Value} {W X : World} (h : WantAt ga gb R v W) (hc : Chg (some gb) W X) : WantAt ga gb R v X := ⟨Own.keep h.1 hc h.2.2, h.2⟩
theorem want_new {ga gb : Nat} {R : List ByteArray} {v : Value} {W X : World} (h : OwnL W.heap.size R v X) (ha : ga < W.heap.size) (hb : gb < W.heap.size) : WantAt ga gb R v X :=
  ⟨h.mono (Nat.zero_le _), .inr (fun e => by have := Own.ge h e; omega), .inr (fun e => by have := Own.ge h e; omega)⟩
theorem ord_sizes {A B a b : List ByteArray} (h : OrdI A B a b) (hA : ∀ x ∈ A, x.size ≤ 1000) (hB : ∀ x ∈ B, x.size ≤ 1000) : (∀ x ∈ a, x.size ≤ 1000) ∧ ∀ x ∈ b, x.size ≤ 1000 := by
  have hl : a.length = b.length := by rw [h.len, h.len2]
  refine ⟨fun x hx => ?_, fun x hx => ?_⟩
  · obtain ⟨i, hi⟩ := List.getElem?_of_mem hx
    have hib : i < b.length := by rw [← hl]; exact (List.getElem?_eq_some_iff.1 hi).1
    have := (h.same x b[i]).1 ((mem_zip _ _ _ _).2 ⟨i, hi, List.getElem?_eq_getElem hib⟩)
    exact hA x (List.of_mem_zip this).1
  · obtain ⟨i, hi⟩ := List.getElem?_of_mem hx
    have hia : i < a.length := by rw [hl]; exact (List.getElem?_eq_some_iff.1 hi).1
    have := (h.same a[i] x).1 ((mem_zip _ _ _ _).2 ⟨i, List.getElem?_eq_getElem hia, hi⟩)
    exact hB x (List.of_mem_zip this).2
theorem addL_len (l : List ByteArray) (s : ByteArray) : (addL l s).length ≤ l.length + 1 := by
  unfold addL
  split
  · omega
  · simp only [List.length_append, List.length_take, List.length_cons, List.length_drop]; omega
theorem fold_len {α : Type} (f : α → Bool) (g : α → ByteArray) : ∀ (L : List α) (out : List ByteArray), (L.foldl (fun out x => if f x then addL out (g x) else out) out).length ≤ out.length + L.length := by
  intro L
  induction L with
  | nil => intro out; simp
  | cons x L ih =>
    intro out
    rw [List.foldl_cons, List.length_cons]
    refine Nat.le_trans (ih _) ?_
    split
    · have := addL_len out (g x); omega
    · omega
theorem fold_len2 {α : Type} (f : α → Bool) (g : α → ByteArray) : ∀ (L : List α) (out : List ByteArray), (L.foldl (fun out x => if f x then out else addL out (g x)) out).length ≤ out.length + L.length := by
  intro L
  induction L with
  | nil => intro out; simp
  | cons x L ih =>
    intro out
    rw [List.foldl_cons, List.length_cons]
    refine Nat.le_trans (ih _) ?_
    split
    · omega
    · have := addL_len out (g x); omega
theorem checkD_len (I J : Int) (E : List En) (A B : List ByteArray) : (checkD I J E (A.zip B)).length ≤ E.length + A.length := by
  unfold checkD
  split
  · unfold chkD
    refine Nat.le_trans (fold_len2 (fun p => E.any (fun x => decide (x.path = p))) id _ _) ?_
    have h1 := fold_len (badE (A.zip B)) (fun x : En => x.path) E []
    rw [List.length_map, List.length_zip]
    simp only [List.length_nil] at h1
    omega
  · simp
theorem two_start {w0 : World} {A C : List ByteArray} {ga oa ca gb ob cb n : Nat} {W : World} (mo : List ByteArray) (h : Two w0 A C ga oa ca n gb ob cb n W) : Two w0 (A ++ letP 0) (C ++ cutsD mo 0 40) ga oa ca (n + 0) gb ob cb (n + 0) W := by
  simpa [letP, cutsD] using h
theorem cutsD_next {l : List ByteArray} {k : Nat} {x : ByteArray} (h : l[k]? = some x) (m : Nat) : cutsD l (k + 1) m = cutsD l k m ++ [cutD x m] := by
  unfold cutsD
  rw [List.take_add_one, h, List.map_append]; rfl
theorem bytes_let (w : World) (k : Nat) (hk : k < 5) : Lib.Bytes (w.alloc (.cells #[.int .u8 (112 + (k : Int))] 5)) w.heap.size 0 ⟨#[UInt8.ofNat (112 + k)]⟩ := by
  have hr := heap_alloc_new w (.cells #[.int .u8 (112 + (k : Int))] 5)
  intro i hi
  rw [cell_of_row _ _ _ _ _ _ hr]
  have hi : i < 1 := hi
  have h2 : (UInt8.ofNat (112 + k)).toNat = 112 + k := UInt8.toNat_ofNat_of_lt' (show _ < 2 ^ 8 by omega)
  match i, hi with
  | 0, _ => show some (Value.int .u8 _) = some (.int .u8 ((UInt8.ofNat (112 + k)).toNat : Int)); rw [h2]; rfl
theorem quo17 {n : Int} (h : I64 n) : I64 (n.tdiv 17) := by
  unfold I64 at *
  obtain ⟨h1, h2⟩ := h
  rcases Int.lt_or_le n 0 with h0 | h0
  · have e : n.tdiv 17 = -((-n) / 17) := by
      rw [show n = -(-n) by omega, Int.neg_tdiv, Int.tdiv_eq_ediv_of_nonneg (by omega)]; simp
    rw [e]; omega
  · rw [Int.tdiv_eq_ediv_of_nonneg h0]; omega
end
section
open Go Go.RowKit Go.Shelf
attribute [local go_sem] gAt gUpon
attribute [local simp] Gr.refl Gr.alloc

/-- behind the first loop -/
def OrC (w3 : World) (P S mo : List ByteArray) (n : Nat) (v11 v12 : Value) (W : World) : Prop :=
  ∃ i ga oa ca gb ob cb : Nat, i ≤ 5 ∧ i ≤ mo.length ∧ v11 = .slice (some ⟨ga, oa, none⟩) (n + i) ca ∧ v12 = .slice (some ⟨gb, ob, none⟩) (n + i) cb ∧ Two w3 (P ++ letP i) (S ++ cutsD mo i 40) ga oa ca (n + i) gb ob cb (n + i) W
/-- behind the second loop -/
def OrE (w3 : World) (A0 B0 R : List ByteArray) (vw : Value) (ga oa ca gb ob cb N : Nat) (W : World) : Prop :=
  ∃ a c : List ByteArray, Two w3 a c ga oa ca N gb ob cb N W ∧ OrdI A0 B0 a c ∧ WantAt ga gb R vw W
set_option maxRecDepth 100000 in
set_option maxHeartbeats 4000000 in
theorem ord_any (v : Value) (l : List ByteArray) (vs : Value) (sw : List Int) (vm : Value) (mo : List ByteArray) (w : World) (hv : StrsIn v l w) (hl : l.length ≤ 9223372036854775806) (hs : ∀ x ∈ l, x.size ≤ 140737488355000)
    (hsw : Rws 1 inC vs sw w) (hsl : sw.length ≤ 9223372036854775807) (hsr : ∀ x ∈ sw, I64 x) (hm : StrsIn vm mo w) (hml : mo.length ≤ 9223372036854775806) (hms : ∀ x ∈ mo, x.size ≤ 140737488355000) (hT : Tab w) :
    Calls Tryz.prog 11 #[v, vs, vm] w fun e w' => e = .returned (.bool true) ∧ Gr w w' := by
  obtain ⟨psw, csw, rfl⟩ := hsw.shape
  obtain ⟨pm, cm, rfl⟩ := hm.shape
  have HT := Lib.hid hT
  have HMd := Lib.hid (fun (y : World) (hg : Gr w y) => made2_any v l 1 1 y (hv.gr hg) hl hs ⟨by decide, by decide⟩ ⟨by decide, by decide⟩ (hT.gr hg))
  have HSw := Lib.hid (And.intro hsw hsr)
  have HMo := Lib.hid (And.intro hm hms)
  clear hv hs hT hsw hsr hm hms
  go_enter Tryz.func11, Tryz.ntmps11
  go_wp2_with fail
  refine (sane_any w HT.out).mono ?_
  rintro e w1 ⟨rfl, hg1⟩
  have HG1 := Lib.hid hg1
  clear hg1
  go_wp2_with fail
  refine (HMd.out w1 HG1.out).mono ?_
  rintro e w2 ⟨I, J, n, E, P, S, p, pp, ps, c, cp, cs, rfl, hF, hR, hP, hS, -, hg2⟩
  have HF := Lib.hid hF
  have HM0 := Lib.hid (MadAt.start (I := I) (J := J) (n := n) (E := E) (p := p) (c := c) (HG1.out.trans hg2) hR hP.strs hS.strs)
  clear hF hR hP hS hg2 HG1 HMd
  go_upto_region 3 with fail
  obtain ⟨b, hb⟩ : ∃ b, w2.heap.size = b := ⟨_, rfl⟩
  simp only [hb] at HM0 ⊢
  have HM := HM0
  clear HM0 hb
  generalize w2.alloc (.cells #[.int .i64 I, .int .i64 J, .slice p n c] 24) = w3 at HM ⊢
  have hn := HF.out.bounds
  have hPlen : P.length = n := HF.out.pLen
  have hSlen : S.length = n := HF.out.sLen
  go_wp2_with ((with_reducible show wpList _ _ _ (⟨some 28, _, _, _, _, _⟩ :: _) _ _); refine append_fresh rfl (.tmp 26) (.tmp 27) rfl rfl rfl (HM.out.p.gr (Gr.alloc _ _)) ?b1A ?b1B ?_)
  case b1A => omega
  case b1B => omega
  intro va wA hown hgc
  obtain ⟨ga, oa, ca, rfl, -, -, -⟩ := ownL_shape hown hPlen (by omega)
  have HA := Lib.hid (hown.mono (Nat.le_succ w3.heap.size))
  have HGA := Lib.hid ((Gr.alloc w3 _).trans hgc)
  clear hown hgc
  go_wp2_with ((with_reducible show wpList _ _ _ (⟨some 31, _, _, _, _, _⟩ :: _) _ _); refine append_fresh rfl (.tmp 29) (.tmp 30) rfl rfl rfl ((HM.out.gr HGA.out).s.gr (Gr.alloc _ _)) ?b1A ?b1B ?_)
  case b1A => omega
  case b1B => omega
  intro vb wB hown hgc
  obtain ⟨gb, ob, cb, rfl, -, -, -⟩ := ownL_shape hown hSlen (by omega)
  have HTw := Lib.hid (Two.mk2 HA.out (hown.mono (Nat.le_succ wA.heap.size)) ((Gr.alloc wA _).trans hgc) hPlen hSlen (by omega) (by omega) HGA.out)
  clear hown hgc HA HGA
  go_upto_block 0 with fail
  go_cut [11, 12, 13] from 32 to 63 (fun v11 v12 _ wx => Hid (OrC w3 P S mo n v11 v12 wx))
  case first =>
    rename_i JJ KK hJ hK
    go_wp2_with fail
    go_loopw [11, 12, 13] (fun v11 v12 v13 W => ∃ i ga oa ca gb ob cb : Nat, i ≤ 5 ∧ i ≤ mo.length ∧ v11 = .slice (some ⟨ga, oa, none⟩) (n + i) ca ∧ v12 = .slice (some ⟨gb, ob, none⟩) (n + i) cb ∧ v13 = .int .i64 (i : Int) ∧ Hid (Two w3 (P ++ letP i) (S ++ cutsD mo i 40) ga oa ca (n + i) gb ob cb (n + i) W)) (fun _ _ v13 _ => mo.length - (intOf v13).toNat)
    case atStart => exact ⟨0, ga, oa, ca, gb, ob, cb, by omega, by omega, rfl, rfl, rfl, Lib.hid (two_start mo HTw.out)⟩
    clear HTw
    case round =>
      obtain ⟨i, ga, oa, ca, gb, ob, cb, hi5, hil, rfl, rfl, rfl, HTw⟩ := hrel
      by_cases hlt : i < mo.length
      · have ht : decide (i < mo.length) = true := decide_eq_true hlt
        have ht' : decide ((i : Int) < (mo.length : Int)) = true := decide_eq_true (by omega)
        by_cases h5 : i < 5
        · have t5 : decide (i < 5) = true := decide_eq_true h5
          have t5' : decide ((i : Int) < 5) = true := decide_eq_true (by omega)
          obtain ⟨x, hx⟩ : ∃ x, mo[i]? = some x := ⟨_, List.getElem?_eq_getElem hlt⟩
          have hxs := HMo.out.2 x (List.mem_of_getElem? hx)
          obtain ⟨gm, om, rfl, hcm⟩ := (HMo.out.1.strs (by omega)).at2 hx
          have HCm := Lib.hid hcm
          have HX := Lib.hid hx
          have e2 : IntKind.u8.wrap (112 + (i : Int)) = 112 + (i : Int) := u8_wrap (by omega) (by omega)
          have hby := bytes_let wr i h5
          have hconv := Go.Lib.run_convert_whole (P := Tryz.prog) (wr.alloc (.cells #[.int .u8 (112 + (i : Int))] 5)) 70 5 9 Tryz.underlying70 Tryz.underlying5 Tryz.underlying9 wr.heap.size 0 _ hby 1
          have Hstep := Lib.hid (letP_step i)
          obtain ⟨lt, hlt9⟩ : ∃ z : ByteArray, (⟨#[UInt8.ofNat (112 + i)]⟩ : ByteArray) = z := ⟨_, rfl⟩
          have hls : lt.size = 1 := by rw [← hlt9]; rfl
          rw [hlt9] at hconv Hstep
          rw [hls] at hconv
          clear hx hby hlt9 hcm
          have i0 : (0 : Int) ≤ (i : Int) := by omega
          have i1 : (i : Int) < (mo.length : Int) := by omega
          have HG1 : Hid (Gr wr ((wr.alloc (.cells #[.int .u8 (112 + (i : Int))] 5)).alloc (.cells #[.string lt] 9))) := Lib.hid ((Gr.alloc _ _).trans (Gr.alloc _ _))
          have HcL := (strs_new (wr.alloc (.cells #[.int .u8 (112 + (i : Int))] 5)) [lt] (by rw [List.length_singleton]; unfold maxLen; omega)).strs
          rw [World.size_alloc] at HcL
          have HcL := Lib.hid HcL
          have hll : (P ++ letP i).length = n + i := by rw [List.length_append, letP_len]; omega
          obtain ⟨AL, hAL⟩ : ∃ z, P ++ letP i = z := ⟨_, rfl⟩
          have HAL : Hid (AL ++ [lt] = P ++ letP (i + 1)) := Lib.hid (by rw [Hstep.out, ← hAL, List.append_assoc])
          rw [hAL] at HTw hll
          clear hAL
          go_wp2_with ((with_reducible show wpList _ _ _ (⟨some 49, _, _, _, _, _⟩ :: _) _ _); refine append_took rfl (.tmp 42) (.tmp 48) rfl (B := w3.heap.size) (L := AL) (M := [lt]) rfl (HTw.out.gr HG1.out).a rfl HcL.out ?b1 ?b2 ?b3 ?_)
          case b1 => rw [hll, List.length_singleton]; omega
          case b2 => simp
          case b3 => exact (HTw.out.g.trans HG1.out).size
          intro va w5 hown htk
          obtain ⟨ga', oa', ca', rfl, hTw5⟩ := (HTw.out.gr HG1.out).pushA hown htk
          have HTw5 := Lib.hid hTw5
          clear hown htk hTw5 HG1 HcL hconv e2 HTw
          obtain ⟨m, hm⟩ : ∃ m, min x.size 40 = m := ⟨_, rfl⟩
          have hmi : min (x.size : Int) 40 = (m : Int) := by omega
          have m0 : (0 : Int) ≤ (m : Int) := by omega
          have m1 : (m : Int) ≤ (x.size : Int) := by omega
          obtain ⟨xc, hxc⟩ : ∃ z, x.extract 0 m = z := ⟨_, rfl⟩
          have hcut9 : cutD x 40 = xc := by unfold cutD; rw [hm]; exact hxc
          have HCn := Lib.hid (cutsD_next HX.out 40)
          rw [hcut9] at HCn
          have C0 : ∀ q : GrS w5.drew, q.w.cell? ⟨gm, om + i, none⟩ = some (.string x) := fun q => q.h.cell (w := w5.drew) (((HM.out.g).trans HTw5.out.g).cell HCm.out)
          go_upto_region 9 with fail
          refine region_grow 13 147 (by kernel_rfl) rfl (by kernel_rfl) rfl rfl ?_
          simp only [List.take_succ_cons, List.take_zero, List.drop_succ_cons, List.drop_zero]
          refine seg 10 rfl rfl rfl rfl ?_
          simp only [List.take_succ_cons, List.take_zero, List.drop_succ_cons, List.drop_zero]
          repeat (go_big_quiet_step (fail))
          refine wpQuiet_nil ?_
          intro _
          refine grow_det (v := .int .i64 (m : Int)) rfl rfl rfl rfl rfl ?_ ?_
          · intro w1 hG
            go_simp
          simp only [Act.put, List.setIfInBounds_toArray, List.set_cons_zero, List.set_cons_succ]
          refine seg 1 rfl rfl rfl rfl ?_
          simp only [List.take_succ_cons, List.take_zero, List.drop_succ_cons, List.drop_zero]
          repeat (go_big_quiet_step (fail))
          refine wpQuiet_nil ?_
          intro _
          refine grow_open (OwnL w5.drew.heap.size [xc]) rfl rfl rfl rfl (OwnL.stb _ _) (fun w9 hG => ?_) ?_
          · go_simp
            exact (new_at w9 xc hG.size).1
          refine grow_pop rfl (by decide) rfl (fun u62 => ?_)
          refine grow_end0 rfl rfl (fun w6 hG h62 => ?_)
          simp only [Act.put, List.setIfInBounds_toArray, List.set_cons_zero, List.set_cons_succ]
          have hTw6 := (HTw5.out.gr ((Gr.drew _).trans hG)).flip
          have hlc : (S ++ cutsD mo i 40).length = n + i := hTw6.la
          refine append_took rfl (.tmp 50) (.tmp 62) rfl rfl hTw6.a rfl h62.strs (by rw [hlc, List.length_singleton]; omega) (by simp) hTw6.g.size ?_
          intro vb w7 hown htk
          obtain ⟨gb', ob', cb', rfl, hTw7⟩ := hTw6.pushA hown htk
          have HTw7 := hTw7.flip
          rw [HAL.out, List.append_assoc, ← HCn.out] at HTw7
          have HTw7 := Lib.hid HTw7
          clear hown htk hTw7 hTw6 HTw5 h62 hG C0 hlc hxc hcut9 HCn Hstep hm hmi m0 m1 HX HCm hll HAL
          go_wp2_with fail
          go_roundw
          case rel => exact ⟨i + 1, ga', oa', ca', gb', ob', cb', by omega, by omega, rfl, rfl, by go_num, HTw7⟩
          case measure => simp [intOf]; omega
        · have t5 : decide (i < 5) = false := decide_eq_false h5
          have t5' : decide ((i : Int) < 5) = false := decide_eq_false (by omega)
          go_wp2_with fail
          refine Met.intro (hJ _ _ ?_)
          repeat apply Exists.intro
          refine ⟨?_, rfl⟩
          exact Lib.hid ⟨i, ga, oa, ca, gb, ob, cb, hi5, hil, rfl, rfl, HTw.out⟩
      · have ht : decide (i < mo.length) = false := decide_eq_false hlt
        have ht' : decide ((i : Int) < (mo.length : Int)) = false := decide_eq_false (by omega)
        go_wp2_with fail
        refine Met.intro (hJ _ _ ?_)
        repeat apply Exists.intro
        refine ⟨?_, rfl⟩
        exact Lib.hid ⟨i, ga, oa, ca, gb, ob, cb, hi5, hil, rfl, rfl, HTw.out⟩
  obtain ⟨i, ga, oa, ca, gb, ob, cb, hi5, hil, rfl, rfl, hTw⟩ := hcut.out
  have HTw := Lib.hid hTw
  have HFun := Lib.hid (ord_fun HF.out i hi5 (cutsD mo i 40))
  have hA0s : ∀ x ∈ P ++ letP i, x.size ≤ 1000 := fun x hx => by
    rcases List.mem_append.1 hx with hx | hx
    · rw [HF.out.pSmall x hx]; omega
    · obtain ⟨j, hj⟩ := List.getElem?_of_mem hx
      rw [(letP_get hj).2]
      exact (by decide : 1 ≤ 1000)
  have hB0s : ∀ x ∈ S ++ cutsD mo i 40, x.size ≤ 1000 := fun x hx => by
    rcases List.mem_append.1 hx with hx | hx
    · exact Nat.le_trans (HF.out.sSmall x hx) (by omega)
    · unfold cutsD at hx
      obtain ⟨y, -, rfl⟩ := List.mem_map.1 hx
      rw [cutD_size]; omega
  have HA0s := Lib.hid hA0s
  have HB0s := Lib.hid hB0s
  obtain ⟨A0, hA0⟩ : ∃ z, P ++ letP i = z := ⟨_, rfl⟩
  obtain ⟨B0, hB0⟩ : ∃ z, S ++ cutsD mo i 40 = z := ⟨_, rfl⟩
  obtain ⟨N, hN⟩ : ∃ z, n + i = z := ⟨_, rfl⟩
  rw [hA0, hB0] at HFun
  rw [hA0] at HA0s
  rw [hB0] at HB0s
  rw [hA0, hB0, hN] at HTw
  rw [hN]
  have hN1 : 1 ≤ N ∧ N ≤ 17 := by omega
  clear hcut hTw hA0s hB0s hA0 hB0 hN hi5 hil HMo hml
  have hEl : E.length ≤ 1000 := by rw [HF.out.eLen]; omega
  have HPs : Hid (∀ x ∈ P, x.size ≤ 1000) := Lib.hid (fun x hx => by rw [HF.out.pSmall x hx]; omega)
  obtain ⟨R, hR⟩ : ∃ R, checkD I J E (A0.zip B0) = R := ⟨_, rfl⟩
  obtain ⟨rl, hrl⟩ : ∃ z, R.length = z := ⟨_, rfl⟩
  have hRl : R.length ≤ 2000 := by rw [← hR]; have := checkD_len I J E A0 B0; have := HTw.out.la; omega
  have HMc := Lib.hid (HM.out.gr HTw.out.g)
  have HCk := Lib.hid (chk_to wc HMc.out.e hEl HF.out.ePath HTw.out.a.strs HTw.out.b.strs (by rw [HTw.out.la]; omega) HA0s.out HB0s.out (HT.out.gr HMc.out.g) hR hrl)
  obtain ⟨k0, k1, k2⟩ := row3 HMc.out.r
  go_wp2_with fail
  clear k0 k1 k2
  refine HCk.out.mono ?_
  rintro e wd ⟨pw, cw, rfl, how, hgw⟩
  have HWt := Lib.hid (want_new how HTw.out.ha HTw.out.hb)
  replace HTw := Lib.hid (HTw.out.gr hgw)
  clear how hgw HCk HMc
  go_upto_block 2 with fail
  go_cut [15, 16, 17] from 68 to 120 (fun _ _ _ wx => Hid (OrE w3 A0 B0 R (.slice pw rl cw) ga oa ca gb ob cb N wx))
  case first =>
    rename_i JJ KK hJ hK
    go_wp2_with fail
    go_loopw [15, 16, 17] (fun v15 _ _ W => ∃ (j : Nat) (a c : List ByteArray), j ≤ 40 ∧ j ≤ sw.length ∧ v15 = .int .i64 (j : Int) ∧ Hid (Two w3 a c ga oa ca N gb ob cb N W) ∧ Hid (OrdI A0 B0 a c) ∧ Hid (WantAt ga gb R (.slice pw rl cw) W)) (fun v15 _ _ _ => sw.length - (intOf v15).toNat)
    case atStart => exact ⟨0, A0, B0, by omega, by omega, rfl, HTw, Lib.hid (OrdI.start (by rw [HTw.out.la, HTw.out.lb])), HWt⟩
    clear HTw HWt
    case round =>
      obtain ⟨j, a, c, hj40, hjl, rfl, HTw, HOr, HWt⟩ := hrel
      by_cases hlt : j < sw.length
      · have ht : decide (j < sw.length) = true := decide_eq_true hlt
        have ht' : decide ((j : Int) < (sw.length : Int)) = true := decide_eq_true (by omega)
        by_cases h5 : j < 40
        · have t5 : decide (j < 40) = true := decide_eq_true h5
          have t5' : decide ((j : Int) < 40) = true := decide_eq_true (by omega)
          obtain ⟨z, hz⟩ : ∃ z, sw[j]? = some z := ⟨_, List.getElem?_eq_getElem hlt⟩
          have hzr := HSw.out.2 z (List.mem_of_getElem? hz)
          obtain ⟨gw, ow, rfl, hcw0⟩ := (HSw.out.1.gr (HM.out.g.trans HTw.out.g)).at2 rfl hz
          have hcw : wr.cell? ⟨gw, ow + j, none⟩ = some (.int .i64 z) := by simpa using hcw0 0 _ rfl
          clear hcw0
          have e17 : IntKind.i64.wrap (z.tdiv 17) = z.tdiv 17 := IntWalk.i64_in _ (by have := quo17 hzr; unfold I64 at this; omega)
          have HP1 := Lib.hid (fun (q : World) => pick_any z N q hzr (by omega) (by omega))
          have HP2 := Lib.hid (fun (q : World) => pick_any (z.tdiv 17) N q (quo17 hzr) (by omega) (by omega))
          obtain ⟨x, hxx⟩ : ∃ x, pickD z N = x := ⟨_, rfl⟩
          obtain ⟨y, hyy⟩ : ∃ y, pickD (z.tdiv 17) N = y := ⟨_, rfl⟩
          have hxN : x < N := by rw [← hxx]; exact pickD_lt _ _ (by omega)
          have hyN : y < N := by rw [← hyy]; exact pickD_lt _ _ (by omega)
          rw [hxx] at HP1
          rw [hyy] at HP2
          clear hxx hyy hzr
          obtain ⟨ax, hax⟩ : ∃ q, a[x]? = some q := ⟨_, List.getElem?_eq_getElem (by rw [HTw.out.la]; exact hxN)⟩
          obtain ⟨ay, hay⟩ : ∃ q, a[y]? = some q := ⟨_, List.getElem?_eq_getElem (by rw [HTw.out.la]; exact hyN)⟩
          obtain ⟨bx, hbx⟩ : ∃ q, c[x]? = some q := ⟨_, List.getElem?_eq_getElem (by rw [HTw.out.lb]; exact hxN)⟩
          obtain ⟨by9, hby⟩ : ∃ q, c[y]? = some q := ⟨_, List.getElem?_eq_getElem (by rw [HTw.out.lb]; exact hyN)⟩
          have hxA : x < A0.length := by rw [← HOr.out.len, HTw.out.la]; exact hxN
          have hyA : y < A0.length := by rw [← HOr.out.len, HTw.out.la]; exact hyN
          have HAx := Lib.hid (And.intro hax hay)
          have HBx := Lib.hid (And.intro hbx hby)
          clear hax hay hbx hby hz
          have i0 : (0 : Int) ≤ (j : Int) := by omega
          have i1 : (j : Int) < (sw.length : Int) := by omega
          go_wp2_with fail
          refine (HP1.out _).mono ?_
          rintro e wq ⟨rfl, rfl⟩
          go_wp2_with fail
          refine (HP2.out _).mono ?_
          rintro e wq ⟨rfl, rfl⟩
          clear HP1 HP2 hcw e17 i0 i1
          have i2 : (0 : Int) ≤ (x : Int) := by omega
          have i3 : (x : Int) < (N : Int) := by omega
          have i4 : (0 : Int) ≤ (y : Int) := by omega
          have i5 : (y : Int) < (N : Int) := by omega
          go_upto_region 16 with fail
          refine u_begin (fun _ => True) (fun _ => false) (by kernel_rfl) trivial (fun hTr => ?_)
          clear hTr
          have HTwd := Lib.hid (HTw.out.gr (Gr.drew wr))
          have HWtd := Lib.hid (HWt.out.gr (Gr.drew wr))
          clear HTw HWt
          generalize wr.drew = wz at HTwd HWtd ⊢
          obtain ⟨m1, m2, f1, ⟨z0, m3⟩, f2⟩ := (HTwd.out).cells HAx.out.1 HAx.out.2
          refine u_take 0 (v := ?_) rfl rfl (by kernel_rfl) (by kernel_rfl) (by kernel_rfl) (by kernel_rfl) (fun _ _ _ h => h) (by rfl) trivial ?_ ?_
          rotate_left
          · (intro w hSw; clear hSw; go_simp; try with_reducible rfl)
          try simp only [Act.put, List.setIfInBounds_toArray, List.set_cons_zero, List.set_cons_succ]
          refine u_take 1 (v := ?_) rfl rfl (by kernel_rfl) (by kernel_rfl) (by kernel_rfl) (by kernel_rfl) (fun _ _ _ h => h) (by rfl) trivial ?_ ?_
          rotate_left
          · (intro w hSw; clear hSw; go_simp; try with_reducible rfl)
          try simp only [Act.put, List.setIfInBounds_toArray, List.set_cons_zero, List.set_cons_succ]
          refine u_take 2 (v := ?_) rfl rfl (by kernel_rfl) (by kernel_rfl) (by kernel_rfl) (by kernel_rfl) (fun _ _ _ h => h) (by rfl) trivial ?_ ?_
          rotate_left
          · (intro w hSw; clear hSw; go_simp; try with_reducible rfl)
          try simp only [Act.put, List.setIfInBounds_toArray, List.set_cons_zero, List.set_cons_succ]
          refine u_take 3 (v := ?_) rfl rfl (by kernel_rfl) (by kernel_rfl) (by kernel_rfl) (by kernel_rfl) (fun _ _ _ h => h) (by rfl) trivial ?_ ?_
          rotate_left
          · (intro w hSw; clear hSw; go_simp; try with_reducible rfl)
          try simp only [Act.put, List.setIfInBounds_toArray, List.set_cons_zero, List.set_cons_succ]
          refine u_take 4 (v := ?_) rfl rfl (by kernel_rfl) (by kernel_rfl) (by kernel_rfl) (by kernel_rfl) (fun _ _ _ h => h) (by rfl) trivial ?_ ?_
          rotate_left
          · (intro w hSw; clear hSw; go_simp; try with_reducible rfl)
          try simp only [Act.put, List.setIfInBounds_toArray, List.set_cons_zero, List.set_cons_succ]
          refine u_take 5 (v := ?_) rfl rfl (by kernel_rfl) (by kernel_rfl) (by kernel_rfl) (by kernel_rfl) (fun _ _ _ h => h) (by rfl) trivial ?_ ?_
          rotate_left
          · (intro w hSw; clear hSw; go_simp; try with_reducible rfl)
          try simp only [Act.put, List.setIfInBounds_toArray, List.set_cons_zero, List.set_cons_succ]
          refine u_take 6 (v := ?_) rfl rfl (by kernel_rfl) (by kernel_rfl) (by kernel_rfl) (by kernel_rfl) (fun _ _ _ h => h) (by rfl) trivial ?_ ?_
          rotate_left
          · (intro w hSw; clear hSw; go_simp; try with_reducible rfl)
          try simp only [Act.put, List.setIfInBounds_toArray, List.set_cons_zero, List.set_cons_succ]
          refine u_take 8 (v := ?_) rfl rfl (by kernel_rfl) (by kernel_rfl) (by kernel_rfl) (by kernel_rfl) (fun _ _ _ h => h) (by rfl) trivial ?_ ?_
          rotate_left
          · (intro w hSw; clear hSw; go_simp; try with_reducible rfl)
          try simp only [Act.put, List.setIfInBounds_toArray, List.set_cons_zero, List.set_cons_succ]
          refine u_take 9 (v := ?_) rfl rfl (by kernel_rfl) (by kernel_rfl) (by kernel_rfl) (by kernel_rfl) (fun _ _ _ h => h) (by rfl) trivial ?_ ?_
          rotate_left
          · (intro w hSw; clear hSw; go_simp; try with_reducible rfl)
          try simp only [Act.put, List.setIfInBounds_toArray, List.set_cons_zero, List.set_cons_succ]
          refine u_take 10 (v := ?_) rfl rfl (by kernel_rfl) (by kernel_rfl) (by kernel_rfl) (by kernel_rfl) (fun _ _ _ h => h) (by rfl) trivial ?_ ?_
          rotate_left
          · (intro w hSw; clear hSw; go_simp; try with_reducible rfl)
          try simp only [Act.put, List.setIfInBounds_toArray, List.set_cons_zero, List.set_cons_succ]
          refine u_switch (S := (fun q : World => q.cell? ⟨ga, oa + x, none⟩ = some (.string ax) ∧ q.cell? ⟨ga, oa + y, none⟩ = some (.string ay))) (X := fun i => decide (13 ≤ i)) _ _ _ _ ?_
          have hHeld : (fun q : World => q.cell? ⟨ga, oa + x, none⟩ = some (.string ax) ∧ q.cell? ⟨ga, oa + y, none⟩ = some (.string ay)) wz := ⟨m1, m2⟩
          refine u_take 7 (v := ?_) rfl rfl (by kernel_rfl) (by kernel_rfl) (by kernel_rfl) (by kernel_rfl) (fun _ _ _ h => h) (by rfl) (by assumption) ?_ ?_
          rotate_left
          · (intro w hSw; obtain ⟨z0, z1⟩ := hSw; go_simp; try with_reducible rfl)
          try simp only [Act.put, List.setIfInBounds_toArray, List.set_cons_zero, List.set_cons_succ]
          refine u_take 11 (v := ?_) rfl rfl (by kernel_rfl) (by kernel_rfl) (by kernel_rfl) (by kernel_rfl) (fun _ _ _ h => h) (by rfl) (by assumption) ?_ ?_
          rotate_left
          · (intro w hSw; obtain ⟨z0, z1⟩ := hSw; go_simp; try with_reducible rfl)
          try simp only [Act.put, List.setIfInBounds_toArray, List.set_cons_zero, List.set_cons_succ]
          refine u_take 12 (v := ?_) rfl rfl (by kernel_rfl) (by kernel_rfl) (by kernel_rfl) (by kernel_rfl) (fun _ _ _ h => h) (by rfl) (by assumption) ?_ ?_
          rotate_left
          · (intro w hSw; obtain ⟨z0, z1⟩ := hSw; go_simp; try with_reducible rfl)
          try simp only [Act.put, List.setIfInBounds_toArray, List.set_cons_zero, List.set_cons_succ]
          refine u_tail3 13 14 15 (by decide) (by kernel_rfl) rfl rfl rfl rfl ?_
          clear hHeld
          have HTwe := Lib.hid ((HTwd.out).swapA HAx.out.1 HAx.out.2)
          have HWte := Lib.hid ((HWtd.out).keepA (two_chg ga oa x y (.string ay) (.string ax) wz))
          clear HTwd HWtd
          go_upto_region 17 with fail
          clear m1 m2 m3 f1 f2
          generalize (wz.setCell ⟨ga, oa + x, none⟩ (.string ay)).setCell ⟨ga, oa + y, none⟩ (.string ax) = wS at HTwe HWte ⊢
          have HTf := Lib.hid HTwe.out.flip
          clear HTwe HAx
          go_upto_region 17 with fail
          refine u_begin (fun _ => True) (fun _ => false) (by kernel_rfl) trivial (fun hTr => ?_)
          clear hTr
          have HTfd := Lib.hid (HTf.out.gr (Gr.drew wS))
          have HWted := Lib.hid (HWte.out.gr (Gr.drew wS))
          clear HTf HWte
          generalize wS.drew = wz2 at HTfd HWted ⊢
          obtain ⟨m1, m2, f1, ⟨z0, m3⟩, f2⟩ := (HTfd.out).cells HBx.out.1 HBx.out.2
          refine u_take 0 (v := ?_) rfl rfl (by kernel_rfl) (by kernel_rfl) (by kernel_rfl) (by kernel_rfl) (fun _ _ _ h => h) (by rfl) trivial ?_ ?_
          rotate_left
          · (intro w hSw; clear hSw; go_simp; try with_reducible rfl)
          try simp only [Act.put, List.setIfInBounds_toArray, List.set_cons_zero, List.set_cons_succ]
          refine u_take 1 (v := ?_) rfl rfl (by kernel_rfl) (by kernel_rfl) (by kernel_rfl) (by kernel_rfl) (fun _ _ _ h => h) (by rfl) trivial ?_ ?_
          rotate_left
          · (intro w hSw; clear hSw; go_simp; try with_reducible rfl)
          try simp only [Act.put, List.setIfInBounds_toArray, List.set_cons_zero, List.set_cons_succ]
          refine u_take 2 (v := ?_) rfl rfl (by kernel_rfl) (by kernel_rfl) (by kernel_rfl) (by kernel_rfl) (fun _ _ _ h => h) (by rfl) trivial ?_ ?_
          rotate_left
          · (intro w hSw; clear hSw; go_simp; try with_reducible rfl)
          try simp only [Act.put, List.setIfInBounds_toArray, List.set_cons_zero, List.set_cons_succ]
          refine u_take 3 (v := ?_) rfl rfl (by kernel_rfl) (by kernel_rfl) (by kernel_rfl) (by kernel_rfl) (fun _ _ _ h => h) (by rfl) trivial ?_ ?_
          rotate_left
          · (intro w hSw; clear hSw; go_simp; try with_reducible rfl)
          try simp only [Act.put, List.setIfInBounds_toArray, List.set_cons_zero, List.set_cons_succ]
          refine u_take 4 (v := ?_) rfl rfl (by kernel_rfl) (by kernel_rfl) (by kernel_rfl) (by kernel_rfl) (fun _ _ _ h => h) (by rfl) trivial ?_ ?_
          rotate_left
          · (intro w hSw; clear hSw; go_simp; try with_reducible rfl)
          try simp only [Act.put, List.setIfInBounds_toArray, List.set_cons_zero, List.set_cons_succ]
          refine u_take 5 (v := ?_) rfl rfl (by kernel_rfl) (by kernel_rfl) (by kernel_rfl) (by kernel_rfl) (fun _ _ _ h => h) (by rfl) trivial ?_ ?_
          rotate_left
          · (intro w hSw; clear hSw; go_simp; try with_reducible rfl)
          try simp only [Act.put, List.setIfInBounds_toArray, List.set_cons_zero, List.set_cons_succ]
          refine u_take 6 (v := ?_) rfl rfl (by kernel_rfl) (by kernel_rfl) (by kernel_rfl) (by kernel_rfl) (fun _ _ _ h => h) (by rfl) trivial ?_ ?_
          rotate_left
          · (intro w hSw; clear hSw; go_simp; try with_reducible rfl)
          try simp only [Act.put, List.setIfInBounds_toArray, List.set_cons_zero, List.set_cons_succ]
          refine u_take 8 (v := ?_) rfl rfl (by kernel_rfl) (by kernel_rfl) (by kernel_rfl) (by kernel_rfl) (fun _ _ _ h => h) (by rfl) trivial ?_ ?_
          rotate_left
          · (intro w hSw; clear hSw; go_simp; try with_reducible rfl)
          try simp only [Act.put, List.setIfInBounds_toArray, List.set_cons_zero, List.set_cons_succ]
          refine u_take 9 (v := ?_) rfl rfl (by kernel_rfl) (by kernel_rfl) (by kernel_rfl) (by kernel_rfl) (fun _ _ _ h => h) (by rfl) trivial ?_ ?_
          rotate_left
          · (intro w hSw; clear hSw; go_simp; try with_reducible rfl)
          try simp only [Act.put, List.setIfInBounds_toArray, List.set_cons_zero, List.set_cons_succ]
          refine u_take 10 (v := ?_) rfl rfl (by kernel_rfl) (by kernel_rfl) (by kernel_rfl) (by kernel_rfl) (fun _ _ _ h => h) (by rfl) trivial ?_ ?_
          rotate_left
          · (intro w hSw; clear hSw; go_simp; try with_reducible rfl)
          try simp only [Act.put, List.setIfInBounds_toArray, List.set_cons_zero, List.set_cons_succ]
          refine u_switch (S := (fun q : World => q.cell? ⟨gb, ob + x, none⟩ = some (.string bx) ∧ q.cell? ⟨gb, ob + y, none⟩ = some (.string by9))) (X := fun i => decide (13 ≤ i)) _ _ _ _ ?_
          have hHeld : (fun q : World => q.cell? ⟨gb, ob + x, none⟩ = some (.string bx) ∧ q.cell? ⟨gb, ob + y, none⟩ = some (.string by9)) wz2 := ⟨m1, m2⟩
          refine u_take 7 (v := ?_) rfl rfl (by kernel_rfl) (by kernel_rfl) (by kernel_rfl) (by kernel_rfl) (fun _ _ _ h => h) (by rfl) (by assumption) ?_ ?_
          rotate_left
          · (intro w hSw; obtain ⟨z0, z1⟩ := hSw; go_simp; try with_reducible rfl)
          try simp only [Act.put, List.setIfInBounds_toArray, List.set_cons_zero, List.set_cons_succ]
          refine u_take 11 (v := ?_) rfl rfl (by kernel_rfl) (by kernel_rfl) (by kernel_rfl) (by kernel_rfl) (fun _ _ _ h => h) (by rfl) (by assumption) ?_ ?_
          rotate_left
          · (intro w hSw; obtain ⟨z0, z1⟩ := hSw; go_simp; try with_reducible rfl)
          try simp only [Act.put, List.setIfInBounds_toArray, List.set_cons_zero, List.set_cons_succ]
          refine u_take 12 (v := ?_) rfl rfl (by kernel_rfl) (by kernel_rfl) (by kernel_rfl) (by kernel_rfl) (fun _ _ _ h => h) (by rfl) (by assumption) ?_ ?_
          rotate_left
          · (intro w hSw; obtain ⟨z0, z1⟩ := hSw; go_simp; try with_reducible rfl)
          try simp only [Act.put, List.setIfInBounds_toArray, List.set_cons_zero, List.set_cons_succ]
          refine u_tail3 13 14 15 (by decide) (by kernel_rfl) rfl rfl rfl rfl ?_
          clear hHeld
          have HTfe := Lib.hid ((HTfd.out).swapA HBx.out.1 HBx.out.2)
          have HWtee := Lib.hid ((HWted.out).keepB (two_chg gb ob x y (.string by9) (.string bx) wz2))
          clear HTfd HWted
          go_wp2_with fail
          clear m1 m2 m3 f1 f2
          generalize (wz2.setCell ⟨gb, ob + x, none⟩ (.string by9)).setCell ⟨gb, ob + y, none⟩ (.string bx) = wS2 at HTfe HWtee ⊢
          replace HTf := Lib.hid HTfe.out.flip
          have HOr2 := Lib.hid (HOr.out.swap (x := x) (y := y) hxA hyA)
          clear HTfe HBx HOr
          go_wp2_with fail
          go_roundw
          case rel => exact ⟨j + 1, swapL a x y, swapL c x y, by omega, by omega, by go_num, HTf, HOr2, HWtee⟩
          case measure => simp [intOf]; omega
        · have t5 : decide (j < 40) = false := decide_eq_false h5
          have t5' : decide ((j : Int) < 40) = false := decide_eq_false (by omega)
          go_wp2_with fail
          refine Met.intro (hJ _ _ ?_)
          repeat apply Exists.intro
          refine ⟨?_, rfl⟩
          exact Lib.hid ⟨a, c, HTw.out, HOr.out, HWt.out⟩
      · have ht : decide (j < sw.length) = false := decide_eq_false hlt
        have ht' : decide ((j : Int) < (sw.length : Int)) = false := decide_eq_false (by omega)
        go_wp2_with fail
        refine Met.intro (hJ _ _ ?_)
        repeat apply Exists.intro
        refine ⟨?_, rfl⟩
        exact Lib.hid ⟨a, c, HTw.out, HOr.out, HWt.out⟩
  obtain ⟨a, d, hTw, hOr, hWt⟩ := hcut.out
  obtain ⟨we, hwe⟩ : ∃ z, z = wc := ⟨_, rfl⟩
  subst hwe
  have HTw := Lib.hid hTw
  have HWt := Lib.hid hWt
  obtain ⟨has, hds⟩ := ord_sizes hOr HA0s.out HB0s.out
  obtain ⟨hR1, hR2⟩ := order_law hOr HFun.out I J E P
  rw [hR] at hR1 hR2
  have HAs := Lib.hid has
  have HDs := Lib.hid hds
  have hla := HTw.out.la
  have hld := HTw.out.lb
  clear hcut hTw hOr hWt has hds HFun HA0s HB0s hR
  have HM9 := Lib.hid (HM.out.gr HTw.out.g)
  have S0 : ∀ q : GrS we.drew, q.w.cell? ⟨b, 0, none⟩ = some (.int .i64 I) := fun q => q.h.cell (w := we.drew) (row3 HM9.out.r).1
  have S1 : ∀ q : GrS we.drew, q.w.cell? ⟨b, 1, none⟩ = some (.int .i64 J) := fun q => q.h.cell (w := we.drew) (row3 HM9.out.r).2.1
  have S2 : ∀ q : GrS we.drew, q.w.cell? ⟨b, 2, none⟩ = some (.slice p n c) := fun q => q.h.cell (w := we.drew) (row3 HM9.out.r).2.2
  go_upto_region 18 with fail
  refine Gh.region_grow [(4, 6), (9, 11)] 11 147 rfl (by kernel_rfl) rfl (by kernel_rfl) rfl rfl ?_
  simp only [List.take_succ_cons, List.take_zero, List.drop_succ_cons, List.drop_zero]
  refine Gh.seg 1 rfl rfl rfl rfl ?_
  simp only [List.take_succ_cons, List.take_zero, List.drop_succ_cons, List.drop_zero]
  repeat (go_big_quiet_step (fail))
  refine wpQuiet_nil ?_
  intro _
  refine Gh.grow_pure (E0 we.drew.heap.size) rfl rfl rfl rfl (fun w1 hG => ?_) ?_
  · go_simp
    exact ⟨_, rfl, hG.size⟩
  refine Gh.seg 1 rfl rfl rfl rfl ?_
  simp only [List.take_succ_cons, List.take_zero, List.drop_succ_cons, List.drop_zero]
  repeat (go_big_quiet_step (fail))
  refine wpQuiet_nil ?_
  intro _
  refine Gh.grow_open1 122 (OwnL we.drew.heap.size a) rfl (sb_strs _ _) rfl rfl (by decide) rfl rfl rfl (by decide) rfl rfl (fun w1 u hG hu => ?_) ?_
  · obtain ⟨b0, rfl, hb0⟩ := hu
    exact fresh_at (ops := #[]) rfl (.tmp 122) (.tmp 123) rfl rfl (N := 147) rfl (by decide) hG.size rfl rfl (HTw.out.a.strs.gr ((Gr.drew _).trans hG)) (by omega) (by omega)
  refine Gh.seg 1 rfl rfl rfl rfl ?_
  simp only [List.take_succ_cons, List.take_zero, List.drop_succ_cons, List.drop_zero]
  repeat (go_big_quiet_step (fail))
  refine wpQuiet_nil ?_
  intro _
  refine Gh.grow_use1 124 (OwnL we.drew.heap.size (a ++ a)) rfl (sb_strs _ _) rfl rfl (by decide) rfl rfl rfl (by decide) rfl rfl (by decide) (by decide) (fun w1 u hG hu => ?_) ?_
  · exact took_at (ops := #[]) rfl (.tmp 124) (.tmp 125) rfl rfl (N := 147) rfl (by decide) rfl hu rfl (HTw.out.a.strs.gr ((Gr.drew _).trans hG)) (by omega) (by omega) hG.size
  refine Gh.grow_pure (E0 we.drew.heap.size) rfl rfl rfl rfl (fun w1 hG => ?_) ?_
  · go_simp
    exact ⟨_, rfl, hG.size⟩
  refine Gh.seg 1 rfl rfl rfl rfl ?_
  simp only [List.take_succ_cons, List.take_zero, List.drop_succ_cons, List.drop_zero]
  repeat (go_big_quiet_step (fail))
  refine wpQuiet_nil ?_
  intro _
  refine Gh.grow_open1 127 (OwnL we.drew.heap.size d) rfl (sb_strs _ _) rfl rfl (by decide) rfl rfl rfl (by decide) rfl rfl (fun w1 u hG hu => ?_) ?_
  · obtain ⟨b0, rfl, hb0⟩ := hu
    exact fresh_at (ops := #[]) rfl (.tmp 127) (.tmp 128) rfl rfl (N := 147) rfl (by decide) hG.size rfl rfl (HTw.out.b.strs.gr ((Gr.drew _).trans hG)) (by omega) (by omega)
  refine Gh.seg 1 rfl rfl rfl rfl ?_
  simp only [List.take_succ_cons, List.take_zero, List.drop_succ_cons, List.drop_zero]
  repeat (go_big_quiet_step (fail))
  refine wpQuiet_nil ?_
  intro _
  refine Gh.grow_use1 129 (OwnL we.drew.heap.size (d ++ P)) rfl (sb_strs _ _) rfl rfl (by decide) rfl rfl rfl (by decide) rfl rfl (by decide) (by decide) (fun w1 u hG hu => ?_) ?_
  · exact took_at (ops := #[]) rfl (.tmp 129) (.tmp 130) rfl rfl (N := 147) rfl (by decide) rfl hu rfl (HM9.out.p.gr ((Gr.drew _).trans hG)) (by omega) (by omega) hG.size
  refine Gh.grow_pop (W1 := OwnL we.drew.heap.size (d ++ P)) (fun u x h => h.end_ rfl) rfl (by decide) rfl (fun ux => ?_)
  simp only [Act.put, List.setIfInBounds_toArray, List.set_cons_zero, List.set_cons_succ]
  refine Gh.grow_pop (W1 := fun _ _ => True) (fun u x h => trivial) rfl (by decide) rfl (fun ux => ?_)
  simp only [Act.put, List.setIfInBounds_toArray, List.set_cons_zero, List.set_cons_succ]
  refine Gh.grow_pop (W1 := fun _ _ => True) (fun u x h => trivial) rfl (by decide) rfl (fun ux => ?_)
  simp only [Act.put, List.setIfInBounds_toArray, List.set_cons_zero, List.set_cons_succ]
  refine Gh.grow_pop (W1 := OwnL we.drew.heap.size (a ++ a)) (fun u x h => h.end_ rfl) rfl (by decide) rfl (fun ux => ?_)
  simp only [Act.put, List.setIfInBounds_toArray, List.set_cons_zero, List.set_cons_succ]
  refine Gh.grow_pop (W1 := fun _ _ => True) (fun u x h => trivial) rfl (by decide) rfl (fun ux => ?_)
  simp only [Act.put, List.setIfInBounds_toArray, List.set_cons_zero, List.set_cons_succ]
  refine Gh.grow_pop (W1 := fun _ _ => True) (fun u x h => trivial) rfl (by decide) rfl (fun ux => ?_)
  simp only [Act.put, List.setIfInBounds_toArray, List.set_cons_zero, List.set_cons_succ]
  refine Gh.grow_end0 rfl rfl ?_
  intro wf hG _ _ h126 _ _ h131
  have hgF := (Gr.drew we).trans hG
  have HM8 := Lib.hid (HM9.out.gr hgF)
  replace HTw := Lib.hid (HTw.out.gr hgF)
  replace HWt := Lib.hid (HWt.out.gr hgF)
  have HC2 := Lib.hid (chk_to wf HM8.out.e hEl HF.out.ePath h126.strs h131.strs (by rw [List.length_append]; omega)
    (fun x hx => by rcases List.mem_append.1 hx with hx | hx <;> exact HAs.out x hx)
    (fun x hx => by
      rcases List.mem_append.1 hx with hx | hx
      · exact HDs.out x hx
      · exact HPs.out x hx) (HT.out.gr HM8.out.g) hR2 hrl)
  obtain ⟨p8, c8, rfl⟩ := h126.strs.shape
  obtain ⟨p9, c9, rfl⟩ := h131.strs.shape
  obtain ⟨l8, hl8⟩ : ∃ z, (a ++ a).length = z := ⟨_, rfl⟩
  obtain ⟨l9, hl9⟩ : ∃ z, (d ++ P).length = z := ⟨_, rfl⟩
  rw [hl8, hl9] at HC2
  rw [hl8, hl9]
  clear hl8 hl9 hG hgF h126 h131 HM9 S0 S1 S2
  go_wp2_with fail
  refine HC2.out.mono ?_
  rintro e wg ⟨pa, da, rfl, hoa, hga⟩
  have HAg := Lib.hid hoa.strs
  replace HTw := Lib.hid (HTw.out.gr hga)
  replace HWt := Lib.hid (HWt.out.gr hga)
  have HM7 := Lib.hid (HM8.out.gr hga)
  clear hoa hga HC2 HM8
  have HC3 := Lib.hid (chk_to wg HM7.out.e hEl HF.out.ePath HTw.out.a.strs HTw.out.b.strs (by omega) HAs.out HDs.out (HT.out.gr HM7.out.g) hR1 hrl)
  obtain ⟨k0, k1, k2⟩ := row3 HM7.out.r
  go_wp2_with fail
  clear k0 k1 k2
  refine HC3.out.mono ?_
  rintro e wh ⟨pb, db, rfl, hob, hgb⟩
  have HBg := Lib.hid hob.strs
  replace HAg := Lib.hid (HAg.out.gr hgb)
  replace HWt := Lib.hid (HWt.out.gr hgb)
  have HG7 := Lib.hid (HM7.out.g.trans hgb)
  clear hob hgb HC3 HM7 HTw
  have HE1 := Lib.hid (sameS_any _ _ R R wh HBg.out HWt.out.1.strs (by omega))
  have HE2 := Lib.hid (fun (q : World) (hg : Gr wh q) => sameS_any _ _ R R q (HAg.out.gr hg) (HWt.out.1.strs.gr hg) (by omega))
  rw [decide_eq_true rfl] at HE1 HE2
  go_wp2_with fail
  refine HE1.out.mono ?_
  rintro e wi ⟨rfl, hgi⟩
  have HG8 := Lib.hid (HG7.out.trans hgi)
  have HGi := Lib.hid hgi
  clear hgi HE1 HG7
  go_wp2_with fail
  refine (HE2.out wi HGi.out).mono ?_
  rintro e wj ⟨rfl, hgj⟩
  have HG9 := Lib.hid (HG8.out.trans hgj)
  clear hgj HE2 HG8 HGi
  go_wp2_with fail
  go_ret
  exact ⟨rfl, HG9.out⟩
end
end Go.Proofs.YtjnnhhengpinmaaGreatDoor
