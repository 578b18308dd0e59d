/- slices.Clone of leaves, and redact.Hide. -/
import Derived.Test.YtakhomofckcckaaGreatDoorMP
import Derived.Test.YtakhomofckcckaaGreatDoorMapIB
import Derived.Deep.Upon
import Derived.WalkSpells
namespace Go.Proofs.YtakhomofckcckaaGreatDoor
open Go Go.RowKit Go.Shelf
attribute [local go_sem] gAt gUpon
attribute [local simp] Gr.refl Gr.alloc

/-- nothing is appended -/
theorem wpList_append_zero {P : Program} (w : World) {ops : Array Oper} {rest : List Oper} {o : Oper} {a : Act} {Q : Exit → Act → World → Prop} (hgd : o.guard = none) (s x : Operand) (t : TypeId)
    (ho : o.op = .call { callee := .builtin .append, args := #[s, x], argTypes := #[t, t] }) {e : TypeId} (i : TypeInfo) (ht : P.underlying t = some (.slice e)) (hi : P.info? e = some i) {base : Option Addr} {sLen sCap : Nat} (hle : sLen ≤ sCap)
    {p : Option Addr} {c : Nat} (hv : a.eval s = .slice base sLen sCap) (hx : a.eval x = .slice p 0 c) (hK : wpList P ops Q rest (a.put o.dst (.slice base sLen sCap)) w) : wpList P ops Q (o :: rest) a w := by
  refine wpList_plain hgd fun K hK' => ?_
  have hrun : (Builtin.append_ #[t, t] o.type #[.slice base sLen sCap, .slice p 0 c]).run P w = .ok (.slice base sLen sCap) w := by
    refine run_append_nothing w t t o.type e i ht hi base sLen sCap hle _ ⟨.inl ⟨e, ht⟩, fun w' => ?_, ?_, ?_, by simp, by simp⟩
    · rfl
    · cases p <;> simp [Builtin.firstCells, loadCells, loadCellsFrom]
    · cases p <;> simp [Builtin.firstCells, loadCells, loadCellsFrom]
  unfold Oper.wp
  simp [execOp, ho, resolve, invoke, builtin, hv, hx, hrun, Result.andThen]
  exact hK' _ _ hK

theorem lfC_len (x : Lf) : (lfC x).length = 5 := rfl
theorem lfC_one (x : Lf) : ∀ u ∈ lfC x, u.oneCell' = true := by
  intro u hu
  simp [lfC] at hu
  rcases hu with rfl | rfl | rfl | rfl | rfl <;> rfl
theorem flat_one {α : Type} {enc : α → List Value} (h : ∀ x, ∀ u ∈ enc x, u.oneCell' = true) (l : List α) : ∀ u ∈ l.flatMap enc, u.oneCell' = true := by
  intro u hu
  obtain ⟨x, _, hx⟩ := List.mem_flatMap.1 hu
  exact h x u hx
/-- an index into the cells is an index of an element and of its cell -/
theorem flat_split {α : Type} {s : Nat} {enc : α → List Value} (hs : ∀ x, (enc x).length = s) : ∀ (l : List α) (k : Nat) (u : Value), (l.flatMap enc)[k]? = some u → ∃ i j x, k = i * s + j ∧ l[i]? = some x ∧ (enc x)[j]? = some u
  | [], k, u, h => by simp at h
  | y :: l, k, u, h => by
    rw [List.flatMap_cons] at h
    by_cases hk : k < (enc y).length
    · rw [List.getElem?_append_left hk] at h
      exact ⟨0, k, y, by simp, rfl, h⟩
    · rw [List.getElem?_append_right (by omega)] at h
      obtain ⟨i, j, x, h1, h2, h3⟩ := flat_split hs l _ u h
      refine ⟨i + 1, j, x, ?_, by simpa using h2, h3⟩
      rw [hs] at h1 hk
      rw [Nat.succ_mul]; omega
theorem Rws.flat {α : Type} {s : Nat} {enc : α → List Value} (hs : ∀ x, (enc x).length = s) {g off c : Nat} {l : List α} {w : World} (h : Rws s enc (.slice (some ⟨g, off, none⟩) l.length c) l w) :
    ∀ (k : Nat) (u : Value), (l.flatMap enc)[k]? = some u → w.cell? ((⟨g, off, none⟩ : Addr).add k) = some u := by
  intro k u hk
  obtain ⟨i, j, x, rfl, h2, h3⟩ := flat_split hs l k u hk
  obtain ⟨g', off', he, _, hc⟩ := h.at_ h2
  injection he with he
  injection he with e1 e2
  subst e1 e2
  rw [Addr.add_mid]
  exact hc j u h3
theorem own_rws {α : Type} {s : Nat} {enc : α → List Value} (hs : ∀ x, (enc x).length = s) {B : Nat} {v : Value} {l : List α} {w : World} (h : Own B s v l.length (l.flatMap enc) w) : Rws s enc v l w := by
  rcases h.2 with ⟨h1, h2⟩ | ⟨g, off, cap, h1, _, h3, _, h5, _⟩
  · exact .inl ⟨List.eq_nil_of_length_eq_zero h2, none, 0, h1⟩
  · refine .inr ⟨g, off, cap, h1, h3, fun i x j u hx hu => ?_⟩
    exact h5 _ u (rws_get hs l i j x u hx hu)
theorem flat_set {α : Type} {s : Nat} {enc : α → List Value} (hs : ∀ x, (enc x).length = s) : ∀ (l : List α) (i : Nat) (x : α), i < l.length → (l.set i x).flatMap enc = (l.flatMap enc).take (i * s) ++ enc x ++ (l.flatMap enc).drop ((i + 1) * s)
  | [], i, x, h => by simp at h
  | y :: l, 0, x, _ => by
    simp only [List.set_cons_zero, List.flatMap_cons, Nat.zero_mul, List.take_zero, List.nil_append, Nat.zero_add, Nat.one_mul]
    rw [List.drop_append_of_le_length (by rw [hs]; exact Nat.le_refl _), List.drop_of_length_le (by rw [hs]; exact Nat.le_refl _), List.nil_append]
  | y :: l, i + 1, x, h => by
    simp only [List.set_cons_succ, List.flatMap_cons]
    rw [flat_set hs l i x (by simpa using h), Nat.succ_mul, Nat.succ_mul (i + 1), List.take_append, List.drop_append, hs]
    rw [List.take_of_length_le (l := enc y) (by rw [hs]; omega), List.drop_of_length_le (l := enc y) (by rw [hs]; omega), show i * s + s - s = i * s by omega, show (i + 1) * s + s - s = (i + 1) * s by omega]
    simp [Nat.succ_mul]
/-- a store of a whole element into a slice of one's own -/
theorem Own.store {B s g off n cap : Nat} {xs : List Value} {w : World} (h : Own B s (.slice (some ⟨g, off, none⟩) n cap) n xs w) (i : Nat) (hi : i < n) (cs : List Value) (hcs : cs.length = s) :
    Own B s (.slice (some ⟨g, off, none⟩) n cap) n (xs.take (i * s) ++ cs ++ xs.drop ((i + 1) * s)) (w.setCells g (off + i * s) cs) := by
  obtain ⟨hl, hr⟩ := h
  have hle := Nat.mul_le_mul_right s hi
  rcases hr with ⟨hr, _⟩ | ⟨g', off', cap', he, hB, hc, hm, hx, hw⟩
  · cases hr
  · injection he with he1 _ he2
    injection he1 with he1
    injection he1 with e1 e2
    subst e1 e2 he2
    rw [Nat.succ_mul] at hle ⊢
    refine ⟨by simp; omega, .inr ⟨g, off, cap, rfl, hB, hc, hm, ?_, ?_⟩⟩
    · have hsome : ∀ j, j < cs.length → (w.cell? ⟨g, off + i * s + j, none⟩).isSome = true := fun j hj => by
        have h1 := (hw (i * s + j) (by have := Nat.mul_le_mul_right s hc; omega)).1
        rwa [← Nat.add_assoc] at h1
      intro j u hj
      by_cases h1 : j < i * s
      · rw [List.append_assoc, List.getElem?_append_left (by rw [List.length_take]; omega), List.getElem?_take_of_lt h1] at hj
        rw [World.cell?_setCells_out g cs _ w ⟨g, off + j, none⟩ (fun _ _ => .inl (by simp; omega))]
        exact hx j u hj
      · by_cases h2 : j < i * s + s
        · rw [List.append_assoc, List.getElem?_append_right (by rw [List.length_take]; omega), List.length_take, Nat.min_eq_left (by omega), List.getElem?_append_left (by omega)] at hj
          have := World.cell?_setCells_in g cs (off + i * s) w hsome (j - i * s) (by omega)
          rw [show off + i * s + (j - i * s) = off + j by omega] at this
          rw [this]
          exact congrArg some (List.getElem?_eq_some_iff.1 hj).2
        · rw [List.getElem?_append_right (by simp; omega), List.getElem?_drop] at hj
          rw [World.cell?_setCells_out g cs _ w ⟨g, off + j, none⟩ (fun _ _ => .inr (by simp; omega))]
          refine hx j u ?_
          rw [← hj]
          congr 1
          simp
          omega
    · intro j hj
      refine ⟨?_, by rw [World.frozen?_setCells]; exact (hw j hj).2⟩
      exact World.isSome_setCells g cs _ w _ (hw j hj).1
theorem own_empty (w : World) (t : TypeId) (B s : Nat) (hB : B ≤ w.heap.size) : Own B s (.slice (some ⟨w.heap.size, 0, none⟩) 0 0) 0 [] (w.alloc (.cells #[] t)) :=
  ⟨by simp, .inr ⟨_, 0, 0, rfl, hB, Nat.le_refl _, Nat.zero_le _, fun j u h => by simp at h, fun j h => by omega⟩⟩
set_option maxRecDepth 100000 in
set_option maxHeartbeats 1000000 in
theorem clone_any (v : Value) (l : List Lf) (w : World) (hv : Rws 5 lfC v l w) (hl : l.length ≤ 1000) :
    Calls Tryz.prog 48 #[v] w fun e w' => ∃ u, e = .returned u ∧ Own w.heap.size 5 u l.length (l.flatMap lfC) w' ∧ Gr w w' := by
  obtain ⟨i0, hi, hz, hsz, hbt⟩ := info_parts infoLf
  obtain ⟨p, c, rfl⟩ := hv.shape
  have HV := Lib.hid hv
  cases p with
  | none =>
    obtain rfl : l = [] := by
      rcases hv with ⟨h, _⟩ | ⟨g, off, cap, h, _⟩
      · exact h
      · cases h
    have heq := fun w1 => Lib.run_eql_slice_nil (P := Tryz.prog) w1 31 35 none 0 c 0 0 Tryz.underlying31
    simp only [Option.isNone_none] at heq
    clear hv
    go_enter Tryz.func48, Tryz.ntmps48
    go_wp2_with fail
    go_ret
    exact ⟨_, rfl, Own.nil _ _ _, Gr.refl _⟩
  | some ad =>
    have HO := Lib.hid (own_empty w 35 w.heap.size 5 (Nat.le_refl _))
    by_cases h0 : l.length = 0
    · obtain rfl := List.eq_nil_of_length_eq_zero h0
      have heq := fun w1 => Lib.run_eql_slice_nil (P := Tryz.prog) w1 31 35 (some ad) 0 c 0 0 Tryz.underlying31
      simp only [Option.isNone_some] at heq
      clear hv h0
      go_enter Tryz.func48, Tryz.ntmps48
      go_wp2_with ((with_reducible show wpList _ _ _ (⟨some 7, _, _, _, _, _⟩ :: _) _ _); refine wpList_append_zero _ rfl (.tmp 5) (.tmp 6) 31 rfl i0 Tryz.underlying31 hi (Nat.le_refl _) rfl rfl ?_)
      go_ret
      exact ⟨_, rfl, HO.out, Gr.alloc _ _⟩
    · obtain ⟨b, o, sp⟩ := ad
      obtain rfl : sp = none := by
        rcases hv with ⟨h, _⟩ | ⟨g, off, cap, h, _⟩
        · rw [h] at h0; exact (h0 rfl).elim
        · cases h; rfl
      have HC := Lib.hid (hv.flat lfC_len)
      have hpos : 0 < l.length := by omega
      have heq := fun w1 => Lib.run_eql_slice_nil (P := Tryz.prog) w1 31 35 (some ⟨b, o, none⟩) l.length c 0 0 Tryz.underlying31
      simp only [Option.isNone_some] at heq
      clear hv h0
      go_enter Tryz.func48, Tryz.ntmps48
      go_wp2_with ((with_reducible show wpList _ _ _ (⟨some 7, _, _, _, _, _⟩ :: _) _ _); refine wpList_append_Own rfl (.tmp 5) (.tmp 6) 31 rfl 35 i0 (.agg #[.bool false, .string ⟨#[]⟩, .int .i64 0, .string ⟨#[]⟩, .string ⟨#[]⟩]) 5 64 Tryz.underlying31 hi hz hsz hbt rfl (by decide) rfl HO.out ⟨b, o, none⟩ l.length c (l.flatMap lfC) rfl ?hl ?hc ?h1 hpos ?b1 ?b2 ?hB ?_)
      case hl => rw [flat_len lfC_len]
      case hc => exact fun j u hj => (Gr.alloc w _).cell (HC.out j u hj)
      case h1 => exact flat_one lfC_one l
      case b1 => unfold maxLen; omega
      case b2 => omega
      case hB => simp
      intro v' w' hown hchg _
      have HO2 := Lib.hid hown
      have HG : Hid (Gr w w') := Lib.hid (gr_step (Gr.refl w) (Gr.alloc _ _) hchg (fun g hg => HO.out.ge hg))
      clear hown hchg
      go_wp2_with fail
      go_ret
      refine ⟨_, rfl, ?_, HG.out⟩
      have h := HO2.out
      simpa using h
/-- leaves of which some are hidden -/
def hideX (hid : List Int) (i : Nat) (x : Lf) : Lf := if (i : Int) ∈ hid then ⟨false, ⟨#[]⟩, 0, ⟨#[]⟩, valueD x⟩ else x
def hideD (hid : List Int) (l : List Lf) : List Lf := if listB l then l.mapIdx (hideX hid) else []
def hidK (hid : List Int) (l : List Lf) (k : Nat) : List Lf := (l.take k).mapIdx (hideX hid) ++ l.drop k
theorem hidK_zero (hid : List Int) (l : List Lf) : hidK hid l 0 = l := by simp [hidK]
theorem hidK_end (hid : List Int) (l : List Lf) : hidK hid l l.length = l.mapIdx (hideX hid) := by simp [hidK]
theorem hidK_len (hid : List Int) (l : List Lf) (k : Nat) : (hidK hid l k).length = l.length := by simp [hidK]; omega
theorem hidK_next (hid : List Int) (l : List Lf) (k : Nat) (x : Lf) (h : l[k]? = some x) : hidK hid l (k + 1) = (hidK hid l k).set k (hideX hid k x) ∧ (hidK hid l k)[k]? = some x := by
  obtain ⟨hk, hx⟩ := List.getElem?_eq_some_iff.1 h
  have hd : l.drop k = x :: l.drop (k + 1) := by rw [List.drop_eq_getElem_cons hk, hx]
  have hA : ((l.take k).mapIdx (hideX hid)).length = k := by simp; omega
  constructor
  · unfold hidK
    rw [hd, List.take_add_one, h, Option.toList_some, List.mapIdx_concat, List.length_take, Nat.min_eq_left (by omega), List.append_assoc, List.singleton_append]
    rw [List.set_append_right _ _ (by rw [hA]; exact Nat.le_refl _), hA, Nat.sub_self, List.set_cons_zero]
  · unfold hidK
    rw [hd, List.getElem?_append_right (by omega), hA, Nat.sub_self]; rfl
theorem hidK_same (hid : List Int) (l : List Lf) (k : Nat) (x : Lf) (h : l[k]? = some x) (hn : ¬ (k : Int) ∈ hid) : hidK hid l (k + 1) = hidK hid l k := by
  obtain ⟨h1, h2⟩ := hidK_next hid l k x h
  rw [h1]
  have e : hideX hid k x = x := if_neg hn
  rw [e]
  apply List.ext_getElem?
  intro j
  by_cases hj : j = k
  · subst hj
    rw [List.getElem?_set_self (List.getElem?_eq_some_iff.1 h2).1, h2]
  · rw [List.getElem?_set_ne (by omega)]
def inC (x : Int) : List Value := [.int .i64 x]
theorem Own.there {B s g off n cap : Nat} {xs : List Value} {w : World} (h : Own B s (.slice (some ⟨g, off, none⟩) n cap) n xs w) (i : Nat) (hi : i < n) : w.there g (off + i * s) s := by
  obtain ⟨hl, hr⟩ := h
  rcases hr with ⟨hr, _⟩ | ⟨g', off', cap', he, hB, hc, hm, hx, hw⟩
  · cases hr
  · injection he with he1 _ he2
    injection he1 with he1
    injection he1 with e1 e2
    subst e1 e2 he2
    intro j hj
    have h1 := hw (i * s + j) (by have := Nat.mul_le_mul_right s (Nat.le_trans hi hc); rw [Nat.succ_mul] at this; omega)
    rwa [← Nat.add_assoc] at h1
theorem own_ge' {B s : Nat} {p : Option Addr} {n c : Nat} {xs : List Value} {w : World} (h : Own B s (.slice p n c) n xs w) (bM : Nat) (hb : bM < B) : ∀ g, (Value.slice p n c).ownBlock = some g → g ≠ bM ∧ B ≤ g := by
  intro g hg
  have := h.ge hg
  exact ⟨by omega, this⟩
theorem infoLf_size (P : Program) (h : P = Tryz.prog) : (P.info? 35).map (·.size) = some 5 := by
  subst h
  kernel_rfl
set_option maxRecDepth 100000 in
set_option maxHeartbeats 2000000 in
theorem hide_any (v u : Value) (l : List Lf) (hid : List Int) (w : World) (hv : Rws 5 lfC v l w) (hl : l.length ≤ 9223372036854775806) (hu : Rws 1 inC u hid w) (hr : ∀ x ∈ hid, -9223372036854775808 ≤ x ∧ x ≤ 9223372036854775807) (hhl : hid.length ≤ 1000) (hT : Tab w) :
    Calls Tryz.prog 19 #[v, u] w fun e w' => ∃ z, e = .returned z ∧ Own w.heap.size 5 z (hideD hid l).length ((hideD hid l).flatMap lfC) w' ∧ Gr w w' := by
  have HI := Lib.hid (isList_any v l w hv hl)
  cases hb : listB l with
  | false =>
    rw [hb] at HI
    rw [show hideD hid l = [] by unfold hideD; rw [hb]; rfl]
    obtain ⟨p, c, rfl⟩ := hv.shape
    clear hv hu hr hT hb
    go_enter Tryz.func19, Tryz.ntmps19
    go_wp2_with fail
    refine HI.out.mono ?_
    rintro e w1 ⟨rfl, hg⟩
    go_wp2_with fail
    go_ret
    exact ⟨_, rfl, Own.nil _ _ _, hg⟩
  | true =>
    rw [hb] at HI
    have HE : Hid (hideD hid l = hidK hid l l.length) := Lib.hid (by unfold hideD; rw [hb, hidK_end]; rfl)
    have hb' := hb
    unfold listB at hb'
    rw [Bool.and_eq_true, decide_eq_true_eq, List.all_eq_true] at hb'
    obtain ⟨h64, hall⟩ := hb'
    have HB := Lib.hid hall
    obtain ⟨p, c, rfl⟩ := hv.shape
    obtain ⟨p2, c2, rfl⟩ := hu.shape
    have HV := Lib.hid hv
    have HU := Lib.hid hu
    have HR := Lib.hid hr
    have HT := Lib.hid hT
    have hmm := @run_makeMap Tryz.prog
    clear hv hu hr hT hb hall
    go_enter Tryz.func19, Tryz.ntmps19
    go_wp2_with fail
    refine HI.out.mono ?_
    rintro e w1 ⟨rfl, hg⟩
    have HG1 := Lib.hid hg
    clear hg HI
    go_upto_region 4 with fail
    refine wp_gen (F := fun y => Gr w1 y ∧ AwayAt w1.heap.size [] y ∧ w1.heap.size < y.heap.size) ⟨Gr.alloc _ _, AwayAt.made _, by simp⟩ ?_
    rintro wM ⟨hgM, hM, hzM⟩
    have HGM := Lib.hid (HG1.out.trans hgM)
    have HAM := Lib.hid hM
    have HZ : Hid (w.heap.size ≤ w1.heap.size ∧ w1.heap.size < wM.heap.size) := Lib.hid ⟨HG1.out.size, hzM⟩
    clear hgM hM hzM hmm HG1
    generalize w1.heap.size = bM at HAM HZ ⊢
    go_wp2_with fail
    go_loopw [17] (fun v17 W => ∃ k : Nat, k ≤ hid.length ∧ v17 = .int .i64 (k : Int) ∧ Hid (AwayAt bM (hid.take k) W) ∧ Hid (Gr w W) ∧ Hid (bM < W.heap.size)) (fun v17 _ => hid.length - (intOf v17).toNat)
    case atStart => exact ⟨0, Nat.zero_le _, rfl, HAM, HGM, Lib.hid HZ.out.2⟩
    case round =>
      obtain ⟨k, hk, rfl, HA, HG, HL⟩ := hrel
      by_cases hlt : k < hid.length
      · have ht : decide (k < hid.length) = true := decide_eq_true hlt
        obtain ⟨x, hx⟩ : ∃ x, hid[k]? = some x := ⟨_, List.getElem?_eq_getElem hlt⟩
        obtain ⟨g, off, rfl, hlc, hc⟩ := (HU.out.gr HG.out).at_ hx
        have hc0 := hc 0 _ rfl
        rw [Nat.mul_one, Nat.add_zero] at hc0
        obtain ⟨w', hput, hA', hch⟩ := HA.out.put x (HR.out x (List.mem_of_getElem? hx)) (by rw [List.length_take]; unfold maxLen; omega)
        have HA' : Hid (AwayAt bM (hid.take (k + 1)) w') := Lib.hid (by rw [List.take_add_one, hx]; exact hA')
        have HG' : Hid (Gr w w') := Lib.hid (gr_step HG.out (Gr.refl _) hch (fun g hg => by cases hg; exact HZ.out.1))
        have HL' : Hid (bM < w'.heap.size) := Lib.hid (Nat.lt_of_lt_of_le HL.out hch.size)
        clear hc hx hA' hch HA HG HL
        go_wp2_with fail
        go_roundw
        case rel => exact ⟨k + 1, by omega, by go_num, HA', HG', HL'⟩
        case measure => simp [intOf]; omega
      · have ht : decide (k < hid.length) = false := decide_eq_false hlt
        have HA2 : Hid (AwayAt bM hid wr) := Lib.hid (by
          have h := HA.out
          rw [List.take_of_length_le (by omega)] at h; exact h)
        clear hlt HA HAM HGM hk HU HR
        go_wp2_with fail
        refine (clone_any _ l wr (HV.out.gr HG.out) (by omega)).mono ?_
        rintro e w2 ⟨z, rfl, ho, hg2⟩
        obtain ⟨pz, cz, rfl⟩ := ho.slice
        have HN := Lib.hid (own_ge' ho bM HL.out)
        have HO : Hid (Own w.heap.size 5 (.slice pz l.length cz) l.length ((hidK hid l 0).flatMap lfC) w2) := Lib.hid (by rw [hidK_zero]; exact ho.mono HG.out.size)
        have HG2 := Lib.hid (HG.out.trans hg2)
        have HA3 := Lib.hid (HA2.out.gr hg2)
        have HM : Hid (w.heap.size ≤ wr.heap.size) := Lib.hid HG.out.size
        clear ho hg2 HA2 HG HL
        go_wp2_with fail
        go_loopw [28] (fun v28 W => ∃ k : Nat, k ≤ l.length ∧ v28 = .int .i64 (k : Int) ∧ Hid (Own w.heap.size 5 (.slice pz l.length cz) l.length ((hidK hid l k).flatMap lfC) W) ∧ Hid (AwayAt bM hid W) ∧ Hid (Gr w W)) (fun v28 _ => l.length - (intOf v28).toNat)
        case atStart => exact ⟨0, Nat.zero_le _, rfl, HO, HA3, HG2⟩
        case round =>
          obtain ⟨k, hk, rfl, HO, HA, HG⟩ := hrel
          by_cases hlt : k < l.length
          · have ht : decide (k < l.length) = true := decide_eq_true hlt
            obtain ⟨x, hx⟩ : ∃ x, l[k]? = some x := ⟨_, List.getElem?_eq_getElem hlt⟩
            obtain ⟨g, off, rfl, hlc, hc⟩ := (HV.out.gr HG.out).at_ hx
            have Hx := Lib.hid hx
            have hc0 := hc 0 _ rfl
            have hc1 := hc 1 _ rfl
            have hc2 := hc 2 _ rfl
            have hc3 := hc 3 _ rfl
            have hc4 := hc 4 _ rfl
            rw [Nat.add_zero] at hc0
            rw [← Nat.add_assoc] at hc1 hc2 hc3 hc4
            obtain ⟨sh, t, m, sl, dg⟩ := x
            simp only at hc0 hc1 hc2 hc3 hc4
            clear hc hx
            go_upto_region 13 with fail
            refine wp_gen (F := fun y => Gr wr y ∧ y.heap[wr.heap.size]? = some (.cells #[.bool sh, .string t, .int .i64 m, .string sl, .string dg] 35 (0, 0))) ⟨Gr.alloc _ _, heap_alloc_new _ _⟩ ?_
            rintro wB ⟨hgB, hrB⟩
            have HGB := Lib.hid (HG.out.trans hgB)
            have HOB := Lib.hid (HO.out.gr hgB)
            have HAB := Lib.hid (HA.out.gr hgB)
            obtain ⟨b0, b1, b2, b3, b4⟩ := row5 hrB
            clear hgB hrB hc0 hc1 hc2 hc3 hc4 HO HA
            have hlook := HAB.out.look (k : Int) (by omega)
            by_cases hin : (k : Int) ∈ hid
            · rw [decide_eq_true hin] at hlook
              obtain ⟨hn1, hn2⟩ := hidK_next hid l k _ Hx.out
              have HK : Hid (hidK hid l (k + 1) = (hidK hid l k).set k ⟨false, ⟨#[]⟩, 0, ⟨#[]⟩, valueD ⟨sh, t, m, sl, dg⟩⟩) := Lib.hid (by rw [hn1]; unfold hideX; rw [if_pos hin])
              obtain ⟨gz, oz, cz', he, hgB, _, _⟩ := HOB.out.shape (by omega)
              injection he with he1 _ he2
              subst he1 he2
              have HVl := Lib.hid (fun y (ht : Tab y) => value_any ⟨sh, t, m, sl, dg⟩ y ht (fun hs => by have h2 := leafB_shown (HB.out _ (List.mem_of_getElem? Hx.out)) hs; exact ⟨h2.2.2.2.1, Int.le_trans h2.2.2.2.2 (by decide)⟩) (leafB_small (HB.out _ (List.mem_of_getElem? Hx.out))))
              simp only at HVl
              generalize valueD ⟨sh, t, m, sl, dg⟩ = VL at HVl HK
              clear hin hn1 hn2
              go_wp2_with fail
              refine (HVl.out _ (HT.out.gr HGB.out)).mono ?_
              rintro e w3 ⟨rfl, hg3⟩
              have HG3 := Lib.hid (HGB.out.trans hg3)
              have HO3 := Lib.hid (HOB.out.gr hg3)
              have HA4 := Lib.hid (HAB.out.gr hg3)
              have HTh : Hid (w3.there gz (oz + k * 5) 5) := Lib.hid (HO3.out.there k hlt)
              clear hg3 HG HOB HAB HGB hlook b0 b1 b2 b3 b4 HVl
              go_wp2_with ((with_reducible show wpList _ _ _ (⟨none, _, _, _, _, _⟩ :: _) _ _); refine wpList_store_mid rfl 35 (.tmp 41) (.tmp 40) rfl gz (oz + k * 5) #[.bool false, .string ⟨#[]⟩, .int .i64 0, .string ⟨#[]⟩, .string VL] rfl rfl HTh.out (infoLf_size Tryz.prog rfl) (by simp [Value.oneCell']) ?_)
              have hst := HO3.out.store k hlt [.bool false, .string ⟨#[]⟩, .int .i64 0, .string ⟨#[]⟩, .string VL] rfl
              have hch := setCells_chg gz [.bool false, .string ⟨#[]⟩, .int .i64 0, .string ⟨#[]⟩, .string VL] (oz + k * 5) w3
              have HO' : Hid (Own w.heap.size 5 (.slice (some ⟨gz, oz, none⟩) l.length cz) l.length ((hidK hid l (k + 1)).flatMap lfC) (w3.setCells gz (oz + k * 5) [.bool false, .string ⟨#[]⟩, .int .i64 0, .string ⟨#[]⟩, .string VL])) := Lib.hid (by
                rw [HK.out, flat_set lfC_len _ _ _ (by rw [hidK_len]; exact hlt)]
                exact hst)
              have HA' : Hid (AwayAt bM hid (w3.setCells gz (oz + k * 5) [.bool false, .string ⟨#[]⟩, .int .i64 0, .string ⟨#[]⟩, .string VL])) := Lib.hid (HA4.out.keep hch (by have := HN.out gz rfl; simp; omega))
              have HG' : Hid (Gr w (w3.setCells gz (oz + k * 5) [.bool false, .string ⟨#[]⟩, .int .i64 0, .string ⟨#[]⟩, .string VL])) := Lib.hid (gr_step HG3.out (Gr.refl _) hch (fun g hg => by cases hg; exact hgB))
              clear hst hch HTh HO3 HA4 HG3 HK
              go_roundw
              case rel => exact ⟨k + 1, by omega, by go_num, HO', HA', HG'⟩
              case measure => simp [intOf]; omega
            · rw [decide_eq_false hin] at hlook
              have HK : Hid (hidK hid l (k + 1) = hidK hid l k) := Lib.hid (hidK_same hid l k _ Hx.out hin)
              have HO' : Hid (Own w.heap.size 5 (.slice pz l.length cz) l.length ((hidK hid l (k + 1)).flatMap lfC) wB) := Lib.hid (by rw [HK.out]; exact HOB.out)
              clear hin HK HOB HG
              go_wp2_with fail
              go_roundw
              case rel => exact ⟨k + 1, by omega, by go_num, HO', HAB, HGB⟩
              case measure => simp [intOf]; omega
          · have ht : decide (k < l.length) = false := decide_eq_false hlt
            have HK : Hid (k = l.length) := Lib.hid (by omega)
            clear hlt
            go_wp2_with fail
            go_ret
            refine ⟨_, rfl, ?_, HG.out⟩
            have h := HO.out
            rw [HK.out, ← HE.out] at h
            rw [show (hideD hid l).length = l.length by rw [HE.out, hidK_len]]
            exact h
end Go.Proofs.YtakhomofckcckaaGreatDoor
