/- The builder of package evidence (a scroll), as the content's writer; its head may be frozen. -/
import Derived.Test.YtaoggehdkddgeaaGreatDoorGRdZ
import Derived.Lib.AppendStr
import Derived.Lib.FrozenHead
import Derived.Test.YtaoggehdkddgeaaGreatDoorGGrowF
import Derived.Test.YtaoggehdkddgeaaGreatDoorGNN
section
namespace Go.Proofs.YtaoggehdkddgeaaGreatDoor
open Go Go.RowKit Go.Shelf
attribute [local go_sem] gAt gUpon
attribute [local simp] Gr.refl Gr.alloc

section
variable {P : Program} (w : World)
theorem run_append_bldF (t u ty e : TypeId) (i : TypeInfo) (ht : P.underlying t = some (.slice e)) (hu : P.underlying u = some .string) (hi : P.info? e = some i) (hz : i.zero = some (.int .u8 0))
    (hsize : i.size = 1) (hby : i.bytes = 1) (v : Value) (n : Nat) (xs : List Value) (hown : w.ownsRowF 0 e 1 v n xs) (s : ByteArray) (h63 : n + s.size ≤ maxLen) (hbytes : n + s.size ≤ 140737488355328) :
    ∃ v' w', (Builtin.append_ #[t, u] ty #[v, .string s]).run P w = .ok v' w' ∧ w'.ownsRowF 0 e 1 v' (n + s.size) (xs ++ Lib.strCells s) ∧ w.grownBy w' v.ownBlock ∧ ∀ k, v'.ownBlock = some k → v.ownBlock = some k ∨ w.heap.size ≤ k := by
  obtain ⟨v', w', hr, h1, h2, _⟩ := Lib.run_append_own_stringF (P := P) w 0 t u ty e i ht hu hi hz hsize hby v n xs hown s h63 hbytes (Nat.zero_le _)
  refine ⟨v', w', hr, h1, h2, fun k hk => ?_⟩
  have hxl : xs.length = n := by simpa using hown.1
  rcases hown.2 with ⟨rfl, rfl⟩ | ⟨g, cap, cur, fz, rfl, hbg, hg, hfz, hnc, hcm, hcs, htake⟩
  · have hx : xs = [] := List.eq_nil_of_length_eq_zero hxl
    subst hx
    obtain ⟨v2, w2, hr2, h3, _, _⟩ := Lib.run_append_own_string (P := P) w w.heap.size t u ty e i ht hu hi hz hsize hby (.slice none 0 0) 0 [] (World.ownsRow_nil w _ e 1) s h63 hbytes (Nat.le_refl _)
    rw [hr] at hr2
    injection hr2 with e1 e2
    subst e1
    rcases h3.2 with ⟨rfl, _⟩ | ⟨g', c', cu', rfl, hb, _⟩
    · simp [Value.ownBlock] at hk
    · simp [Value.ownBlock] at hk; subst hk; exact .inr hb
  · have hcs' : cur.size = cap := by simpa using hcs
    by_cases hroom : n + s.size ≤ cap
    · have hr2 := Lib.run_append_room_stringF (P := P) w t u ty e i ht hu hi hsize g n cap cur fz hg (by simpa using hfz) s hroom (by omega)
      rw [hr] at hr2
      injection hr2 with e1 e2
      subst e1
      exact .inl hk
    · have holds : ∀ j u, xs[j]? = some u → w.cell? ((⟨g, 0, none⟩ : Addr).add j) = some u := hown.cells (g := g) rfl
      have hr2 := Lib.run_append_grow_string (P := P) w t u ty e i (.int .u8 0) ht hu hi hz ⟨g, 0, none⟩ n cap xs (by rw [hsize]; simpa using hxl) holds s (by omega) (by unfold maxLen at h63; omega) (by rw [hby]; exact growslice_fits (by omega) (by omega))
      rw [hr] at hr2
      injection hr2 with e1 e2
      subst e1
      simp [Value.ownBlock] at hk
      exact .inr (by omega)
theorem wpList_append_bldF {ops : Array Oper} {rest : List Oper} {o : Oper} {a : Act} {Q : Exit → Act → World → Prop} (hgd : o.guard = none) (sl x : Operand) (t u : TypeId)
    (ho : o.op = .call { callee := .builtin .append, args := #[sl, x], argTypes := #[t, u] })
    (e : TypeId) (i : TypeInfo) (ht : P.underlying t = some (.slice e)) (hu : P.underlying u = some .string) (hi : P.info? e = some i) (hz : i.zero = some (.int .u8 0))
    (hsize : i.size = 1) (hby : i.bytes = 1)
    (v : Value) (n : Nat) (xs : List Value) (hs : a.eval sl = v) (hown : w.ownsRowF 0 e 1 v n xs) (s : ByteArray) (hx : a.eval x = .string s)
    (h63 : n + s.size ≤ maxLen) (hbytes : n + s.size ≤ 140737488355328)
    (h : ∀ v' w', w'.ownsRowF 0 e 1 v' (n + s.size) (xs ++ Lib.strCells s) → w.grownBy w' v.ownBlock → (∀ k, v'.ownBlock = some k → v.ownBlock = some k ∨ w.heap.size ≤ k) → wpList P ops Q rest (a.put o.dst v') w') : wpList P ops Q (o :: rest) a w := by
  refine wpList_plain hgd fun K hK => ?_
  obtain ⟨v', w', hr, h2, h3, h4⟩ := run_append_bldF (P := P) w t u o.type e i ht hu hi hz hsize hby v n xs hown s h63 hbytes
  unfold Oper.wp execOp
  simp only [ho, resolve, invoke, builtin, Sem.run_bind, Sem.run_pure, Result.andThen_ok, List.map_toArray, List.map_cons, List.map_nil, hs, hx, hr]
  exact hK _ _ (h v' w' h2 h3 h4)
end
theorem rowF_lt {w : World} {e : TypeId} {s n : Nat} {v : Value} {xs : List Value} (h : w.ownsRowF 0 e s v n xs) {k : Nat} (hk : v.ownBlock = some k) : k < w.heap.size := (h.lt k hk).2
theorem rowF_block {w x : World} {e : TypeId} {s n : Nat} {v : Value} {xs : List Value} (h : w.ownsRowF 0 e s v n xs) (hx : ∀ k, v.ownBlock = some k → x.heap[k]? = w.heap[k]?) : x.ownsRowF 0 e s v n xs := by
  refine ⟨h.1, ?_⟩
  rcases h.2 with h | ⟨g, c, cu, fz, rfl, hb, hg, r⟩
  · exact .inl h
  · exact .inr ⟨g, c, cu, fz, rfl, hb, (hx g rfl).trans hg, r⟩
/-- a builder at b that holds the bytes l; it is apart from the blocks of K -/
def Scr (K : Nat → Prop) (b : Nat) (l : List UInt8) (w : World) : Prop :=
  ∃ p v, (p = .pointer none ∨ p = .pointer (some ⟨b, 0, none⟩)) ∧ w.heap[b]? = some (.cells #[p, v] 225 (0, 0)) ∧ w.ownsRowF 0 5 1 v l.length (Lib.byteCells l) ∧ v.ownBlock ≠ some b ∧ ∀ k, K k → k < w.heap.size ∧ k ≠ b ∧ v.ownBlock ≠ some k
theorem Scr.gr {K : Nat → Prop} {b : Nat} {l : List UInt8} {w x : World} (h : Scr K b l w) (hg : Gr w x) : Scr K b l x := by
  obtain ⟨p, v, hp, hb, ho, hn, hk⟩ := h
  exact ⟨p, v, hp, hg.block hb, rowF_block ho (fun k hk => (show Below w.heap.size w x from hg).block k (rowF_lt ho hk)), hn, fun k hkk => ⟨Nat.lt_of_lt_of_le (hk k hkk).1 hg.size, (hk k hkk).2⟩⟩
theorem Scr.sub {K K' : Nat → Prop} {b : Nat} {l : List UInt8} {w : World} (h : Scr K b l w) (hs : ∀ k, K' k → K k) : Scr K' b l w := by
  obtain ⟨p, v, hp, hb, ho, hn, hk⟩ := h
  exact ⟨p, v, hp, hb, ho, hn, fun k hkk => hk k (hs k hkk)⟩
/-- new blocks are apart from it -/
theorem Scr.add {K K' : Nat → Prop} {b : Nat} {l : List UInt8} {w x : World} (h : Scr K b l w) (hg : Gr w x) (hs : ∀ k, K' k → K k ∨ (w.heap.size ≤ k ∧ k < x.heap.size)) : Scr K' b l x := by
  obtain ⟨p, v, hp, hb, ho, hn, hk⟩ := h
  refine ⟨p, v, hp, hg.block hb, rowF_block ho (fun k hk => (show Below w.heap.size w x from hg).block k (rowF_lt ho hk)), hn, fun k hkk => ?_⟩
  rcases hs k hkk with h1 | ⟨h1, h2⟩
  · exact ⟨Nat.lt_of_lt_of_le (hk k h1).1 hg.size, (hk k h1).2⟩
  · refine ⟨h2, fun e => ?_, fun e => ?_⟩
    · have := (Array.getElem?_eq_some_iff.1 hb).1; omega
    · have := rowF_lt ho e; omega
theorem Scr.lt {K : Nat → Prop} {b : Nat} {l : List UInt8} {w : World} (h : Scr K b l w) {k : Nat} (hk : K k) : k < w.heap.size := by
  obtain ⟨_, _, _, _, _, _, h1⟩ := h
  exact (h1 k hk).1
theorem Scr.made (w : World) (K : Nat → Prop) (hK : ∀ k, K k → k < w.heap.size) : Scr K w.heap.size [] (w.alloc (.cells #[.pointer none, .slice none 0 0] 225)) :=
  ⟨.pointer none, .slice none 0 0, .inl rfl, heap_alloc_new _ _, World.ownsRowF_nil _ _ _ _, by simp [Value.ownBlock], fun k hk => ⟨by have := hK k hk; simp; omega, by have := hK k hk; omega, by simp [Value.ownBlock]⟩⟩
/-- a builder that has been written -/
def ScrU (K : Nat → Prop) (b : Nat) (v : Value) (l : List UInt8) (w : World) : Prop :=
  w.heap[b]? = some (.cells #[.pointer (some ⟨b, 0, none⟩), v] 225 (0, 0)) ∧ w.ownsRowF 0 5 1 v l.length (Lib.byteCells l) ∧ v.ownBlock ≠ some b ∧ ∀ k, K k → k < w.heap.size ∧ k ≠ b ∧ v.ownBlock ≠ some k
theorem liesScr : liesAt Tryz.prog Tryz.prog.depth 225 (2 / Tryz.prog.cellsOf 225) 0 75 1 = true := by kernel_rfl
set_option maxHeartbeats 1000000 in
set_option maxRecDepth 100000 in
theorem chk_usedS (b : Nat) (w : World) (h0 : w.cell? ⟨b, 0, none⟩ = some (.pointer (some ⟨b, 0, none⟩))) :
    Calls Tryz.prog 139 #[.pointer (some ⟨b, 0, none⟩)] w fun e w' => e = .returned (.tuple #[]) ∧ w' = w := by
  obtain ⟨j, hj, _⟩ := Option.map_eq_some_iff.1 sizeBld
  have HJ := Lib.hid hj
  clear hj
  go_enter Tryz.func139, Tryz.ntmps139
  go_wp2
  rw [Lib.run_neq_ptr_same w _ Tryz.underlying72 HJ.out]
  go_wp2
  go_end0
  exact ⟨rfl, rfl⟩
set_option maxHeartbeats 1000000 in
set_option maxRecDepth 100000 in
theorem chk_freshS (b : Nat) (w : World) (h0 : w.cell? ⟨b, 0, none⟩ = some (.pointer none)) (hsh : w.shape? b = some (225, 2)) (hfz : w.frozen? ⟨b, 0, none⟩ = false) :
    Calls Tryz.prog 139 #[.pointer (some ⟨b, 0, none⟩)] w fun e w' => e = .returned (.tuple #[]) ∧ w' = w.setCell ⟨b, 0, none⟩ (.pointer (some ⟨b, 0, none⟩)) := by
  obtain ⟨j, hj, hjs⟩ := Option.map_eq_some_iff.1 sizeBld
  have HJ := Lib.hid hj
  have HJS := Lib.hid hjs
  clear hj hjs
  go_enter Tryz.func139, Tryz.ntmps139
  go_wp2
  rw [Lib.run_to_unsafe w ⟨b, 0, none⟩ Tryz.underlying72 Tryz.underlying261 HJ.out (by rw [HJS.out]; decide) hsh (Nat.zero_lt_succ 1)]
  simp only [Result.andThen]
  rw [Oper.upon_value]
  go_wp2
  rw [run_callFunc_extern Tryz.func184 (by kernel_rfl) (by kernel_rfl) (by kernel_rfl) (e := Extern.AbiNoEscape.same) (by kernel_rfl)]
  rw [Lib.run_noEscape]
  simp only [Result.andThen]
  rw [Oper.upon_value]
  go_wp2
  rw [Lib.run_from_unsafe w ⟨b, 0, none⟩ Tryz.underlying261 Tryz.underlying72 HJ.out hsh liesScr]
  simp only [Result.andThen]
  rw [Oper.upon_value]
  go_wp2
  go_end0
  exact ⟨rfl, rfl⟩
theorem chk_scr (K : Nat → Prop) (b : Nat) (l : List UInt8) (w : World) (h : Scr K b l w) :
    Calls Tryz.prog 139 #[.pointer (some ⟨b, 0, none⟩)] w fun e w' => e = .returned (.tuple #[]) ∧ ∃ v, ScrU K b v l w' ∧ Kpt K w w' := by
  obtain ⟨p, v, hp, hb, ho, hn, hk⟩ := h
  have h0 : w.cell? ⟨b, 0, none⟩ = some p := by rw [cell_of_row _ _ _ _ _ _ hb]; rfl
  rcases hp with rfl | rfl
  · refine (chk_freshS b w h0 (shape_row hb) (frozen_of_row _ _ _ _ _ hb)).mono ?_
    rintro e w' ⟨rfl, rfl⟩
    have hc : Chg (some b) w (w.setCell ⟨b, 0, none⟩ (.pointer (some ⟨b, 0, none⟩))) := setCells_chg b [.pointer (some ⟨b, 0, none⟩)] 0 w
    refine ⟨rfl, v, ⟨by rw [heap_setCell_same _ _ _ _ _ _ hb]; rfl, rowF_block ho (fun k hkv => ?_), hn, fun k hkk => ?_⟩, Kpt.of_chg hc (fun k hkk => ⟨(hk k hkk).1, fun e => by injection e with e; exact (hk k hkk).2.1 e⟩)⟩
    · exact hc.at_ (rowF_lt ho hkv) (fun e => by injection e with e; subst e; exact hn hkv)
    · exact ⟨Nat.lt_of_lt_of_le (hk k hkk).1 hc.size, (hk k hkk).2⟩
  · refine (chk_usedS b w h0).mono ?_
    rintro e w' ⟨rfl, rfl⟩
    exact ⟨rfl, v, ⟨hb, ho, hn, hk⟩, Kpt.refl _ _⟩
set_option maxHeartbeats 2000000 in
set_option maxRecDepth 100000 in
/-- the string of a builder that holds a byte; it can be written on -/
theorem string_scr (K : Nat → Prop) (b : Nat) (l : List UInt8) (w : World) (h : Scr K b l w) (h0 : l ≠ []) :
    Calls Tryz.prog 23 #[.pointer (some ⟨b, 0, none⟩)] w fun e w' => e = .returned (.string ⟨l.toArray⟩) ∧ Scr K b l w' ∧ Kpt K w w' ∧ w'.heap.size = w.heap.size := by
  obtain ⟨p, v, hp, hbk, hown, hn, hk⟩ := h
  have hl0 : l.length ≠ 0 := by simpa using h0
  obtain ⟨g, cap, cur, fz, rfl, hbg, hg, hfz, hnc, hcm, hcs, htake⟩ : ∃ g cap cur fz, v = .slice (some ⟨g, 0, none⟩) l.length cap ∧ 0 ≤ g ∧ w.heap[g]? = some (.cells cur 5 fz) ∧ fz.2 ≤ l.length * 1 ∧ l.length ≤ cap ∧ cap ≤ maxLen ∧ cur.size = cap * 1 ∧ cur.toList.take (l.length * 1) = Lib.byteCells l := by
    rcases hown.2 with ⟨_, hz⟩ | ⟨g, cap, cur, fz, hv, r⟩
    · exact absurd hz hl0
    · exact ⟨g, cap, cur, fz, hv, r⟩
  have c1 : w.drew.cell? ⟨b, 1, none⟩ = some (.slice (some ⟨g, 0, none⟩) l.length cap) := by
    have : w.drew.heap[b]? = some (.cells #[p, .slice (some ⟨g, 0, none⟩) l.length cap] 225 (0, 0)) := hbk
    rw [Lib.cell_of_heap this]; rfl
  have hSD : (Builtin.unsafeSliceData_ #[73] 155 #[.slice (some ⟨g, 0, none⟩) l.length cap]).run Tryz.prog w.drew = .ok (.pointer (some ⟨g, 0, none⟩)) w.drew :=
    Lib.run_unsafeSliceData_row _ _ _ _ _ _ (by omega)
  have hUS : (Builtin.unsafeString_ #[155, 3] 9 #[.pointer (some ⟨g, 0, none⟩), .int .i64 l.length]).run Tryz.prog w.drew = .ok (.string ⟨l.toArray⟩) (w.drew.freeze ⟨g, 0, none⟩ l.length) := by
    refine Lib.run_unsafeString_row w.drew 155 3 9 5 Tryz.underlying155 Tryz.Builder_Extra_156.cellsByte g cur.size (by have hg' : w.drew.heap[g]? = some (.cells cur 5 fz) := hg; simp [World.shape?, hg']) l h0 (by omega) (by unfold maxLen at hcm; omega) ?_
    intro j x hx
    have := hown.cells (g := g) rfl j (.int .u8 x.toNat) (by simp [Lib.byteCells, hx])
    exact this
  have hgb : g ≠ b := fun e => hn (by simp [Value.ownBlock, e])
  have hsz : (w.drew.freeze ⟨g, 0, none⟩ l.length).heap.size = w.heap.size := by
    unfold World.freeze
    split
    · rfl
    · simp
  have HK : Hid (Scr K b l (w.drew.freeze ⟨g, 0, none⟩ l.length) ∧ Kpt K w (w.drew.freeze ⟨g, 0, none⟩ l.length) ∧ (w.drew.freeze ⟨g, 0, none⟩ l.length).heap.size = w.heap.size) := Lib.hid (by
    have hb := Lib.below_freeze (Below.drew (Below.refl g w)) (p := ⟨g, 0, none⟩) (Nat.le_refl g) l.length
    have hA : Lib.BuilderAtF 225 5 0 b p (Lib.byteCells l) w.drew := ⟨Nat.zero_le _, _, hbk, by rw [Lib.byteCells_length]; exact hown, hn⟩
    have hF := hA.froze (g := g) (cap := cap) (by rw [Lib.byteCells_length]; exact c1)
    rw [Lib.byteCells_length] at hF
    obtain ⟨-, v2, hb2, ho2, hn2⟩ := hF
    have hb3 := (freeze_other w.drew ⟨g, 0, none⟩ l.length b (fun e => hgb e.symm)).trans hbk
    rw [hb3] at hb2
    injection hb2 with hb2
    injection hb2 with hb2
    obtain rfl : Value.slice (some ⟨g, 0, none⟩) l.length cap = v2 := by simpa using hb2
    rw [Lib.byteCells_length] at ho2
    refine ⟨⟨p, _, hp, hb3, ho2, hn2, fun k hkk => ⟨Nat.lt_of_lt_of_le (hk k hkk).1 hb.size, (hk k hkk).2⟩⟩, ⟨hb.os, hb.tape, hb.output, hb.size, fun k hkk => ?_⟩, hsz⟩
    obtain ⟨h1, h2, h3⟩ := hk k hkk
    exact freeze_other w.drew ⟨g, 0, none⟩ l.length k (fun e => h3 (by simp [Value.ownBlock, e])))
  clear hown hn hk hp hbk hbg hg hnc hcm hcs htake hfz hgb hsz
  go_enter Tryz.func23, Tryz.ntmps23
  go_wp2
  go_region
  all_goals (go_wp2; go_ret; exact ⟨rfl, HK.out.1, HK.out.2.1, HK.out.2.2⟩)
set_option maxRecDepth 100000 in
set_option maxHeartbeats 2000000 in
theorem write_scr (K : Nat → Prop) (b : Nat) (l : List UInt8) (s : ByteArray) (w : World) (h : Scr K b l w) (hlen : l.length + s.size ≤ 1000000000) :
    Calls Tryz.prog 65 #[.pointer (some ⟨b, 0, none⟩), .string s] w fun e w' => e = .returned (.tuple #[.int .i64 s.size, .nilIface]) ∧ Scr K b (l ++ s.data.toList) w' ∧ Kpt K w w' := by
  obtain ⟨i0, hi, hz0, hz1, hz2⟩ := info_parts infoU8B
  have HI := Lib.hid hi
  have HI0 := Lib.hid hz0
  have HI1 := Lib.hid hz1
  have HI2 := Lib.hid hz2
  have HB := Lib.hid (chk_scr K b l w h)
  clear hi hz0 hz1 hz2 h
  go_enter Tryz.func65, Tryz.ntmps65
  go_wp2_with fail
  refine HB.out.mono ?_
  rintro e w1 ⟨rfl, v, hu, hk1⟩
  obtain ⟨hb, hown, hn, hkk⟩ := hu
  have c0 : w1.cell? ⟨b, 0, none⟩ = some (.pointer (some ⟨b, 0, none⟩)) := by rw [cell_of_row _ _ _ _ _ _ hb]; rfl
  have c1 : w1.cell? ⟨b, 1, none⟩ = some v := by rw [cell_of_row _ _ _ _ _ _ hb]; rfl
  have HR := Lib.hid hb
  have HO := Lib.hid hown
  have HN := Lib.hid hn
  have HKK := Lib.hid hkk
  have HK1 := Lib.hid hk1
  clear hb hown hn hkk hk1 HB
  go_wp2_with ((with_reducible show wpList _ _ _ (⟨some 14, _, _, _, _, _⟩ :: _) _ _); refine wpList_append_bldF _ rfl (.tmp 12) (.tmp 13) 73 9 rfl 5 i0 Tryz.underlying73 Tryz.underlying9 HI.out HI0.out HI1.out HI2.out v l.length (Lib.byteCells l) rfl HO.out s rfl ?c3 ?c4 ?_)
  case c3 => unfold maxLen; omega
  case c4 => omega
  intro v' w2 hown' hgrow hblk
  have hlt : b < w1.heap.size := (Array.getElem?_eq_some_iff.1 HR.out).1
  have hb2 : w2.heap[b]? = some (.cells #[.pointer (some ⟨b, 0, none⟩), v] 225 (0, 0)) := (hgrow.block b hlt (fun e => HN.out e.symm)).trans HR.out
  have d0 : w2.cell? ⟨b, 0, none⟩ = some (.pointer (some ⟨b, 0, none⟩)) := by rw [cell_of_row _ _ _ _ _ _ hb2]; rfl
  have d1 : w2.cell? ⟨b, 1, none⟩ = some v := by rw [cell_of_row _ _ _ _ _ _ hb2]; rfl
  have f1 : w2.frozen? ⟨b, 1, none⟩ = false := frozen_of_row _ _ _ _ _ hb2
  obtain ⟨ao, n', cap, rfl⟩ : ∃ ao n' cap, v' = .slice ao n' cap := by
    rcases hown'.2 with ⟨hv, _⟩ | ⟨g, cap, cur, fz, hv, _⟩
    · exact ⟨_, _, _, hv⟩
    · exact ⟨_, _, _, hv⟩
  have hc : Chg (some b) w2 (w2.setCell ⟨b, 1, none⟩ (.slice ao n' cap)) := setCells_chg b [.slice ao n' cap] 1 w2
  have hne2 : (Value.slice ao n' cap).ownBlock ≠ some b := fun e => by
    rcases hblk b e with h | h
    · exact HN.out h
    · omega
  have HFin : Hid (Scr K b (l ++ s.data.toList) (w2.setCell ⟨b, 1, none⟩ (.slice ao n' cap)) ∧ Kpt K w (w2.setCell ⟨b, 1, none⟩ (.slice ao n' cap))) := Lib.hid (by
    refine ⟨⟨.pointer (some ⟨b, 0, none⟩), .slice ao n' cap, .inr rfl, by rw [heap_setCell_same _ _ _ _ _ _ hb2]; rfl, ?_, hne2, fun k hk => ?_⟩, HK1.out.trans ⟨?_, ?_, ?_, ?_, fun k hk => ?_⟩⟩
    · rw [byteCells_app, len_app]
      exact rowF_block hown' (fun k hk => hc.at_ (rowF_lt hown' hk) (fun e => by injection e with e; subst e; exact hne2 hk))
    · obtain ⟨h1, h2, h3⟩ := HKK.out k hk
      refine ⟨Nat.lt_of_lt_of_le h1 (Nat.le_trans hgrow.size hc.size), h2, fun e => ?_⟩
      rcases hblk k e with h | h
      · exact h3 h
      · omega
    · exact hc.1.trans hgrow.os
    · exact hc.2.1.trans hgrow.tape
    · exact hc.2.2.1.trans hgrow.output
    · exact Nat.le_trans hgrow.size hc.size
    · obtain ⟨h1, h2, h3⟩ := HKK.out k hk
      exact (hc.at_ (Nat.lt_of_lt_of_le h1 hgrow.size) (fun e => by injection e with e; exact h2 e)).trans (hgrow.block k h1 (fun e => h3 e.symm)))
  clear hown' hgrow hblk hc hne2 hb2 HR HO HN HKK HK1 c0 c1
  go_wp2_with fail
  go_ret2
  exact ⟨rfl, HFin.out⟩
theorem text_scr (K : Nat → Prop) (b : Nat) (l : List UInt8) (s : ByteArray) (w : World) (h : Scr K b l w) (hs : s.size ≤ 65536) (hlen : l.length + s.size ≤ 999999000) :
    Calls Tryz.prog 89 #[.pointer (some ⟨b, 0, none⟩), .string s] w fun e w' => e = .returned (.tuple #[]) ∧ Scr K b (l ++ (numB s.size ++ s).data.toList) w' ∧ Kpt K w w' := by
  have hn := numB_size s.size
  have HP := putString_any s hs w
  rw [show putD s = numB s.size ++ s from rfl] at HP
  replace HP := Lib.hid HP
  have HW := Lib.hid (fun y (hb : Scr K b l y) => write_scr K b l (numB s.size ++ s) y hb (by rw [ByteArray.size_append]; omega))
  have HB := Lib.hid h
  clear h hn
  generalize numB s.size ++ s = S at HP HW ⊢
  go_enter Tryz.func89, Tryz.ntmps89
  go_wp2_with fail
  refine HP.out.mono ?_
  rintro e w1 ⟨rfl, hg⟩
  have HK : Hid (Kpt K w w1) := Lib.hid (Kpt.of_gr hg (fun k hk => HB.out.lt hk))
  have HB1 := Lib.hid (HB.out.gr hg)
  obtain ⟨p, v, hp, hb, -⟩ := HB1.out
  have c0 : w1.cell? ⟨b, 0, none⟩ = some p := by rw [cell_of_row _ _ _ _ _ _ hb]; rfl
  clear hg HP HB hb hp
  go_wp2_with fail
  refine (HW.out _ HB1.out).mono ?_
  rintro e w2 ⟨rfl, hb2, hk2⟩
  have HB2 := Lib.hid hb2
  have HK2 := Lib.hid (HK.out.trans hk2)
  clear hb2 hk2 HK HB1 HW c0
  go_wp2_with fail
  go_end0
  exact ⟨rfl, HB2.out, HK2.out⟩
end Go.Proofs.YtaoggehdkddgeaaGreatDoor
end
section
namespace Go.Proofs.YtaoggehdkddgeaaGreatDoor
open Go Go.RowKit Go.Shelf
attribute [local go_sem] gAt gUpon
attribute [local simp] Gr.refl Gr.alloc

theorem withinE_any (n lo hi : Int) (w : World) : Calls Tryz.prog 85 #[.int .i64 n, .int .i64 lo, .int .i64 hi] w fun e w' => e = .returned (.bool (withinB n lo hi)) ∧ w = w' := by
  by_cases h : lo ≤ n
  · have t1 : decide (lo ≤ n) = true := decide_eq_true h
    have e : withinB n lo hi = decide (n ≤ hi) := by unfold withinB; rw [t1]; simp
    rw [e]
    clear e h
    go_enter Tryz.func85, Tryz.ntmps85
    go_wp2
    go_ret
    exact ⟨rfl, rfl⟩
  · have t1 : decide (lo ≤ n) = false := decide_eq_false h
    have e : withinB n lo hi = false := by unfold withinB; rw [t1]; simp
    rw [e]
    clear e h
    go_enter Tryz.func85, Tryz.ntmps85
    go_wp2
    go_ret
    exact ⟨rfl, rfl⟩
theorem withinE_true {n lo hi : Int} (h : lo ≤ n ∧ n ≤ hi) (w : World) : Calls Tryz.prog 85 #[.int .i64 n, .int .i64 lo, .int .i64 hi] w fun e w' => e = .returned (.bool true) ∧ w = w' := by
  have e : withinB n lo hi = true := withinB_iff.2 h
  rw [← e]; exact withinE_any n lo hi w
theorem ones64 (w : World) : Calls Tryz.prog 187 #[.int .u64 7] w fun e w' => e = .returned (.int .i64 3) ∧ w = w' := by
  go_enter Tryz.func187, Tryz.ntmps187
  go_wp2
  go_ret
  exact ⟨by kernel_rfl, rfl⟩
theorem ones7 (w : World) : Calls Tryz.prog 143 #[.int .u64 7] w fun e w' => e = .returned (.int .i64 3) ∧ w = w' := by
  have HO := Lib.hid (fun y => ones64 y)
  go_enter Tryz.func143, Tryz.ntmps143
  go_wp2_with (go_at_call 187; refine (HO.out _).mono ?_; rintro e w' ⟨rfl, rfl⟩)
  go_ret
  exact ⟨rfl, rfl⟩
set_option maxRecDepth 100000 in
set_option maxHeartbeats 1000000 in
theorem stampValid (d : Nat) (hd : d ≤ 100000) (v : ByteArray) (w : World) : Calls Tryz.prog 71 #[.agg #[.int .i64 (d : Int), .int .i64 1, .int .i64 7, .string v]] w fun e w' => e = .returned (.bool true) ∧ Gr w w' := by
  have H1 := Lib.hid (fun y => withinE_true (n := (d : Int)) (lo := 0) (hi := 100000) ⟨by omega, by omega⟩ y)
  have H2 := Lib.hid (fun y => withinE_true (n := 1) (lo := 0) (hi := 7) ⟨by decide, by decide⟩ y)
  have H3 := Lib.hid (fun y => withinE_true (n := 7) (lo := 0) (hi := 255) ⟨by decide, by decide⟩ y)
  have H4 := Lib.hid (fun y => ones7 y)
  go_enter Tryz.func71, Tryz.ntmps71
  go_upto_region 1 with fail
  refine wp_gen (F := fun z => Gr w z ∧ z.heap[w.heap.size]? = some (.cells #[.int .i64 (d : Int), .int .i64 1, .int .i64 7, .string v] 87 (0, 0))) ⟨Gr.alloc _ _, heap_alloc_new _ _⟩ ?_
  rintro w1 ⟨hg, hr⟩
  obtain ⟨k0, k1, k2, k3⟩ := row4 hr
  generalize w.heap.size = b at k0 k1 k2 k3 hr ⊢
  have HG := Lib.hid hg
  clear hg hr
  go_wp2_with fail
  refine (H1.out _).mono ?_
  rintro e w' ⟨rfl, rfl⟩
  go_wp2_with fail
  refine (H2.out _).mono ?_
  rintro e w' ⟨rfl, rfl⟩
  go_wp2_with fail
  refine (H3.out _).mono ?_
  rintro e w' ⟨rfl, rfl⟩
  go_wp2_with fail
  refine (H4.out _).mono ?_
  rintro e w' ⟨rfl, rfl⟩
  go_wp2_with fail
  go_ret
  exact ⟨rfl, HG.out⟩
/-- evidence.Hash of kind 1 -/
def hashE (s : ByteArray) : ByteArray := sha (⟨#[1]⟩ ++ s)
set_option maxRecDepth 100000 in
set_option maxHeartbeats 1000000 in
theorem hashE_any (s : ByteArray) (w : World) (hs : s.size ≤ 1000000000) (hT : Tab w) : Calls Tryz.prog 144 #[.int .i64 1, .string s] w fun e w' => e = .returned (.string (hashE s)) ∧ Gr w w' := by
  have H1 := Lib.hid (fun y => withinE_true (n := 1) (lo := 0) (hi := 7) ⟨by decide, by decide⟩ y)
  have hz : ((⟨#[1]⟩ : ByteArray) ++ s).size = 1 + s.size := by rw [ByteArray.size_append]; rfl
  have HS := Lib.hid (fun y (hg : Gr w y) => sum_any ((⟨#[1]⟩ : ByteArray) ++ s) y (by rw [hz]; omega) (hT.gr hg))
  have hadd : ∀ w1, (Op.stringOp .add ⟨#[1]⟩ s).run Tryz.prog w1 = .ok (.string ((⟨#[1]⟩ : ByteArray) ++ s)) w1 := by
    intro w1
    rw [run_string_add_sum]; rw [show (⟨#[1]⟩ : ByteArray).size = 1 from rfl]; omega
  have hby : Lib.Bytes (w.alloc (.cells #[.int .u8 1] 5)) w.heap.size 0 (⟨#[1]⟩ : ByteArray) := by
    have hr := heap_alloc_new w (.cells #[.int .u8 1] 5)
    intro i hi
    rw [cell_of_row _ _ _ _ _ _ hr]
    have hi : i < 1 := hi
    obtain rfl : i = 0 := by omega
    rfl
  have hconv := Go.Lib.run_convert_whole (P := Tryz.prog) (w.alloc (.cells #[.int .u8 1] 5)) 73 5 9 Tryz.underlying73 Tryz.underlying5 Tryz.underlying9 w.heap.size 0 (⟨#[1]⟩ : ByteArray) hby 1
  rw [show (⟨#[1]⟩ : ByteArray).size = 1 from rfl] at hconv
  have HE : Hid (sha ((⟨#[1]⟩ : ByteArray) ++ s) = hashE s) := Lib.hid rfl
  generalize (⟨#[1]⟩ : ByteArray) ++ s = S at hadd HS HE hz
  clear hby hz hs hT
  go_enter Tryz.func144, Tryz.ntmps144
  go_wp2_with fail
  refine (H1.out _).mono ?_
  rintro e w' ⟨rfl, rfl⟩
  go_wp2_with fail
  refine (HS.out _ (Gr.alloc _ _)).mono ?_
  rintro e w' ⟨rfl, hg⟩
  have HG := Lib.hid ((Gr.alloc w (.cells #[.int .u8 1] 5)).trans hg)
  clear hg hconv hadd
  go_wp2_with fail
  go_ret
  exact ⟨by rw [HE.out]; rfl, HG.out⟩
/-- what a stamp's numbers are as bytes -/
def stmB (d : Nat) : List UInt8 := (numB d).data.toList ++ (numB 1).data.toList ++ (numB 7).data.toList
set_option maxRecDepth 100000 in
set_option maxHeartbeats 2000000 in
theorem numbers_scr (K : Nat → Prop) (b : Nat) (l : List UInt8) (d : Nat) (v : ByteArray) (w : World) (h : Scr K b l w) (hd : d ≤ 4611686018427387903) (hlen : l.length ≤ 999999000) :
    Calls Tryz.prog 88 #[.pointer (some ⟨b, 0, none⟩), .agg #[.int .i64 (d : Int), .int .i64 1, .int .i64 7, .string v]] w fun e w' => e = .returned (.tuple #[]) ∧ Scr K b (l ++ stmB d) w' ∧ Kpt K w w' := by
  have z0 := numB_size d
  have z1 := numB_size 1
  have z2 := numB_size 7
  obtain ⟨N0, hN0⟩ : ∃ z, numB d = z := ⟨_, rfl⟩
  obtain ⟨N1, hN1⟩ : ∃ z, numB 1 = z := ⟨_, rfl⟩
  obtain ⟨N2, hN2⟩ : ∃ z, numB 7 = z := ⟨_, rfl⟩
  have HP0 : Hid (∀ y, Calls Tryz.prog 64 #[.int .i64 (d : Int)] y fun e w' => e = .returned (.tuple #[.string N0, .int .i64 0]) ∧ Gr y w') := Lib.hid (fun y => by rw [← hN0]; exact putInt_any d hd y)
  have HP1 : Hid (∀ y, Calls Tryz.prog 64 #[.int .i64 1] y fun e w' => e = .returned (.tuple #[.string N1, .int .i64 0]) ∧ Gr y w') := Lib.hid (fun y => by rw [← hN1]; exact putInt_any 1 (by decide) y)
  have HP2 : Hid (∀ y, Calls Tryz.prog 64 #[.int .i64 7] y fun e w' => e = .returned (.tuple #[.string N2, .int .i64 0]) ∧ Gr y w') := Lib.hid (fun y => by rw [← hN2]; exact putInt_any 7 (by decide) y)
  have HL : Hid (l ++ stmB d = ((l ++ N0.data.toList) ++ N1.data.toList) ++ N2.data.toList) := Lib.hid (by unfold stmB; rw [hN0, hN1, hN2]; simp only [List.append_assoc])
  rw [hN0] at z0
  rw [hN1] at z1
  rw [hN2] at z2
  have hz : ∀ s : ByteArray, s.data.toList.length = s.size := fun s => by rw [Array.length_toList]; rfl
  have HW : Hid (∀ (M : List UInt8) (s : ByteArray) (y : World), M.length ≤ 999999900 → s.size ≤ 10 → Scr K b M y → Calls Tryz.prog 65 #[.pointer (some ⟨b, 0, none⟩), .string s] y fun e w' => e = .returned (.tuple #[.int .i64 s.size, .nilIface]) ∧ Scr K b (M ++ s.data.toList) w' ∧ Kpt K y w') := Lib.hid (fun M s y h1 h2 h3 => write_scr K b M s y h3 (by omega))
  have HZ : Hid ((l ++ N0.data.toList).length ≤ 999999900 ∧ ((l ++ N0.data.toList) ++ N1.data.toList).length ≤ 999999900) := Lib.hid (by
    simp only [List.length_append, hz]; omega)
  have HB := Lib.hid h
  have Hl : Hid (l.length ≤ 999999900) := Lib.hid (by omega)
  have Hz := Lib.hid (And.intro z0 (And.intro z1 z2))
  clear h hN0 hN1 hN2 z0 z1 z2 hz hlen
  go_enter Tryz.func88, Tryz.ntmps88
  go_upto_region 1 with fail
  refine wp_gen (F := fun z => Gr w z ∧ z.heap[w.heap.size]? = some (.cells #[.int .i64 (d : Int), .int .i64 1, .int .i64 7, .string v] 85 (0, 0))) ⟨Gr.alloc _ _, heap_alloc_new _ _⟩ ?_
  rintro w1 ⟨hg, hr⟩
  obtain ⟨k0, k1, k2, k3⟩ := row4 hr
  generalize w.heap.size = bs at k0 k1 k2 k3 hr ⊢
  have HK : Hid (Kpt K w w1) := Lib.hid (Kpt.of_gr hg (fun k hk => HB.out.lt hk))
  replace HB := Lib.hid (HB.out.gr hg)
  clear hg hr
  go_upto_region 2 with fail
  clear k0 k1 k2 k3
  have hJ0 : ∀ y, (Instr.index 156 (.agg #[.int .i64 (d : Int), .int .i64 1, .int .i64 7]) (.int .i64 0)).run Tryz.prog y = .ok (.int .i64 (d : Int)) y := fun y => by kernel_rfl
  have hJ1 : ∀ y, (Instr.index 156 (.agg #[.int .i64 (d : Int), .int .i64 1, .int .i64 7]) (.int .i64 1)).run Tryz.prog y = .ok (.int .i64 1) y := fun y => by kernel_rfl
  have hJ2 : ∀ y, (Instr.index 156 (.agg #[.int .i64 (d : Int), .int .i64 1, .int .i64 7]) (.int .i64 2)).run Tryz.prog y = .ok (.int .i64 7) y := fun y => by kernel_rfl
  go_loopw [5, 6, 7, 15] (fun _ _ _ v15 W => ∃ i : Nat, i ≤ 3 ∧ v15 = .int .i64 (i : Int) ∧ Hid (Kpt K w W) ∧ Hid ((i = 0 ∧ Scr K b l W) ∨ (i = 1 ∧ Scr K b (l ++ N0.data.toList) W) ∨ (i = 2 ∧ Scr K b ((l ++ N0.data.toList) ++ N1.data.toList) W) ∨ (i = 3 ∧ Scr K b (((l ++ N0.data.toList) ++ N1.data.toList) ++ N2.data.toList) W))) (fun _ _ _ v15 _ => 3 - (intOf v15).toNat)
  case atStart => exact ⟨0, Nat.zero_le _, rfl, HK, Lib.hid (.inl ⟨rfl, HB.out⟩)⟩
  clear HK HB
  case round =>
    obtain ⟨i, hi, rfl, HK, HC⟩ := hrel
    rcases (show i = 0 ∨ i = 1 ∨ i = 2 ∨ i = 3 by omega) with rfl | rfl | rfl | rfl
    · have HB1 : Hid (Scr K b l wr) := Lib.hid (by
        rcases HC.out with ⟨_, h⟩ | ⟨h, _⟩ | ⟨h, _⟩ | ⟨h, _⟩
        · exact h
        all_goals omega)
      clear HC
      go_wp2_with fail
      refine (HP0.out _).mono ?_
      rintro e w1 ⟨rfl, hg⟩
      have HK1 : Hid (Kpt K w w1) := Lib.hid (HK.out.trans (Kpt.of_gr hg (fun k hk => HB1.out.lt hk)))
      have HB2 := Lib.hid (HB1.out.gr hg)
      obtain ⟨p, v, hp, hb, -⟩ := HB2.out
      have d0 : w1.cell? ⟨b, 0, none⟩ = some p := by rw [cell_of_row _ _ _ _ _ _ hb]; rfl
      clear hg HB1 HK hb hp
      go_wp2_with fail
      refine (HW.out _ _ _ Hl.out Hz.out.1 HB2.out).mono ?_
      rintro e w2 ⟨rfl, hb2, hk2⟩
      have HB3 := Lib.hid hb2
      have HK3 := Lib.hid (HK1.out.trans hk2)
      clear hb2 hk2 HK1 HB2 d0
      go_wp2_with fail
      go_roundw
      case rel => exact ⟨1, by omega, by go_num, HK3, Lib.hid (.inr (.inl ⟨rfl, HB3.out⟩))⟩
      case measure => simp [intOf]
    · have HB1 : Hid (Scr K b (l ++ N0.data.toList) wr) := Lib.hid (by
        rcases HC.out with ⟨h, _⟩ | ⟨_, h⟩ | ⟨h, _⟩ | ⟨h, _⟩
        · omega
        · exact h
        all_goals omega)
      clear HC
      go_wp2_with fail
      refine (HP1.out _).mono ?_
      rintro e w1 ⟨rfl, hg⟩
      have HK1 : Hid (Kpt K w w1) := Lib.hid (HK.out.trans (Kpt.of_gr hg (fun k hk => HB1.out.lt hk)))
      have HB2 := Lib.hid (HB1.out.gr hg)
      obtain ⟨p, v, hp, hb, -⟩ := HB2.out
      have d0 : w1.cell? ⟨b, 0, none⟩ = some p := by rw [cell_of_row _ _ _ _ _ _ hb]; rfl
      clear hg HB1 HK hb hp
      go_wp2_with fail
      refine (HW.out _ _ _ HZ.out.1 Hz.out.2.1 HB2.out).mono ?_
      rintro e w2 ⟨rfl, hb2, hk2⟩
      have HB3 := Lib.hid hb2
      have HK3 := Lib.hid (HK1.out.trans hk2)
      clear hb2 hk2 HK1 HB2 d0
      go_wp2_with fail
      go_roundw
      case rel => exact ⟨2, by omega, by go_num, HK3, Lib.hid (.inr (.inr (.inl ⟨rfl, HB3.out⟩)))⟩
      case measure => simp [intOf]
    · have HB1 : Hid (Scr K b ((l ++ N0.data.toList) ++ N1.data.toList) wr) := Lib.hid (by
        rcases HC.out with ⟨h, _⟩ | ⟨h, _⟩ | ⟨_, h⟩ | ⟨h, _⟩
        · omega
        · omega
        · exact h
        all_goals omega)
      clear HC
      go_wp2_with fail
      refine (HP2.out _).mono ?_
      rintro e w1 ⟨rfl, hg⟩
      have HK1 : Hid (Kpt K w w1) := Lib.hid (HK.out.trans (Kpt.of_gr hg (fun k hk => HB1.out.lt hk)))
      have HB2 := Lib.hid (HB1.out.gr hg)
      obtain ⟨p, v, hp, hb, -⟩ := HB2.out
      have d0 : w1.cell? ⟨b, 0, none⟩ = some p := by rw [cell_of_row _ _ _ _ _ _ hb]; rfl
      clear hg HB1 HK hb hp
      go_wp2_with fail
      refine (HW.out _ _ _ HZ.out.2 Hz.out.2.2 HB2.out).mono ?_
      rintro e w2 ⟨rfl, hb2, hk2⟩
      have HB3 := Lib.hid hb2
      have HK3 := Lib.hid (HK1.out.trans hk2)
      clear hb2 hk2 HK1 HB2 d0
      go_wp2_with fail
      go_roundw
      case rel => exact ⟨3, by omega, by go_num, HK3, Lib.hid (.inr (.inr (.inr ⟨rfl, HB3.out⟩)))⟩
      case measure => simp [intOf]
    · have HB1 : Hid (Scr K b (((l ++ N0.data.toList) ++ N1.data.toList) ++ N2.data.toList) wr) := Lib.hid (by
        rcases HC.out with ⟨h, _⟩ | ⟨h, _⟩ | ⟨h, _⟩ | ⟨_, h⟩
        · omega
        · omega
        · omega
        · exact h)
      clear HC
      go_wp2_with fail
      go_end0
      exact ⟨rfl, by rw [HL.out]; exact HB1.out, HK.out⟩
end Go.Proofs.YtaoggehdkddgeaaGreatDoor
end
section
namespace Go.Proofs.YtaoggehdkddgeaaGreatDoor
open Go Go.RowKit Go.Shelf
attribute [local go_sem] gAt gUpon hUpon
attribute [local simp] Gr.refl Gr.alloc

/-- what a builder holds stays where the blocks that it may lie in stay -/
theorem Scr.kpt {K K' : Nat → Prop} {b : Nat} {l : List UInt8} {w w' : World} (h : Scr K b l w) (hk : Kpt K' w w') (hall : ∀ k, k < w.heap.size → ¬ K k → K' k) : Scr K b l w' := by
  obtain ⟨p, v, hp, hb, ho, hn, hk'⟩ := h
  refine ⟨p, v, hp, hk.block (hall b (Array.getElem?_eq_some_iff.1 hb).1 (fun e => (hk' b e).2.1 rfl)) hb, rowF_block ho (fun g hg => hk.2.2.2.2 g (hall g (rowF_lt ho hg) (fun e => (hk' g e).2.2 hg))), hn, fun k hkk => ⟨Nat.lt_of_lt_of_le (hk' k hkk).1 hk.size, (hk' k hkk).2⟩⟩
theorem Kpt.step {B : Nat} {w w2 w3 : World} (h : Gr w w2) (k : Kpt (fun j => j < B) w2 w3) (hB : w.heap.size ≤ B) : Gr w w3 :=
  show Below w.heap.size w w3 from ⟨k.1.trans h.os, k.2.1.trans h.tape, k.2.2.1.trans h.output, Nat.le_trans h.size k.size, fun j hj => (k.2.2.2.2 j (by omega)).trans ((show Below w.heap.size w w2 from h).block j hj)⟩
set_option maxRecDepth 100000 in
set_option maxHeartbeats 1000000 in
theorem newScroll_any (s : ByteArray) (w : World) (hs : s.size ≤ 65536) : Calls Tryz.prog 73 #[.string s, .slice none 0 0] w fun e w' =>
    ∃ b, e = .returned (.pointer (some ⟨b, 0, none⟩)) ∧ w.heap.size ≤ b ∧ Scr (fun k => k < w.heap.size) b (putD s).data.toList w' ∧ Gr w w' := by
  have HT := Lib.hid (fun (y : World) (h : Scr (fun k => k < w.heap.size) w.heap.size [] y) => text_scr (fun k => k < w.heap.size) w.heap.size [] s y h hs (by simp; omega))
  go_enter Tryz.func73, Tryz.ntmps73
  go_upto_region 2 with fail
  have HM := Lib.hid (Scr.made w (fun k => k < w.heap.size) (fun _ h => h))
  go_wp2_with fail
  refine (HT.out _ HM.out).mono ?_
  rintro e w2 ⟨rfl, hs2, hk2⟩
  have HS2 := Lib.hid hs2
  have HG2 := Lib.hid (Kpt.step (Gr.alloc w _) hk2 (Nat.le_refl _))
  clear hs2 hk2 HM HT
  go_wp2_with fail
  go_loopw [7, 15] (fun _ v15 W => v15 = .int .i64 0 ∧ Hid (Scr (fun k => k < w.heap.size) w.heap.size (putD s).data.toList W) ∧ Hid (Gr w W)) (fun _ _ _ => 0)
  case atStart => exact ⟨rfl, HS2, HG2⟩
  clear HS2 HG2
  case round =>
    obtain ⟨rfl, HS2, HG2⟩ := hrel
    go_wp2_with fail
    go_ret
    exact ⟨_, rfl, Nat.le_refl _, HS2.out, HG2.out⟩
/-- the value that a stamp must have -/
def valE (l : List UInt8) (d : Nat) : ByteArray := hashE ((⟨l.toArray⟩ : ByteArray) ++ ⟨(stmB d).toArray⟩)
theorem stmB_len (d : Nat) : (stmB d).length ≤ 30 := by
  have hz : ∀ s : ByteArray, s.data.toList.length = s.size := fun s => by rw [Array.length_toList]; rfl
  have z0 := numB_size d
  have z1 := numB_size 1
  have z2 := numB_size 7
  unfold stmB
  simp only [List.length_append, hz]; omega
theorem stmB_ne (d : Nat) : stmB d ≠ [] := by
  have h : (numB 7).data.toList ≠ [] := by decide +kernel
  unfold stmB
  simp only [ne_eq, List.append_eq_nil_iff, not_and]
  intro _; exact h
set_option maxRecDepth 100000 in
set_option maxHeartbeats 2000000 in
theorem value_any (K : Nat → Prop) (b : Nat) (l : List UInt8) (d : Nat) (v : ByteArray) (w : World) (h : Scr K b l w) (hl : l ≠ []) (hlen : l.length ≤ 1000000) (hd : d ≤ 4611686018427387903) (hTK : ∀ y, Kpt K w y → Tab y) :
    Calls Tryz.prog 72 #[.agg #[.int .i64 (d : Int), .int .i64 1, .int .i64 7, .string v], .pointer (some ⟨b, 0, none⟩)] w fun e w' => e = .returned (.string (valE l d)) ∧ Scr K b l w' ∧ Kpt K w w' := by
  have HKw : Hid (∀ k, K k → k < w.heap.size) := Lib.hid (fun k hk => h.lt hk)
  have HB := Lib.hid h
  have HTK := Lib.hid hTK
  have hzl : (⟨l.toArray⟩ : ByteArray).size = l.length := List.size_toArray
  have hzs : (⟨(stmB d).toArray⟩ : ByteArray).size = (stmB d).length := List.size_toArray
  have hst := stmB_len d
  have HHs := Lib.hid (fun y (hg : Tab y) => hashE_any ((⟨l.toArray⟩ : ByteArray) ++ ⟨(stmB d).toArray⟩) y (by rw [ByteArray.size_append, hzl, hzs]; omega) hg)
  have hadd : ∀ w1, (Op.stringOp .add (⟨l.toArray⟩ : ByteArray) ⟨(stmB d).toArray⟩).run Tryz.prog w1 = .ok (.string ((⟨l.toArray⟩ : ByteArray) ++ ⟨(stmB d).toArray⟩)) w1 := by
    intro w1
    rw [run_string_add_sum]; rw [hzl, hzs]; omega
  have HE : Hid (hashE ((⟨l.toArray⟩ : ByteArray) ++ ⟨(stmB d).toArray⟩) = valE l d) := Lib.hid rfl
  have HS1 : Hid (∀ (K' : Nat → Prop) (y : World), Scr K' b l y → Calls Tryz.prog 23 #[.pointer (some ⟨b, 0, none⟩)] y fun e w' => e = .returned (.string ⟨l.toArray⟩) ∧ Scr K' b l w' ∧ Kpt K' y w' ∧ w'.heap.size = y.heap.size) := Lib.hid (fun K' y hy => string_scr K' b l y hy hl)
  have HS2 : Hid (∀ (K' : Nat → Prop) (o : Nat) (y : World), Scr K' o (stmB d) y → Calls Tryz.prog 23 #[.pointer (some ⟨o, 0, none⟩)] y fun e w' => e = .returned (.string ⟨(stmB d).toArray⟩) ∧ Scr K' o (stmB d) w' ∧ Kpt K' y w' ∧ w'.heap.size = y.heap.size) := Lib.hid (fun K' o y hy => string_scr K' o (stmB d) y hy (stmB_ne d))
  generalize (⟨l.toArray⟩ : ByteArray) ++ ⟨(stmB d).toArray⟩ = SS at hadd HHs HE
  generalize (⟨l.toArray⟩ : ByteArray) = SL at hadd HS1 hzl
  generalize (⟨(stmB d).toArray⟩ : ByteArray) = SM at hadd HS2 hzs
  clear h hTK hzl hzs hst hl hlen
  go_enter Tryz.func72, Tryz.ntmps72
  go_upto_region 1 with fail
  refine wp_gen (F := fun z => Gr w z ∧ z.heap[w.heap.size]? = some (.cells #[.int .i64 (d : Int), .int .i64 1, .int .i64 7, .string v] 87 (0, 0))) ⟨Gr.alloc _ _, heap_alloc_new _ _⟩ ?_
  rintro w1 ⟨hg1, hr1⟩
  have HR1 := Lib.hid hr1
  have HG1 := Lib.hid hg1
  have Hb2 : Hid (w.heap.size < w1.heap.size) := Lib.hid (Array.getElem?_eq_some_iff.1 hr1).1
  clear hg1 hr1
  obtain ⟨b2, hb2⟩ : ∃ z, w.heap.size = z := ⟨_, rfl⟩
  have Hbw : Hid (w.heap.size = b2) := Lib.hid hb2
  rw [hb2] at HR1 Hb2
  simp only [hb2]
  clear hb2
  go_upto_region 2 with fail
  have HM := Lib.hid (Scr.made w1 (fun k => k < w1.heap.size) (fun _ h => h))
  have HG2 := Lib.hid (HG1.out.trans (Gr.alloc w1 (.cells #[.pointer none, .slice none 0 0] 225)))
  have HR2 := Lib.hid ((Gr.alloc w1 (.cells #[.pointer none, .slice none 0 0] 225)).block HR1.out)
  clear HR1 HG1
  obtain ⟨bo, hbo⟩ : ∃ z, w1.heap.size = z := ⟨_, rfl⟩
  rw [hbo] at HM Hb2
  simp only [hbo]
  have Hsz2 : Hid (bo ≤ (w1.alloc (.cells #[.pointer none, .slice none 0 0] 225)).heap.size) := Lib.hid (by rw [World.size_alloc]; omega)
  clear hbo
  generalize w1.alloc (.cells #[.pointer none, .slice none 0 0] 225) = w2 at HM HG2 HR2 Hsz2 ⊢
  obtain ⟨k0, k1, k2, k3⟩ := row4 HR2.out
  go_wp2_with fail
  clear k0 k1 k2 k3
  refine (numbers_scr (fun k => k < bo) bo [] d v w2 HM.out hd (by simp)).mono ?_
  rintro e w3 ⟨rfl, hs3, hk3⟩
  have HG3 := Lib.hid (Kpt.step HG2.out hk3 (by have h1 := Hbw.out; have h2 := Hb2.out; omega))
  have HO3 : Hid (Scr (fun k => k < bo) bo (stmB d) w3) := Lib.hid (by simpa using hs3)
  have HR3 := Lib.hid (hk3.block (k := b2) Hb2.out HR2.out)
  have Hsz3 := Lib.hid (Nat.le_trans Hsz2.out hk3.size)
  clear hs3 hk3 HM HG2 HR2 Hsz2
  have HB3 : Hid (Scr (fun k => K k ∨ (b2 ≤ k ∧ k < w3.heap.size)) b l w3.drew) := Lib.hid (HB.out.add (HG3.out.trans (Gr.drew w3)) (fun k hk => hk.imp id (fun h => by rw [Hbw.out]; exact h)))
  have HO3d := Lib.hid (HO3.out.gr (Gr.drew w3))
  have hkd : w3.drew.cell? ⟨b2, 1, none⟩ = some (.int .i64 1) := (row4 ((Gr.drew w3).block HR3.out)).2.1
  go_upto_region 3 with fail
  refine wp_region_noPanic ?_
  refine wp_region_held_drew (S := (fun y : World => y.cell? ⟨b2, 1, none⟩ = some (.int .i64 1))) (by kernel_rfl) hkd (fun hHeld => ?_)
  refine held_take 0 (v := ?_) rfl rfl (by kernel_rfl) (by kernel_rfl) (by kernel_rfl) (fun _ _ _ h => h) (by rfl) ?_ (by assumption) ?_
  rotate_left
  · (intro w hSw; (try dsimp only at hSw); go_simp; try with_reducible rfl)
  try simp only [Act.put, List.setIfInBounds_toArray, List.set_cons_zero, List.set_cons_succ]
  refine held_take 1 (v := ?_) rfl rfl (by kernel_rfl) (by kernel_rfl) (by kernel_rfl) (fun _ _ _ h => h) (by rfl) ?_ (by assumption) ?_
  rotate_left
  · (intro w hSw; (try dsimp only at hSw); go_simp; try with_reducible rfl)
  try simp only [Act.put, List.setIfInBounds_toArray, List.set_cons_zero, List.set_cons_succ]
  refine held_take 2 (v := ?_) rfl rfl (by kernel_rfl) (by kernel_rfl) (by kernel_rfl) (fun _ _ _ h => h) (by rfl) ?_ (by assumption) ?_
  rotate_left
  · (intro w hSw; (try dsimp only at hSw); go_simp; try with_reducible rfl)
  try simp only [Act.put, List.setIfInBounds_toArray, List.set_cons_zero, List.set_cons_succ]
  refine held_take 3 (v := ?_) rfl rfl (by kernel_rfl) (by kernel_rfl) (by kernel_rfl) (fun _ _ _ h => h) (by rfl) ?_ (by assumption) ?_
  rotate_left
  · (intro w hSw; (try dsimp only at hSw); go_simp; try with_reducible rfl)
  try simp only [Act.put, List.setIfInBounds_toArray, List.set_cons_zero, List.set_cons_succ]
  refine held_take 4 (v := ?_) rfl rfl (by kernel_rfl) (by kernel_rfl) (by kernel_rfl) (fun _ _ _ h => h) (by rfl) ?_ (by assumption) ?_
  rotate_left
  · (intro w hSw; (try dsimp only at hSw); go_simp; try with_reducible rfl)
  try simp only [Act.put, List.setIfInBounds_toArray, List.set_cons_zero, List.set_cons_succ]
  refine held_take 5 (v := ?_) rfl rfl (by kernel_rfl) (by kernel_rfl) (by kernel_rfl) (fun _ _ _ h => h) (by rfl) ?_ (by assumption) ?_
  rotate_left
  · (intro w hSw; (try dsimp only at hSw); go_simp; try with_reducible rfl)
  try simp only [Act.put, List.setIfInBounds_toArray, List.set_cons_zero, List.set_cons_succ]
  refine held_take 7 (v := ?_) rfl rfl (by kernel_rfl) (by kernel_rfl) (by kernel_rfl) (fun _ _ _ h => h) (by rfl) ?_ (by assumption) ?_
  rotate_left
  · (intro w hSw; (try dsimp only at hSw); go_simp; try with_reducible rfl)
  try simp only [Act.put, List.setIfInBounds_toArray, List.set_cons_zero, List.set_cons_succ]
  refine held_take 8 (v := ?_) rfl rfl (by kernel_rfl) (by kernel_rfl) (by kernel_rfl) (fun _ _ _ h => h) (by rfl) ?_ (by assumption) ?_
  rotate_left
  · (intro w hSw; (try dsimp only at hSw); go_simp; try with_reducible rfl)
  try simp only [Act.put, List.setIfInBounds_toArray, List.set_cons_zero, List.set_cons_succ]
  refine held_take 9 (v := ?_) rfl rfl (by kernel_rfl) (by kernel_rfl) (by kernel_rfl) (fun _ _ _ h => h) (by rfl) ?_ (by assumption) ?_
  rotate_left
  · (intro w hSw; (try dsimp only at hSw); go_simp; try with_reducible rfl)
  try simp only [Act.put, List.setIfInBounds_toArray, List.set_cons_zero, List.set_cons_succ]
  refine held_step 6 (by kernel_rfl) rfl rfl (by rfl) ?_
  go_simp
  refine (HS1.out _ _ HB3.out).mono ?_
  rintro e w4 ⟨rfl, hs4, hk4, hz4⟩
  have HR4 := Lib.hid (hk4.block (k := b2) (.inr ⟨Nat.le_refl _, by have h1 := Hb2.out; have h2 := Hsz3.out; omega⟩) ((Gr.drew w3).block HR3.out))
  have HO4 := Lib.hid (HO3d.out.kpt hk4 (fun k h1 h2 => .inr ⟨by have h3 := Hb2.out; simp only [Nat.not_lt] at h2; omega, h1⟩))
  have HB4 := Lib.hid hs4
  have HK4 := Lib.hid hk4
  have Hz4 := Lib.hid hz4
  clear hs4 hk4 hz4 hkd hHeld HS1
  refine ⟨_, rfl, Thn.mk (row4 HR4.out).2.1 (fun hHeld => ?_)⟩
  try simp only [Act.put, List.setIfInBounds_toArray, List.set_cons_zero, List.set_cons_succ]
  refine held_step 10 (by kernel_rfl) rfl rfl (by rfl) ?_
  go_simp
  refine (HS2.out _ _ _ HO4.out).mono ?_
  rintro e w5 ⟨rfl, hs5, hk5, hz5⟩
  have HR5 := Lib.hid (hk5.block (k := b2) Hb2.out HR4.out)
  have HB5 := Lib.hid ((HB4.out.kpt hk5 (fun k h1 h2 => by
    have h3 := Hb2.out
    have h4 := Hz4.out
    have h5 : w3.drew.heap.size = w3.heap.size := rfl
    have h6 : ¬ (b2 ≤ k ∧ k < w3.heap.size) := fun e => h2 (.inr e)
    show k < bo
    omega)).sub (K' := K) (fun k hk => .inl hk))
  have HK5 : Hid (Kpt K w w5) := Lib.hid ((Kpt.of_gr (HG3.out.trans (Gr.drew w3)) HKw.out).trans ((HK4.out.sub (fun k hk => .inl hk)).trans (hk5.sub (fun k hk => by
    have h1 := HKw.out k hk
    have h2 := Hbw.out
    have h3 := Hb2.out
    show k < bo
    omega))))
  have HT5 := Lib.hid (HTK.out w5 HK5.out)
  clear hs5 hk5 hz5 HS2 HK4 HB4 HO4
  refine ⟨_, rfl, Thn.mk (row4 HR5.out).2.1 (fun hHeld => ?_)⟩
  try simp only [Act.put, List.setIfInBounds_toArray, List.set_cons_zero, List.set_cons_succ]
  refine held_take 11 (v := ?_) rfl rfl (by kernel_rfl) (by kernel_rfl) (by kernel_rfl) (fun _ _ _ h => h) (by rfl) ?_ (by assumption) ?_
  rotate_left
  · (intro w hSw; (try dsimp only at hSw); go_simp; try with_reducible rfl)
  try simp only [Act.put, List.setIfInBounds_toArray, List.set_cons_zero, List.set_cons_succ]
  refine held_step 12 (by kernel_rfl) rfl rfl (by rfl) ?_
  go_simp
  refine (HHs.out _ HT5.out).mono ?_
  rintro e w6 ⟨rfl, hg6⟩
  have HR6 := Lib.hid (hg6.block HR5.out)
  have HB6 := Lib.hid (HB5.out.gr hg6)
  have HK6 := Lib.hid (HK5.out.trans (Kpt.of_gr hg6 (fun k hk => HB5.out.lt hk)))
  clear hg6 HB5 HK5 HT5
  refine ⟨_, rfl, Thn.mk (row4 HR6.out).2.1 (fun hHeld => ?_)⟩
  try simp only [Act.put, List.setIfInBounds_toArray, List.set_cons_zero, List.set_cons_succ]
  refine held_take 13 (v := ?_) rfl rfl (by kernel_rfl) (by kernel_rfl) (by kernel_rfl) (fun _ _ _ h => h) (by rfl) ?_ (by assumption) ?_
  rotate_left
  · (intro w hSw; (try dsimp only at hSw); go_simp; try with_reducible rfl)
  try simp only [Act.put, List.setIfInBounds_toArray, List.set_cons_zero, List.set_cons_succ]
  refine wpAnyH_done (by kernel_rfl) ?_ _
  refine NoPanic.normal ?_
  go_wp2_with fail
  go_ret
  exact ⟨by rw [HE.out]; rfl, HB6.out, HK6.out⟩
end Go.Proofs.YtaoggehdkddgeaaGreatDoor
end
section
namespace Go.Proofs.YtaoggehdkddgeaaGreatDoor
open Go Go.RowKit Go.Shelf
attribute [local go_sem] gAt gUpon pUpon
attribute [local simp] Gr.refl Gr.alloc

theorem infoStamp : (Tryz.prog.info? 85).map (fun i => (i.zero, i.size, i.bytes)) = some (some (.agg #[.int .i64 0, .int .i64 0, .int .i64 0, .string ⟨#[]⟩]), 4, 40) := by kernel_rfl
set_option maxRecDepth 100000 in
theorem cloneNil (w : World) : Calls Tryz.prog 74 #[.slice none 0 0] w fun e w' => e = .returned (.slice none 0 0) ∧ w = w' := by
  have heq := fun w1 => Lib.run_eql_slice_nil (P := Tryz.prog) w1 46 85 none 0 0 0 0 Tryz.underlying46
  go_enter Tryz.func74, Tryz.ntmps74
  go_wp2_with fail
  go_ret
  exact ⟨rfl, rfl⟩
section
variable {P : Program} {ops : Array Oper} {Q : Exit → Act → World → Prop} {md : Region.Mode} {S : World → Prop} {X : Nat → Bool}
theorem u_tail3' (i j k : Nat) {oi oj ok : Oper} {fuel : Nat} {listed : Array Bool} {a : Act} {w : World} (hl : 3 ≤ fuel) (hf : forcedB md ops [i, j, k] listed = true) (hX : [i, j, k].all X = true)
    (hi : ops[i]? = some oi) (hj : ops[j]? = some oj) (hk : ops[k]? = some ok) (h : wpList P ops Q [oi, oj, ok] a w) : wpAnyU P md ops Q S X fuel listed a w :=
  u_tail [i, j, k] [oi, oj, ok] fuel listed a w hl hf hX (by simp [hi, hj, hk]) h
end
/-- the cells of a stamp -/
def stC2 (d : Nat) (v : ByteArray) : List Value := [.int .i64 (d : Int), .int .i64 1, .int .i64 7, .string v]
/-- the value of a first stamp -/
def firstE (s : ByteArray) (d : Nat) : ByteArray := valE (putD s).data.toList d
theorem putD_ne (s : ByteArray) : (putD s).data.toList ≠ [] := by
  have h : (numB s.size).data.toList ≠ [] := by
    unfold numB
    simp [grpL]
    split <;> simp
  unfold putD
  rw [ByteArray.data_append, Array.toList_append]
  simp only [ne_eq, List.append_eq_nil_iff, not_and]
  intro h1; exact absurd h1 h
set_option maxRecDepth 100000 in
set_option maxHeartbeats 2000000 in
theorem addFirst (s : ByteArray) (d : Nat) (w : World) (hs : s.size ≤ 65536) (hd : d ≤ 100000) (hT : Tab w) :
    Calls Tryz.prog 28 #[.slice none 0 0, .string s, .agg #[.int .i64 (d : Int), .int .i64 1, .int .i64 7, .string ⟨#[]⟩]] w fun e w' => ∃ v, e = .returned (.tuple #[v, .int .i64 0]) ∧ Own w.heap.size 4 v 1 (stC2 d (firstE s d)) w' ∧ Gr w w' := by
  obtain ⟨iE, hiE, hzE, hszE, hbE⟩ := info_parts infoStamp
  have HI := Lib.hid hiE
  have HI0 := Lib.hid hzE
  have HI1 := Lib.hid hszE
  have HI2 := Lib.hid hbE
  have HT := Lib.hid hT
  have hz := numB_size s.size
  have HL : Hid ((putD s).data.toList.length ≤ 1000000) := Lib.hid (by
    rw [Array.length_toList]
    show (putD s).size ≤ _
    unfold putD
    rw [ByteArray.size_append]; omega)
  have HV := Lib.hid (fun y => stampValid d hd ⟨#[]⟩ y)
  have HN := Lib.hid (fun y => newScroll_any s y hs)
  have HC := Lib.hid (fun y => cloneNil y)
  have HFst : Hid (valE (putD s).data.toList d = firstE s d) := Lib.hid rfl
  have HNe := Lib.hid (putD_ne s)
  have hs1 : decide ((65536 : Int) < (s.size : Int)) = false := decide_eq_false (by omega)
  have hs2 : decide (65536 < s.size) = false := decide_eq_false (by omega)
  clear hiE hzE hszE hbE hT hz
  go_enter Tryz.func28, Tryz.ntmps28
  go_upto_region 1 with fail
  refine wp_gen (F := fun z => Gr w z ∧ z.heap[w.heap.size]? = some (.cells #[.int .i64 (d : Int), .int .i64 1, .int .i64 7, .string ⟨#[]⟩] 87 (0, 0))) ⟨Gr.alloc _ _, heap_alloc_new _ _⟩ ?_
  rintro w1 ⟨hg1, hr1⟩
  obtain ⟨b5, hb5⟩ : ∃ z, w.heap.size = z := ⟨_, rfl⟩
  have Hb5 : Hid (w.heap.size = b5) := Lib.hid hb5
  rw [hb5] at hr1
  simp only [hb5]
  have HG1 := Lib.hid hg1
  have HR1 := Lib.hid hr1
  clear hg1 hr1 hb5
  go_upto_region 1 with fail
  refine region_grow 18 55 (by kernel_rfl) rfl (by kernel_rfl) rfl rfl ?_
  simp only [List.take_succ_cons, List.take_zero, List.drop_succ_cons, List.drop_zero]
  refine seg 11 rfl rfl rfl rfl ?_
  simp only [List.take_succ_cons, List.take_zero, List.drop_succ_cons, List.drop_zero]
  repeat (go_big_quiet_step (fail))
  refine wpQuiet_nil ?_
  intro _
  refine grow_skip rfl rfl rfl rfl ?_
  simp only [Act.put, List.setIfInBounds_toArray, List.set_cons_zero, List.set_cons_succ]
  refine seg 6 rfl rfl rfl rfl ?_
  simp only [List.take_succ_cons, List.take_zero, List.drop_succ_cons, List.drop_zero]
  repeat (go_big_quiet_step (fail))
  refine wpQuiet_nil ?_
  intro _
  refine grow_end0 rfl rfl ?_
  intro w2 hG
  have HG2 := Lib.hid (HG1.out.trans ((Gr.drew w1).trans hG))
  have HR2 := Lib.hid (((Gr.drew w1).trans hG).block HR1.out)
  clear hG HG1 HR1
  obtain ⟨k0, k1, k2, k3⟩ := row4 HR2.out
  go_wp2_with fail
  clear k0 k1 k2 k3
  refine (HV.out _).mono ?_
  rintro e w3 ⟨rfl, hg⟩
  have HG3 := Lib.hid (HG2.out.trans hg)
  have HR3 := Lib.hid (hg.block HR2.out)
  clear hg HG2 HR2 HV
  have hkd := row4 ((Gr.drew w3).block HR3.out)
  go_upto_region 4 with fail
  clear hs1 hs2
  have hS0 : (fun y : World => y.cell? ⟨b5, 0, none⟩ = some (.int .i64 (d : Int)) ∧ y.cell? ⟨b5, 1, none⟩ = some (.int .i64 1) ∧ y.cell? ⟨b5, 2, none⟩ = some (.int .i64 7) ∧ y.cell? ⟨b5, 3, none⟩ = some (.string ⟨#[]⟩)) w3.drew := hkd
  refine u_begin (fun y : World => y.cell? ⟨b5, 0, none⟩ = some (.int .i64 (d : Int)) ∧ y.cell? ⟨b5, 1, none⟩ = some (.int .i64 1) ∧ y.cell? ⟨b5, 2, none⟩ = some (.int .i64 7) ∧ y.cell? ⟨b5, 3, none⟩ = some (.string ⟨#[]⟩)) (fun j => decide (5 ≤ j)) (by kernel_rfl) (by assumption) (fun hHeld => ?_)
  have HR3d := Lib.hid ((Gr.drew w3).block HR3.out)
  have HG3d := Lib.hid (HG3.out.trans (Gr.drew w3))
  clear HR3 HG3 hkd
  generalize w3.drew = wz at *
  have Hwz : Hid (w.heap.size ≤ wz.heap.size ∧ b5 < wz.heap.size) := Lib.hid ⟨HG3d.out.size, (Array.getElem?_eq_some_iff.1 HR3d.out).1⟩
  have HTz := Lib.hid (HT.out.gr HG3d.out)
  refine u_take 0 (v := ?_) rfl rfl (by kernel_rfl) (by kernel_rfl) (by kernel_rfl) (by kernel_rfl) (fun _ _ _ h => h) (by rfl) (by assumption) ?_ ?_
  rotate_left
  · (intro w hSw; (try dsimp only at hSw); go_simp; try with_reducible rfl)
  try simp only [Act.put, List.setIfInBounds_toArray, List.set_cons_zero, List.set_cons_succ]
  refine u_take 1 (v := ?_) rfl rfl (by kernel_rfl) (by kernel_rfl) (by kernel_rfl) (by kernel_rfl) (fun _ _ _ h => h) (by rfl) (by assumption) ?_ ?_
  rotate_left
  · (intro w hSw; (try dsimp only at hSw); go_simp; try with_reducible rfl)
  try simp only [Act.put, List.setIfInBounds_toArray, List.set_cons_zero, List.set_cons_succ]
  refine u_take 2 (v := ?_) rfl rfl (by kernel_rfl) (by kernel_rfl) (by kernel_rfl) (by kernel_rfl) (fun _ _ _ h => h) (by rfl) (by assumption) ?_ ?_
  rotate_left
  · (intro w hSw; (try dsimp only at hSw); go_simp; try with_reducible rfl)
  try simp only [Act.put, List.setIfInBounds_toArray, List.set_cons_zero, List.set_cons_succ]
  refine u_step 3 (by kernel_rfl) rfl (by rfl) ?_
  go_simp
  refine (HN.out _).mono ?_
  rintro e w4 ⟨b, rfl, hbl, hs4, hg4⟩
  have HS4 := Lib.hid hs4
  have HR4 := Lib.hid (hg4.block HR3d.out)
  have HG4 := Lib.hid (HG3d.out.trans hg4)
  have HT4 : Hid (∀ y, Kpt (fun k => k < wz.heap.size) w4 y → Tab y) := Lib.hid (fun y hy => HTz.out.gr (Kpt.step hg4 hy (Nat.le_refl _)))
  clear hbl hs4 hg4 hHeld hS0 HN HG3d HR3d
  refine .inl ⟨_, rfl, row4 HR4.out, ?_⟩
  have hHeld := row4 HR4.out
  refine u_step 4 (by kernel_rfl) rfl (by rfl) ?_
  go_simp
  refine (value_any _ b _ d ⟨#[]⟩ w4 HS4.out HNe.out HL.out (by omega) HT4.out).mono ?_
  rintro e w5 ⟨rfl, hs5, hk5⟩
  have HR5 := Lib.hid (hk5.block (k := b5) Hwz.out.2 HR4.out)
  have HG5 := Lib.hid (Kpt.step HG4.out hk5 Hwz.out.1)
  rw [HFst.out]
  obtain ⟨V, hV⟩ : ∃ z, firstE s d = z := ⟨_, rfl⟩
  rw [hV]
  have HVV := Lib.hid hV
  clear hs5 hk5 hV HS4 HR4 HG4 HT4 hHeld
  refine .inl ⟨_, rfl, row4 HR5.out, ?_⟩
  refine u_tail3' 5 6 7 (by decide) (by kernel_rfl) rfl rfl rfl rfl ?_
  obtain ⟨f0, f1, f2, f3⟩ := frozen4 HR5.out
  obtain ⟨k0, k1, k2, k3⟩ := row4 HR5.out
  go_upto_region 5 with fail
  clear f0 f1 f2 f3 k0 k1 k2 k3
  have hch : Chg (some b5) w5 (w5.setCell ⟨b5, 3, none⟩ (.string V)) := setCells_chg b5 [.string V] 3 w5
  have hrow : (w5.setCell ⟨b5, 3, none⟩ (.string V)).heap[b5]? = some (.cells #[.int .i64 (d : Int), .int .i64 1, .int .i64 7, .string V] 87 (0, 0)) := by
    rw [heap_setCell_same w5 b5 3 _ _ (.string V) HR5.out]; rfl
  have HG6 := Lib.hid (gr_step HG5.out (Gr.refl _) hch (fun g e => by cases e; rw [Hb5.out]; exact Nat.le_refl _))
  have HR6 := Lib.hid hrow
  clear hch hrow HG5 HR5
  generalize w5.setCell ⟨b5, 3, none⟩ (.string V) = w6 at HG6 HR6 ⊢
  have S0 : ∀ q : GrS w6.drew, q.w.cell? ⟨b5, 0, none⟩ = some (.int .i64 (d : Int)) := fun q => q.h.cell (w := w6.drew) (row4 HR6.out).1
  have S1 : ∀ q : GrS w6.drew, q.w.cell? ⟨b5, 1, none⟩ = some (.int .i64 1) := fun q => q.h.cell (w := w6.drew) (row4 HR6.out).2.1
  have S2 : ∀ q : GrS w6.drew, q.w.cell? ⟨b5, 2, none⟩ = some (.int .i64 7) := fun q => q.h.cell (w := w6.drew) (row4 HR6.out).2.2.1
  have S3 : ∀ q : GrS w6.drew, q.w.cell? ⟨b5, 3, none⟩ = some (.string V) := fun q => q.h.cell (w := w6.drew) (row4 HR6.out).2.2.2
  refine region_grow 5 55 (by kernel_rfl) rfl (by kernel_rfl) rfl rfl ?_
  simp only [List.take_succ_cons, List.take_zero, List.drop_succ_cons, List.drop_zero]
  refine seg 1 rfl rfl rfl rfl ?_
  simp only [List.take_succ_cons, List.take_zero, List.drop_succ_cons, List.drop_zero]
  repeat (go_big_quiet_step (fail))
  refine wpQuiet_nil ?_
  intro _
  refine grow_det (v := .slice none 0 0) rfl rfl rfl rfl rfl ?_ ?_
  · intro w1 hG
    go_simp
    refine (HC.out w1).mono ?_
    rintro e w' ⟨rfl, rfl⟩
    exact ⟨rfl, Gr.refl _⟩
  simp only [Act.put, List.setIfInBounds_toArray, List.set_cons_zero, List.set_cons_succ]
  refine seg 2 rfl rfl rfl rfl ?_
  simp only [List.take_succ_cons, List.take_zero, List.drop_succ_cons, List.drop_zero]
  repeat (go_big_quiet_step (fail))
  refine wpQuiet_nil ?_
  intro _
  refine grow_open (NewEl [.int .i64 (d : Int), .int .i64 1, .int .i64 7, .string V] 85) rfl rfl rfl rfl (stb_el _ _) (fun wX hG => ?_) ?_
  · go_simp
    exact newEl_alloc _ [.int .i64 (d : Int), .int .i64 1, .int .i64 7, .string V] _
  refine grow_end1 rfl rfl (by decide) (fun w7 u hG hu => ?_)
  obtain ⟨bn, rfl, hbn⟩ := hu
  simp only [Act.put, List.setIfInBounds_toArray, List.set_cons_zero, List.set_cons_succ]
  have HG7 := Lib.hid (HG6.out.trans ((Gr.drew w6).trans hG))
  have HBn := Lib.hid hbn
  clear hG hbn S0 S1 S2 S3 HG6 HR6 HC
  go_wp2_with ((with_reducible show wpList _ _ _ (⟨some 54, _, _, _, _, _⟩ :: _) _ _); refine wpList_append_Own rfl (.tmp 50) (.tmp 53) 46 rfl 85 iE (.agg #[.int .i64 0, .int .i64 0, .int .i64 0, .string ⟨#[]⟩]) 4 40 Tryz.underlying46 HI.out HI0.out HI1.out HI2.out rfl (by decide) rfl (Own.nil w.heap.size _ _) ⟨bn, 0, none⟩ 1 1 [.int .i64 (d : Int), .int .i64 1, .int .i64 7, .string V] rfl rfl (row_at HBn.out) ?h1 (by decide) ?b1 ?b2 HG7.out.size ?_)
  case h1 => exact ⟨rfl, rfl, rfl, rfl⟩
  case b1 => unfold maxLen; omega
  intro v9 w9 hown hchg _
  have HO9 : Hid (Own w.heap.size 4 v9 1 (stC2 d (firstE s d)) w9) := Lib.hid (by rw [HVV.out]; exact hown)
  have HG9 := Lib.hid (gr_step HG7.out (Gr.refl _) hchg (fun g e => by simp [Value.ownBlock] at e))
  clear hown hchg HG7 HBn
  go_wp2_with fail
  go_ret2
  exact ⟨v9, rfl, HO9.out, HG9.out⟩
theorem start_any (s : ByteArray) (d : Nat) (w : World) (hs : s.size ≤ 65536) (hd : d ≤ 100000) (hT : Tab w) :
    Calls Tryz.prog 10 #[.string s, .int .i64 (d : Int), .int .i64 1, .int .i64 7] w fun e w' => ∃ v, e = .returned (.tuple #[v, .int .i64 0]) ∧ Own w.heap.size 4 v 1 (stC2 d (firstE s d)) w' ∧ Gr w w' := by
  have HA := Lib.hid (addFirst s d w hs hd hT)
  clear hs hd hT
  go_enter Tryz.func10, Tryz.ntmps10
  go_wp2_with fail
  refine HA.out.mono ?_
  rintro e w1 ⟨v, rfl, ho, hg⟩
  have HO := Lib.hid ho
  have HG := Lib.hid hg
  clear ho hg HA
  go_wp2_with fail
  go_ret2
  exact ⟨v, rfl, HO.out, HG.out⟩
end Go.Proofs.YtaoggehdkddgeaaGreatDoor
end
