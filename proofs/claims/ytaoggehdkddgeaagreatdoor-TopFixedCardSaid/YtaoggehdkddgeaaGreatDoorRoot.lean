/- The contract of digest.Root: it returns the root of the entries. -/
import Derived.Test.YtaoggehdkddgeaaGreatDoorGBack
namespace Go.Proofs.YtaoggehdkddgeaaGreatDoor
open Go.RowKit Go.Shelf
attribute [local go_sem] gAt gUpon Oper.semAt_some
attribute [local simp] Gr.refl Gr.alloc

/-- the stack's roots and lengths, the first part first -/
def rC (st : List (List ByteArray)) : List Value := sC (st.reverse.map rootD)
def mC (st : List (List ByteArray)) : List Value := nC (st.reverse.map List.length)
theorem rC_push (a : List ByteArray) (st : List (List ByteArray)) : rC st ++ [.string (rootD a)] = rC (a :: st) := by simp [rC, sC]
theorem mC_push (a : List ByteArray) (st : List (List ByteArray)) : mC st ++ [.int .i64 (a.length : Int)] = mC (a :: st) := by simp [mC, nC]

theorem at_push {α β : Type} (f : α → β) (a b : α) (ps : List α) : (((a :: b :: ps).reverse.map f)[ps.length]? = some (f b)) ∧ (((a :: b :: ps).reverse.map f)[ps.length + 1]? = some (f a)) := by
  have h : (a :: b :: ps).reverse.map f = ps.reverse.map f ++ [f b, f a] := by simp
  rw [h]
  constructor
  · rw [List.getElem?_append_right (by simp)]; simp
  · rw [List.getElem?_append_right (by simp)]; simp
theorem rC_at (a b : List ByteArray) (ps : List (List ByteArray)) : (rC (a :: b :: ps))[ps.length]? = some (.string (rootD b)) ∧ (rC (a :: b :: ps))[ps.length + 1]? = some (.string (rootD a)) := by
  have h := at_push rootD a b ps
  exact ⟨by rw [rC, sC, List.getElem?_map, h.1]; rfl, by rw [rC, sC, List.getElem?_map, h.2]; rfl⟩
theorem mC_at (a b : List ByteArray) (ps : List (List ByteArray)) : (mC (a :: b :: ps))[ps.length]? = some (.int .i64 (b.length : Int)) ∧ (mC (a :: b :: ps))[ps.length + 1]? = some (.int .i64 (a.length : Int)) := by
  have h := at_push List.length a b ps
  exact ⟨by rw [mC, nC, List.getElem?_map, h.1]; rfl, by rw [mC, nC, List.getElem?_map, h.2]; rfl⟩
theorem cut_push {α β : Type} (f : α → β) (a b : α) (ps : List α) : ((a :: b :: ps).reverse.map f).take ps.length = ps.reverse.map f := by
  have h : (a :: b :: ps).reverse.map f = ps.reverse.map f ++ [f b, f a] := by simp
  rw [h, List.take_left' (by simp)]
theorem rC_cut (a b : List ByteArray) (ps : List (List ByteArray)) : (rC (a :: b :: ps)).take ps.length = rC ps := by
  rw [rC, sC, ← List.map_take, cut_push]; rfl
theorem mC_cut (a b : List ByteArray) (ps : List (List ByteArray)) : (mC (a :: b :: ps)).take ps.length = mC ps := by
  rw [mC, nC, ← List.map_take, cut_push]; rfl
theorem Top.up1 {ps : List (List ByteArray)} (h : Top ps) (hl : ps.length ≤ 1) : Up ps := by
  match ps, h with
  | [a], h => exact h
  | a :: b :: ps, _ => simp at hl
/-- what holds between two entries -/
def RootI (w : World) (l : List ByteArray) (st : List (List ByteArray)) (k : Nat) (v3 v4 : Value) (W : World) : Prop :=
  st.reverse.flatten = l.take k ∧ Own w.heap.size 1 v3 st.length (rC st) W ∧ Own w.heap.size 1 v4 st.length (mC st) W ∧ Dis v3 v4 W ∧ Gr w W

theorem RootI.gr {w W X : World} {l : List ByteArray} {st : List (List ByteArray)} {k : Nat} {v3 v4 : Value} (h : RootI w l st k v3 v4 W) (hg : Gr W X) : RootI w l st k v3 v4 X :=
  ⟨h.1, h.2.1.gr hg, h.2.2.1.gr hg, ⟨fun g hv => Nat.lt_of_lt_of_le (h.2.2.2.1.1 g hv) hg.size, fun g hv => Nat.lt_of_lt_of_le (h.2.2.2.1.2.1 g hv) hg.size, h.2.2.2.1.2.2⟩, h.2.2.2.2.trans hg⟩

set_option maxRecDepth 100000 in
set_option maxHeartbeats 4000000 in
theorem root_any (v : Value) (l : List ByteArray) (w : World) (hv : StrsAt v l w) (hn : l.length ≤ 1099511627776) (hs : ∀ x ∈ l, x.size ≤ 140737488354000) (hT : Tab w) :
    Calls Tryz.prog 30 #[v] w fun e w' => e = .returned (.string (rootD l)) ∧ Gr w w' := by
  obtain ⟨i9, hi9, hz9, hsz9, hb9⟩ := info_parts info9
  obtain ⟨i3, hi3, hz3, hsz3, hb3⟩ := info_parts info3
  have HV := Lib.hid hv
  have HT := Lib.hid hT
  have HS := Lib.hid hs
  obtain ⟨p, cap, rfl⟩ := hv.shape
  clear hv hT hs
  refine (callsIn_wide (n := 6)).1 ?_
  refine callsIn_of_wp_marks Tryz.func30 rfl trivial ?_ rfl
  simp only [Tryz.ntmps30, List.size_toArray, List.length_cons, List.length_nil, Nat.reduceAdd, Nat.reduceSub, Array.replicate_succ, Array.replicate_zero, List.push_toArray, List.append_toArray, List.nil_append, List.cons_append]
  refine wpIn_wide.2 ?_
  go_upto_region 4 with fail
  go_loopw [3, 4, 13] (fun v3 v4 v13 W => ∃ (k : Nat) (st : List (List ByteArray)) (V3 V4 : Value), k ≤ l.length ∧ v13 = .int .i64 (k : Int) ∧ V3 = v3 ∧ V4 = v4 ∧ Hid (Up st) ∧ Hid (RootI w l st k V3 V4 W)) (fun _ _ i _ => l.length - (intOf i).toNat)
  case atStart =>
    refine ⟨0, [], _, _, Nat.zero_le _, rfl, rfl, rfl, Lib.hid trivial, Lib.hid ⟨rfl, ?_, ?_, Dis.nil _ _ rfl, ?_⟩⟩
    · exact Own.nil _ _ _
    · exact Own.nil _ _ _
    · simp
  case round =>
    obtain ⟨k, st, v3, v4, hk, rfl, rfl, rfl, HU, HI⟩ := hrel
    by_cases hlt : k < l.length
    · have HG : Hid (Gr w wr) := Lib.hid HI.out.2.2.2.2
      have ht : decide ((k : Int) < (l.length : Int)) = true := by simpa using hlt
      obtain ⟨x, hx⟩ : ∃ x, l[k]? = some x := ⟨_, List.getElem?_eq_getElem hlt⟩
      have hstr : StrsAt (.slice p l.length cap) l wr := HV.out.gr HG.out
      obtain ⟨g, off, cap', he, hc1, hc2, hc4⟩ : ∃ g off cap', Value.slice p l.length cap = .slice (some ⟨g, off, none⟩) l.length cap' ∧ l.length ≤ cap' ∧ cap' ≤ maxLen ∧ ∀ (j : Nat) x, l[j]? = some x → wr.cell? ⟨g, off + j, none⟩ = some (.string x) := by
        rcases hstr with ⟨_, rfl⟩ | h
        · simp at hlt
        · exact h
      injection he with he1 _ he2
      subst he1 he2
      have hcell := hc4 k x hx
      have HX : Hid (x.size ≤ 140737488354000) := Lib.hid (HS.out x (List.mem_of_getElem? hx))
      have HL := Lib.hid (leaf_any x wr HX.out (HT.out.gr HG.out))
      have HXk := Lib.hid hx
      have hstl : st.length ≤ l.length := by
        have h1 := count_le HU.out
        rw [HI.out.1, List.length_take] at h1
        omega
      clear hstr hc4 hx
      go_wp2_with (first | ((with_reducible show wpList _ _ _ (⟨some 21, _, _, _, _, _⟩ :: _) _ _); refine wpList_append_Own rfl (.tmp 17) (.tmp 20) 27 rfl 9 i9 (.string ⟨#[]⟩) 1 16 Tryz.underlying27 hi9 hz9 hsz9 hb9 rfl (by decide) rfl (HI.out.2.1.gr ?hgA) ⟨wl.heap.size, 0, none⟩ 1 1 [.string (leafD x)] rfl rfl ?hnewsA ?h1cA (by decide) ?b1A ?b2A ?hBA ?_) | (go_at_call 76; refine HL.out.mono ?_; rintro e wl ⟨rfl, hgl⟩))
      case hgA => exact hgl.trans (Gr.alloc _ _)
      case hnewsA => exact one_new' _ _ _ rfl
      case h1cA => intro u hu; simp at hu; subst hu; rfl
      case b1A => unfold maxLen; omega
      case b2A => omega
      case hBA => have := hgl.size; have := HG.out.size; simp; omega
      intro v3' w3 hown3 hchg3 hbl3
      have hgA : Gr wr (wl.alloc (.cells #[.string (leafD x)] 9)) := hgl.trans (Gr.alloc _ _)
      have hdis3 := HI.out.2.2.2.1.grown hgA hchg3 (by rw [World.size_alloc]; exact hbl3) hown3 (by omega)
      have hown4 := (HI.out.2.2.1.gr hgA).keep hchg3 HI.out.2.2.2.1.keep
      have hgr3 : Gr w w3 := gr_step HG.out hgA hchg3 (fun g hg => HI.out.2.1.ge hg)
      have HO3 := Lib.hid hown3
      have HO4 := Lib.hid hown4
      have HD3 := Lib.hid hdis3
      have HG3 := Lib.hid hgr3
      clear hown3 hown4 hdis3 hgr3 hchg3 hgA hgl hbl3 HL
      go_upto_region 6 with ((with_reducible show wpList _ _ _ (⟨some 24, _, _, _, _, _⟩ :: _) _ _); refine wpList_append_Own rfl (.tmp 22) (.tmp 23) 37 rfl 3 i3 (.int .i64 0) 1 8 Tryz.underlying37 hi3 hz3 hsz3 hb3 rfl (by decide) rfl (HO4.out.gr (Gr.alloc _ _)) ⟨w3.heap.size, 0, none⟩ 1 1 [.int .i64 1] rfl rfl ?hnewsB ?h1cB (by decide) ?b1B ?b2B ?hBB ?_)
      case hnewsB => exact one_new' _ _ _ rfl
      case h1cB => intro u hu; simp at hu; subst hu; rfl
      case b1B => unfold maxLen; omega
      case b2B => omega
      case hBB => have := HG3.out.size; simp; omega
      intro v4' w4 hown4 hchg4 hbl4
      have hdis4 := HD3.out.symm.grown (Gr.alloc w3 _) hchg4 (by rw [World.size_alloc]; exact hbl4) hown4 (by omega)
      have hown3 := (HO3.out.gr (Gr.alloc w3 (.cells #[.int .i64 1] 3))).keep hchg4 HD3.out.symm.keep
      have hgr4 : Gr w w4 := gr_step HG3.out (Gr.alloc w3 _) hchg4 (fun g hg => HO4.out.ge hg)
      have hfl : ([x] :: st).reverse.flatten = l.take (k + 1) := by
        rw [List.reverse_cons, List.flatten_append, HI.out.1, List.take_add_one, HXk.out]; simp
      have hr1 : Own w.heap.size 1 v3' (st.length + 1) (rC ([x] :: st)) w4 := by
        have := hown3; rw [← rootD_one, rC_push] at this; exact this
      have hr2 : Own w.heap.size 1 v4' (st.length + 1) (mC ([x] :: st)) w4 := by
        have := hown4; rw [show (1 : Int) = (([x] : List ByteArray).length : Int) from rfl, mC_push] at this; exact this
      have HI2 : Hid (RootI w l ([x] :: st) (k + 1) v3' v4' w4) := Lib.hid ⟨hfl, hr1, hr2, hdis4.symm, hgr4⟩
      have HTop : Hid (Top ([x] :: st)) := Lib.hid (HU.out.push x)
      obtain ⟨g4, o4, c4, rfl, _, _, _⟩ := hr2.shape (by omega)
      clear hfl hr1 hr2 hdis4 hown3 hown4 hgr4 hchg4 hbl4 HO3 HO4 HD3 HG3 HI HU
      go_upto_region 8 with fail
      clear hk hc1 hc2 hcell HX HXk hstl ht
      go_loopw [3, 4, 7] (fun v3 v4 v7 W => ∃ (m : Nat) (st : List (List ByteArray)) (V3 V4 : Value), v7 = .int .i64 (m : Int) ∧ V3 = v3 ∧ V4 = v4 ∧ Hid (st.length = m) ∧ Hid (Top st) ∧ Hid (RootI w l st (k + 1) V3 V4 W)) (fun _ _ i _ => (intOf i).toNat)
      case atStart => exact ⟨st.length + 1, [x] :: st, _, _, rfl, rfl, rfl, rfl, HTop, HI2⟩
      clear HTop HI2
      case round =>
        obtain ⟨m, sta, v3a, v4a, rfl, rfl, rfl, HM, HTop, HI⟩ := hrel
        have hml : m ≤ k + 1 := by
          have h1 := HTop.out
          rcases sta with _ | ⟨a, sta⟩
          · exact h1.elim
          · have h2 := top_count h1
            have h3 := HI.out.1
            rw [h3, List.length_take] at h2
            have := HM.out
            omega
        by_cases hm : 1 < m
        · have hd1 : decide ((1 : Int) < (m : Int)) = true := decide_eq_true (by omega)
          obtain ⟨a, b, ps, rfl⟩ : ∃ a b ps, sta = a :: b :: ps := by
            match sta, HM.out with
            | [], h => simp at h; omega
            | [_], h => simp at h; omega
            | a :: b :: ps, _ => exact ⟨a, b, ps, rfl⟩
          have HM2 : Hid (m = ps.length + 2) := Lib.hid (by rw [← HM.out]; simp)
          obtain ⟨g4a, o4a, c4a, rfl, _, hc4a, hc4b⟩ := HI.out.2.2.1.shape (by rw [HM.out]; omega)
          rw [HM.out] at HI hc4a ⊢
          have hl2 : wr.cell? ⟨g4a, o4a + (m - 2), none⟩ = some (.int .i64 (b.length : Int)) := by
            have := HI.out.2.2.1
            rw [HM.out] at this
            exact this.cell _ _ (by rw [HM2.out]; exact (mC_at a b ps).1)
          have hl1 : wr.cell? ⟨g4a, o4a + (m - 1), none⟩ = some (.int .i64 (a.length : Int)) := by
            have := HI.out.2.2.1
            rw [HM.out] at this
            exact this.cell _ _ (by rw [HM2.out]; exact (mC_at a b ps).2)
          have hw2 : IntKind.i64.wrap ((m : Int) - 2) = (m : Int) - 2 := IntWalk.i64_in _ (by omega)
          have hw1 : IntKind.i64.wrap ((m : Int) - 1) = (m : Int) - 1 := IntWalk.i64_in _ (by omega)
          have hb2 : (2 : Int) ≤ (m : Int) := by omega
          have hb1 : (1 : Int) ≤ (m : Int) := by omega
          have hc2 : (0 : Int) ≤ (m : Int) - 2 := by omega
          have hc1 : (0 : Int) ≤ (m : Int) - 1 := by omega
          have HTop2 := HTop
          clear HTop
          by_cases heq : a.length = b.length
          · have he : ((b.length : Int) == (a.length : Int)) = true := by rw [beq_iff_eq]; omega
            go_upto_region 8 with fail
            go_quiet (fail)
            rename_i nq
            have hg5 : Gr wr (wr.drewN nq) := ⟨rfl, rfl, rfl, Nat.le_refl _, fun _ _ => rfl⟩
            have HI5 := Lib.hid (HI.out.gr hg5)
            generalize wr.drewN nq = w5 at hg5 HI5 ⊢
            clear HI hl2 hl1 hg5 hd1
            obtain ⟨g3a, o3a, c3a, rfl, _, hc3a, hc3b⟩ := HI5.out.2.1.shape (by rw [HM.out]; omega)
            rw [HM.out] at HI5 hc3a ⊢
            have hown3 : Own w.heap.size 1 (.slice (some ⟨g3a, o3a, none⟩) m c3a) m (rC (a :: b :: ps)) w5 := by
              have := HI5.out.2.1
              rw [HM.out] at this; exact this
            have hk2 : w5.cell? ⟨g3a, o3a + (m - 2), none⟩ = some (.string (rootD b)) := hown3.cell _ _ (by rw [HM2.out]; exact (rC_at a b ps).1)
            have hk1 : w5.cell? ⟨g3a, o3a + (m - 1), none⟩ = some (.string (rootD a)) := hown3.cell _ _ (by rw [HM2.out]; exact (rC_at a b ps).2)
            have hS2 : ∀ n : GrS w5.drew, n.w.cell? ⟨g3a, o3a + (m - 2), none⟩ = some (.string (rootD b)) := fun n => n.h.cell (w := w5.drew) hk2
            have hS1 : ∀ n : GrS w5.drew, n.w.cell? ⟨g3a, o3a + (m - 1), none⟩ = some (.string (rootD a)) := fun n => n.h.cell (w := w5.drew) hk1
            have HN : Hid (∀ w1, Gr w5.drew w1 → Calls Tryz.prog 75 #[.string (rootD b), .string (rootD a)] w1 fun e w' => e = .returned (.string (nodeD (rootD b) (rootD a))) ∧ Gr w1 w') :=
              Lib.hid (fun w1 hg => node_any _ _ w1 (by rw [rootD_size, rootD_size]; omega) (HT.out.gr (HI5.out.2.2.2.2.trans (Gr.trans (Gr.drew w5) hg))))
            have HO3 := Lib.hid hown3
            clear hk1 hk2 hown3
            go_upto_region 10 with fail
            refine region_grow 16 96 (by kernel_rfl) rfl (by kernel_rfl) rfl rfl ?_
            simp only [List.take_succ_cons, List.take_zero, List.drop_succ_cons, List.drop_zero]
            refine seg 14 rfl rfl rfl rfl ?_
            simp only [List.take_succ_cons, List.take_zero, List.drop_succ_cons, List.drop_zero]
            repeat (go_big_quiet_step (fail))
            refine wpQuiet_nil ?_
            intro _
            refine grow_det (v := .string (nodeD (rootD b) (rootD a))) rfl rfl rfl rfl rfl ?_ ?_
            · intro w1 hG
              go_simp
              refine (HN.out w1 hG).mono ?_
              rintro e w' ⟨rfl, hb⟩
              exact ⟨rfl, hb⟩
            simp only [Act.put, List.setIfInBounds_toArray, List.set_cons_zero, List.set_cons_succ]
            refine grow_open (NewRow [.string (nodeD (rootD b) (rootD a))] 9) rfl rfl rfl rfl (stb_row _ _) (fun w1 hG => ?_) ?_
            · go_simp
              exact newRow_alloc _ _ _ rfl
            refine grow_end1 rfl rfl (by decide) ?_
            rintro w6 u hG6 ⟨b1, rfl, hb1⟩
            simp only [Act.put, List.setIfInBounds_toArray, List.set_cons_zero, List.set_cons_succ]
            go_wp2_with ((with_reducible show wpList _ _ _ (⟨some 60, _, _, _, _, _⟩ :: _) _ _); refine wpList_append_Own rfl (.tmp 47) (.tmp 59) 27 rfl 9 i9 (.string ⟨#[]⟩) 1 16 Tryz.underlying27 hi9 hz9 hsz9 hb9 rfl (by decide) rfl ((HO3.out.take (m - 2) (by omega)).gr ?hgC) ⟨b1, 0, none⟩ 1 1 [.string (nodeD (rootD b) (rootD a))] rfl rfl ?hnewsC ?h1cC (by decide) ?b1C ?b2C ?hBC ?_)
            case hnewsC => exact fun j u hj => match j, hj with
              | 0, hj => one_row hb1 0 u hj
            case h1cC => rfl
            case b1C => unfold maxLen; omega
            case b2C => omega
            case hgC => exact Gr.trans (Gr.drew w5) hG6
            case hBC => have := HI5.out.2.2.2.2.size; have := (Gr.trans (Gr.drew w5) hG6).size; omega
            intro v3b w7 hown7 hchg7 hbl7
            have hg56 : Gr w5 w6 := Gr.trans (Gr.drew w5) hG6
            have hdis7 := HI5.out.2.2.2.1.grown hg56 hchg7 hbl7 hown7 (by omega)
            have hown4 := (HI5.out.2.2.1.gr hg56).keep hchg7 HI5.out.2.2.2.1.keep
            have hgr7 : Gr w w7 := gr_step HI5.out.2.2.2.2 hg56 hchg7 (fun g hg => HI5.out.2.1.ge hg)
            have hro : Own w.heap.size 1 v3b ((b ++ a) :: ps).length (rC ((b ++ a) :: ps)) w7 := by
              have h := hown7
              rw [show m - 2 = ps.length by have := HM2.out; omega, ← HTop2.out.root heq, rC_cut, rC_push] at h
              exact h
            have hfl := HI5.out.1
            clear HI5 HO3 HN hown7 hbl7 hchg7 hS1 hS2 hG6 hg56 hb1
            have hk1 : w7.cell? ⟨g4a, o4a + (m - 1), none⟩ = some (.int .i64 (a.length : Int)) := by
              have := hown4
              rw [HM.out] at this
              exact this.cell _ _ (by rw [HM2.out]; exact (mC_at a b ps).2)
            have hS1 : ∀ n : GrS w7.drew, n.w.cell? ⟨g4a, o4a + (m - 1), none⟩ = some (.int .i64 (a.length : Int)) := fun n => n.h.cell (w := w7.drew) hk1
            have hal : a.length ≤ l.length := by
              have h1 := part_le (a := a) (ps := a :: b :: ps) (by simp)
              rw [hfl, List.length_take] at h1; omega
            have hwd : IntKind.i64.wrap (2 * (a.length : Int)) = 2 * (a.length : Int) := IntWalk.i64_in _ (by omega)
            have hwdb : IntKind.i64.wrap (2 * (b.length : Int)) = 2 * (b.length : Int) := by rw [← heq]; exact hwd
            go_upto_region 11 with fail
            refine region_grow 11 96 (by kernel_rfl) rfl (by kernel_rfl) rfl rfl ?_
            simp only [List.take_succ_cons, List.take_zero, List.drop_succ_cons, List.drop_zero]
            refine seg 10 rfl rfl rfl rfl ?_
            simp only [List.take_succ_cons, List.take_zero, List.drop_succ_cons, List.drop_zero]
            repeat (go_big_quiet_step (fail))
            refine wpQuiet_nil ?_
            intro _
            refine grow_open (NewRow [.int .i64 (2 * (b.length : Int))] 3) rfl rfl rfl rfl (stb_row _ _) (fun w1 hG => ?_) ?_
            · go_simp
              exact newRow_alloc _ _ _ rfl
            refine grow_end1 rfl rfl (by decide) ?_
            rintro w8 u hG8 ⟨b2, rfl, hb2⟩
            simp only [Act.put, List.setIfInBounds_toArray, List.set_cons_zero, List.set_cons_succ]
            have hg78 : Gr w7 w8 := Gr.trans (Gr.drew w7) hG8
            rw [HM.out] at hown4
            go_wp2_with ((with_reducible show wpList _ _ _ (⟨some 72, _, _, _, _, _⟩ :: _) _ _); refine wpList_append_Own rfl (.tmp 64) (.tmp 71) 37 rfl 3 i3 (.int .i64 0) 1 8 Tryz.underlying37 hi3 hz3 hsz3 hb3 rfl (by decide) rfl ((hown4.take (m - 2) (by omega)).gr hg78) ⟨b2, 0, none⟩ 1 1 [.int .i64 (2 * (b.length : Int))] rfl rfl ?hnewsD ?h1cD (by decide) ?b1D ?b2D ?hBD ?_)
            case hnewsD => exact fun j u hj => match j, hj with
              | 0, hj => one_row hb2 0 u hj
            case h1cD => rfl
            case b1D => unfold maxLen; omega
            case b2D => omega
            case hBD => have := hgr7.size; have := hg78.size; omega
            intro v4b w9 hown9 hchg9 hbl9
            have hdis9 := hdis7.symm.grown hg78 hchg9 hbl9 hown9 (by omega)
            have hown3 := (hro.gr hg78).keep hchg9 hdis7.symm.keep
            have hgr9 : Gr w w9 := gr_step hgr7 hg78 hchg9 (fun g hg => hown4.ge hg)
            have hso : Own w.heap.size 1 v4b ((b ++ a) :: ps).length (mC ((b ++ a) :: ps)) w9 := by
              have h := hown9
              rw [show m - 2 = ps.length by have := HM2.out; omega, mC_cut, show (2 : Int) * (b.length : Int) = ((b ++ a).length : Int) by rw [List.length_append]; omega, mC_push] at h
              exact h
            have HI9 : Hid (RootI w l ((b ++ a) :: ps) (k + 1) v3b v4b w9) := Lib.hid ⟨by rw [← hfl]; simp, hown3, hso, hdis9.symm, hgr9⟩
            have HT9 := Lib.hid (HTop2.out.join heq)
            have hpm : (m : Int) - 1 = ((ps.length + 1 : Nat) : Int) := by have := HM2.out; omega
            clear hdis9 hown3 hgr9 hso hown9 hchg9 hbl9 hdis7 hown4 hgr7 hro hfl hk1 hS1 hG8 hg78 hb2
            go_wp2_with fail
            exact ⟨⟨ps.length + 1, (b ++ a) :: ps, _, _, by simp, rfl, rfl, Lib.hid (by simp), HT9, HI9⟩, by have := HM2.out; simp [intOf]; omega⟩
          · have he : ((b.length : Int) == (a.length : Int)) = false := by rw [beq_eq_false_iff_ne]; omega
            go_upto_region 8 with fail
            go_quiet (fail)
            rename_i nq
            have hg5 : Gr wr (wr.drewN nq) := ⟨rfl, rfl, rfl, Nat.le_refl _, fun _ _ => rfl⟩
            have HI5 := Lib.hid (HI.out.gr hg5)
            generalize wr.drewN nq = w5 at hg5 HI5 ⊢
            clear HI hl2 hl1
            go_wp2_with fail
            exact ⟨⟨k + 1, a :: b :: ps, v3a, _, by omega, by simp, rfl, rfl, Lib.hid (HTop2.out.up heq), HI5⟩, by simp [intOf]; omega⟩
        · have hd1 : decide ((1 : Int) < (m : Int)) = false := by simp; omega
          have HG : Hid (Gr w wr) := Lib.hid HI.out.2.2.2.2
          have hsh : ∃ p4 c4, v4a = .slice p4 m c4 := by
            have h := HI.out.2.2.1.2
            rcases h with ⟨h, h0⟩ | ⟨g, off, cap, h, _⟩
            · exact ⟨none, 0, by rw [h, ← HM.out, h0]⟩
            · exact ⟨_, _, by rw [h, HM.out]⟩
          go_upto_region 8 with fail
          go_quiet (fail)
          rename_i nq
          have hg5 : Gr wr (wr.drewN nq) := ⟨rfl, rfl, rfl, Nat.le_refl _, fun _ _ => rfl⟩
          generalize wr.drewN nq = w5 at hg5 ⊢
          have HI5 := Lib.hid (HI.out.gr hg5)
          clear HI
          go_wp2_with fail
          exact ⟨⟨k + 1, sta, v3a, v4a, by omega, by simp, rfl, rfl, Lib.hid (HTop.out.up1 (by have := HM.out; omega)), HI5⟩, by simp [intOf]; omega⟩
    · have hkl : k = l.length := by omega
      have ht : decide ((k : Int) < (l.length : Int)) = false := by simpa using hlt
      rcases st with _ | ⟨a, ps⟩
      · obtain ⟨p3, c3, rfl⟩ := HI.out.2.1.slice
        have hl0 : l = [] := by
          have h := HI.out.1
          rw [hkl, List.take_length] at h
          exact h.symm
        have HE : Hid (rootD l = emptyD) := Lib.hid (by rw [hl0]; rfl)
        have HG : Hid (Gr w wr) := Lib.hid HI.out.2.2.2.2
        have HSum := Lib.hid (sum_any ⟨#[]⟩ wr (by decide) (HT.out.gr HG.out))
        clear HI HU hl0
        go_wp2_with (go_at_call 26; refine HSum.out.mono ?_; rintro e wl ⟨rfl, hgl⟩)
        exact ⟨_, results_tmp rfl _ _ _, by rw [HE.out]; rfl, HG.out.trans hgl⟩
      · obtain ⟨g3, o3, c3, rfl, _, hc3a, hc3b⟩ := HI.out.2.1.shape (by simp)
        have HM : Hid ((a :: ps).length = ps.length + 1) := Lib.hid rfl
        have hroot : rootD l = ps.foldl (fun out r => nodeD (rootD r) out) (rootD a) := by
          rw [HU.out.root, HI.out.1, hkl, List.take_length]
        have HR := Lib.hid hroot
        have HG : Hid (Gr w wr) := Lib.hid HI.out.2.2.2.2
        have hcell : wr.cell? ⟨g3, o3 + ps.length, none⟩ = some (.string (rootD a)) := HI.out.2.1.cell _ _ (by simp [rC, sC])
        have hpl : ps.length + 1 ≤ l.length := by
          have h1 := count_le HU.out
          rw [HI.out.1, List.length_take] at h1
          simp at h1; omega
        have HA : Hid (StrsAt (.slice (some ⟨g3, o3, none⟩) ps.length c3) (ps.reverse.map rootD) wr) := Lib.hid (.inr ⟨g3, o3, c3, by simp, by simp at hc3a ⊢; omega, hc3b, fun j x hj => by
          refine HI.out.2.1.cell _ _ ?_
          have hjl := (List.getElem?_eq_some_iff.1 hj).1
          rw [rC, sC, List.reverse_cons, List.map_append, List.getElem?_map, List.getElem?_append_left (by simpa using hjl), hj]; rfl⟩)
        obtain ⟨p4, c4, rfl⟩ := HI.out.2.2.1.slice
        rw [HM.out] at hc3a ⊢
        have HQ : Hid ((ps.reverse.map rootD).length = ps.length) := Lib.hid (by simp)
        have HF : Hid (∀ b, (ps.reverse.map rootD).reverse.foldl (fun out r => nodeD r out) b = ps.foldl (fun out r => nodeD (rootD r) out) b) := Lib.hid (fun b => by
          rw [← List.map_reverse, List.reverse_reverse, List.foldl_map])
        have HS32 : Hid (∀ x ∈ ps.reverse.map rootD, x.size = 32) := Lib.hid (fun x hx => by
          obtain ⟨y, _, rfl⟩ := List.mem_map.1 hx; exact rootD_size _)
        have Hra : Hid ((rootD a).size = 32) := Lib.hid (rootD_size _)
        clear HI HU hroot hkl hk HS HV
        rw [← HF.out] at HR
        clear HF
        generalize ps.reverse.map rootD = RL at *
        generalize rootD a = ra at *
        generalize ps.length = q at *
        have hq0 : ((q : Int) + 1 == 0) = false := by rw [beq_eq_false_iff_ne]; omega
        go_wp2_with fail
        refine (backS_any _ _ _ _).mono ?_
        rintro e w' ⟨rfl, rfl⟩
        go_wp2_with fail
        refine wp_gen (F := fun x => Gr wr x ∧ Boxed x wr.heap.size 9 (.string ra) ∧ x.heap[wr.heap.size + 1]? = some (.cells #[.slice (some ⟨g3, o3, none⟩) q c3] 27 (0, 0)) ∧ wr.heap.size + 1 < x.heap.size) ⟨(Gr.alloc _ _).trans (Gr.alloc _ _), ?_, ?_, ?_⟩ ?_
        · exact (Boxed.new _ _ _).alloc _
        · have := heap_alloc_new (wr.alloc (.cells #[.string ra] 9)) (.cells #[.slice (some ⟨g3, o3, none⟩) q c3] 27)
          rw [World.size_alloc] at this; exact this
        · simp
        rintro x ⟨hGx, hx1, hx2, hxs⟩
        have hwx : w.heap.size ≤ wr.heap.size := HG.out.size
        have htab : 0 < w.heap.size := HT.out.lt
        obtain ⟨F, hF⟩ : ∃ F : _root_.Fin q → ByteArray, ∀ k, F k = RL.reverse.getD k.1 ⟨#[]⟩ := ⟨_, fun _ => rfl⟩
        have HFs : Hid (∀ k, (F k).size = 32) := Lib.hid (fun k => by
          have hk := k.2
          have h2 := HQ.out
          rw [hF, List.getD_eq_getElem?_getD, List.getElem?_eq_getElem (by rw [List.length_reverse]; omega)]
          exact HS32.out _ (List.mem_reverse.1 (List.getElem_mem _)))
        have HFl : Hid (rootD l = foldN F ra (List.finRange q)) := Lib.hid (by
          rw [HR.out, foldN, show (List.finRange q).map F = RL.reverse from by
            rw [show F = fun k => RL.reverse.getD k.1 ⟨#[]⟩ from funext hF]; exact fin_getD _ _ (by rw [List.length_reverse]; exact HQ.out)])
        have hI0 : BoxI w x.heap.size wr.heap.size 9 (fun pre : List (_root_.Fin q) => .string (foldN F ra pre)) [] x :=
          ⟨hx1, HT.out.gr (HG.out.trans hGx), HG.out.trans hGx, Nat.le_refl _⟩
        have HF0 := Lib.hid hF
        clear hF
        have hkb : ∀ k, blk q (.slice (some ⟨g3, o3, none⟩) q c3) = some k → k < wr.heap.size := HA.out.blk_lt HQ.out
        refine (wpIn_wide (n := 6)).1 ?_
        refine wpIn_rangeFunc_ownG rfl (by decide) (gf := 146) (lb := #[.pointer (some ⟨wr.heap.size + 1, 0, none⟩)]) rfl trivial (enters_of Tryz.func146 (by kernel_rfl) rfl)
          (backS_stops 5 (by decide) RL (wr.heap.size + 1) q c3 (some ⟨g3, o3, none⟩) HQ.out (by omega) F HF0.out x (HA.out.gr hGx) hx2)
          KpB.t (KpB.put hxs (fun k e => Nat.lt_of_lt_of_le (hkb k e) hGx.size)) (Below.refl _ _) (fun _ => rfl)
          (BoxI w x.heap.size wr.heap.size 9 (fun pre : List (_root_.Fin q) => .string (foldN F ra pre))) (fun _ _ _ => False)
          (boxI_own w x _ _ _ (by omega) (by omega) (by omega)) (fun _ _ _ _ _ h _ _ => h) hI0 ?a1 ?assign ?body ?done ?stop
        case assign =>
          intro l k W K hK
          gi_wp2
          exact hK
        case stop => intro D c pre W _ _ h _; exact h.elim
        case body =>
          rintro l' pre k W HI hpl2
          have hc : W.cell? ⟨wr.heap.size, 0, none⟩ = some (.string (foldN F ra pre)) := HI.1.cell
          have hfz := HI.1.frozen
          have hltW : wr.heap.size < W.heap.size := World.block_lt_of_cell? _ _ hc
          have hacc := foldN_size F ra Hra.out pre
          have HP := Lib.hid (foldN_push F ra pre k)
          have hel := HFs.out k
          have HN := Lib.hid (node_any (F k) (foldN F ra pre) W (by omega) HI.2.1)
          have HJ := Lib.hid HI
          have HKB := Lib.hid hkb
          clear hI0 hx1 hx2 HR HFl hkb HI
          gi_wp2_with (refine ⟨trivial, ?_⟩; gi_at_call 75; refine (CallsIn.inRound l' (callsIn_wide.2 HN.out)).mono ?_; rintro e W' ⟨rfl, hg⟩; have hc' := hg.cell hc; have hfz' := (hg.frozen (a := ⟨wr.heap.size, 0, none⟩) hltW).trans hfz)
          have hJ := HJ.out
          have hxW := hJ.2.2.2
          have hsz := hg.size
          have hch : Chg (some wr.heap.size) W (W'.setCell ⟨wr.heap.size, 0, none⟩ (.string (nodeD (F k) (foldN F ra pre)))) := (Chg.of_gr hg).trans (setCells_chg wr.heap.size [_] 0 W')
          refine ⟨⟨hch.size, fun j o hj hjo _ => hch.block hjo (by simp; omega)⟩, KpB.chg hch (by omega) (by simp) (fun k e => by have := HKB.out k e; exact ⟨by omega, by simp; omega⟩), ?_⟩
          have := boxI_set (pre' := pre ++ [k]) hJ hg hwx (by omega)
          rw [HP.out] at this
          exact this
        case done =>
          rintro D xs W hD rfl HI hK
          have hc : W.cell? ⟨wr.heap.size, 0, none⟩ = some (.string (foldN F ra (List.finRange q))) := HI.1.cell
          have HJ := Lib.hid HI
          have HK := Lib.hid hK
          clear hI0 hx1 hx2 HR hkb HI hK
          go_wp2_with fail
          refine ⟨by simp, .inl ⟨_, _, rfl, run_takeDeferred HK.out, ?_⟩⟩
          refine ⟨_, results_tmp rfl _ _ _, ?_, ?_⟩
          · rw [HFl.out]; rfl
          · have h1 := HJ.out.2.2.1
            exact (show Below w.heap.size w W from h1).trans ((Chg.of_grownBy (grownBy_putObj' W D _)).below (fun j hj => by simp at hj; omega) h1.size)
end Go.Proofs.YtaoggehdkddgeaaGreatDoor
