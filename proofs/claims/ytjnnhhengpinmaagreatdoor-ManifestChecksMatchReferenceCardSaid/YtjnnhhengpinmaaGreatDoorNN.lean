/- An append of one list of strings to another that the call owns, at the operation. -/
import Derived.Test.YtjnnhhengpinmaaGreatDoorMS
import Derived.BigQuiet
namespace Go.Proofs.YtjnnhhengpinmaaGreatDoor
section
open Go Go.RowKit Go.Shelf

theorem append_strs {w : World} {ops : Array Oper} {rest : List Oper} {o : Oper} {a : Act} {Q : Exit → Act → World → Prop}
    (hg : o.guard = none) (s x : Operand) (hop : o.op = Op.call { callee := Callee.builtin Builtin.append, args := #[s, x], argTypes := #[25, 25] })
    {B : Nat} {v u : Value} {L M : List ByteArray} (hs : a.eval s = v) (hown : OwnL B L v w) (hx : a.eval x = u) (hM : StrsAt u M w) (b1 : L.length + M.length ≤ 1000000) (hB : B ≤ w.heap.size)
    (h : ∀ v' w', OwnL B (L ++ M) v' w' → Chg v.ownBlock w w' → wpList Tryz.prog ops Q rest (a.put o.dst v') w') : wpList Tryz.prog ops Q (o :: rest) a w := by
  obtain ⟨iS, hi, hz0, hz1, hz2⟩ := info_parts infoStr
  by_cases h0 : M.length = 0
  · obtain rfl := List.eq_nil_of_length_eq_zero h0
    obtain ⟨pu, cu, rfl⟩ := hM.shape
    obtain ⟨pv, cv, hv, hle⟩ : ∃ p c, v = .slice p L.length c ∧ L.length ≤ c := by
      rcases hown.2 with ⟨hv, h1⟩ | ⟨g, off, cap, hv, _, h2, _⟩
      · exact ⟨none, 0, by rw [hv, h1], by omega⟩
      · exact ⟨_, cap, hv, h2⟩
    subst hv
    refine wpList_append_zero w hg s x _ hop iS Tryz.underlying25 hi hle hs hx ?_
    exact h _ _ (by rw [List.append_nil]; exact hown) (Chg.of_gr (Gr.refl _))
  · rcases hM with ⟨hu, rfl⟩ | ⟨g, off, cap, hu, h1, h2, hc⟩
    · exact absurd rfl h0
    · refine wpList_append_Own hg s x _ hop 9 iS (.string ⟨#[]⟩) 1 16 Tryz.underlying25 hi hz0 hz1 hz2 rfl (by decide) hs hown ⟨g, off, none⟩ M.length cap (sC M) (by rw [hx, hu]) (by simp [sC]) (fun j z hz => ?_) (sC_one M) (by omega) (by unfold maxLen; omega) (by omega) hB ?_
      · rw [sC, List.getElem?_map, Option.map_eq_some_iff] at hz
        obtain ⟨y, hy, rfl⟩ := hz
        rw [Addr.add_mid]; exact hc j y hy
      · intro v' w' ho hch _
        refine h v' w' ?_ hch
        exact OwnL.join ho rfl
end
section
open Go Go.RowKit Go.Shelf
attribute [local go_sem] gAt gUpon
attribute [local simp] Gr.refl Gr.alloc

theorem take_cons {α : Type} {l : List α} {k : Nat} {x : α} (h : l[k]? = some x) : l.take (k + 1) = l.take k ++ [x] := by rw [List.take_add_one, h]; rfl
set_option maxRecDepth 100000 in
theorem sameS_any (v u : Value) (a b : List ByteArray) (w : World) (hv : StrsAt v a w) (hu : StrsAt u b w) (ha : a.length ≤ 1000000) :
    Calls Tryz.prog 29 #[v, u] w fun e w' => e = .returned (.bool (decide (a = b))) ∧ Gr w w' := by
  obtain ⟨p, c, rfl⟩ := hv.shape
  obtain ⟨q, d, rfl⟩ := hu.shape
  have HV := Lib.hid hv
  have HU := Lib.hid hu
  obtain ⟨B, hB⟩ : ∃ B, decide (a = b) = B := ⟨_, rfl⟩
  rw [hB]
  have HB := Lib.hid hB
  clear hv hu hB
  by_cases hl : a.length = b.length
  · have t1 : ((a.length : Int) != (b.length : Int)) = false := by rw [hl]; simp
    have Hl := Lib.hid hl
    clear hl
    go_enter Tryz.func29, Tryz.ntmps29
    go_wp2_with fail
    go_loopw [5] (fun v5 W => ∃ k : Nat, k ≤ a.length ∧ v5 = .int .i64 (k : Int) ∧ Hid (Gr w W) ∧ Hid (a.take k = b.take k)) (fun v5 _ => a.length - (intOf v5).toNat)
    case atStart => exact ⟨0, Nat.zero_le _, rfl, Lib.hid (Gr.refl _), Lib.hid rfl⟩
    case round =>
      obtain ⟨k, hk, rfl, HG, HE⟩ := hrel
      by_cases hlt : k < a.length
      · have ht : decide (k < a.length) = true := decide_eq_true hlt
        have ht' : decide ((k : Int) < (a.length : Int)) = true := decide_eq_true (by omega)
        obtain ⟨x, hx⟩ : ∃ x, a[k]? = some x := ⟨_, List.getElem?_eq_getElem hlt⟩
        obtain ⟨y, hy⟩ : ∃ x, b[k]? = some x := ⟨_, List.getElem?_eq_getElem (by have := Hl.out; omega)⟩
        obtain ⟨gp, op, rfl, hcp⟩ : ∃ g off, p = some ⟨g, off, none⟩ ∧ wr.cell? ⟨g, off + k, none⟩ = some (.string x) := by
          rcases HV.out.gr HG.out with ⟨he, h0⟩ | ⟨g, off, cap, he, _, _, hc⟩
          · rw [h0] at hx; exact absurd hx (by simp)
          · injection he with e1 e2 e3
            exact ⟨g, off, e1, hc k x hx⟩
        obtain ⟨gq, oq, rfl, hcq⟩ : ∃ g off, q = some ⟨g, off, none⟩ ∧ wr.cell? ⟨g, off + k, none⟩ = some (.string y) := by
          rcases HU.out.gr HG.out with ⟨he, h0⟩ | ⟨g, off, cap, he, _, _, hc⟩
          · rw [h0] at hy; exact absurd hy (by simp)
          · injection he with e1 e2 e3
            exact ⟨g, off, e1, hc k y hy⟩
        have i0 : (0 : Int) ≤ (k : Int) := by omega
        have i1 : (k : Int) < (a.length : Int) := by omega
        have i2 : (k : Int) < (b.length : Int) := by have := Hl.out; omega
        obtain ⟨C, hC⟩ : ∃ C, decide (x = y) = C := ⟨_, rfl⟩
        have t2 : (x.toList == y.toList) = C := by rw [beq_str, hC]
        have HY : Hid (C = true → a.take (k + 1) = b.take (k + 1)) := Lib.hid (fun h => by
          rw [take_cons hx, take_cons hy, HE.out, of_decide_eq_true (hC.trans h)])
        have HN : Hid (C = false → B = false) := Lib.hid (fun h => by
          rw [← HB.out]; refine decide_eq_false (fun e => ?_)
          subst e
          rw [hx] at hy; injection hy with hy
          exact of_decide_eq_false (hC.trans h) hy)
        have S1 : ∀ q : GrS wr.drew, q.w.cell? ⟨gp, op + k, none⟩ = some (.string x) := fun q => q.h.cell (w := wr.drew) hcp
        have S2 : ∀ q : GrS wr.drew, q.w.cell? ⟨gq, oq + k, none⟩ = some (.string y) := fun q => q.h.cell (w := wr.drew) hcq
        clear hx hy hC hcp hcq HE
        go_upto_region 6 with fail
        refine region_grow 9 26 (by kernel_rfl) rfl (by kernel_rfl) rfl rfl ?_
        simp only [List.take_succ_cons, List.take_zero, List.drop_succ_cons, List.drop_zero]
        refine seg 8 rfl rfl rfl rfl ?_
        simp only [List.take_succ_cons, List.take_zero, List.drop_succ_cons, List.drop_zero]
        repeat (go_big_quiet_step (fail))
        refine wpQuiet_nil ?_
        intro _
        refine grow_det (v := .bool (!C)) rfl rfl rfl rfl rfl ?_ ?_
        · intro w1 hG
          go_simp
        simp only [Act.put, List.setIfInBounds_toArray, List.set_cons_zero, List.set_cons_succ]
        refine grow_end0 rfl rfl ?_
        intro w3 hG
        have HG3 : Hid (Gr w w3) := Lib.hid (HG.out.trans ((Gr.drew wr).trans hG))
        clear hG S1 S2 t2
        cases C with
        | true =>
          have HE3 := Lib.hid (HY.out rfl)
          clear HY HN
          go_wp2_with fail
          go_roundw
          case rel => exact ⟨k + 1, by omega, by go_num, HG3, HE3⟩
          case measure => simp [intOf]; omega
        | false =>
          obtain rfl : B = false := HN.out rfl
          go_wp2_with fail
          go_ret
          exact ⟨rfl, HG3.out⟩
      · have ht : decide (k < a.length) = false := decide_eq_false hlt
        have ht' : decide ((k : Int) < (a.length : Int)) = false := decide_eq_false (by omega)
        obtain rfl : B = true := by
          rw [← HB.out]; refine decide_eq_true ?_
          have h := HE.out
          rw [List.take_of_length_le (by omega), List.take_of_length_le (by have := Hl.out; omega)] at h; exact h
        go_wp2_with fail
        go_ret
        exact ⟨rfl, HG.out⟩
  · have t1 : ((a.length : Int) != (b.length : Int)) = true := by rw [bne_iff_ne]; omega
    obtain rfl : B = false := by
      rw [← HB.out]; exact decide_eq_false (fun e => hl (by rw [e]))
    go_enter Tryz.func29, Tryz.ntmps29
    go_wp2_with fail
    go_ret
    exact ⟨rfl, Gr.refl _⟩
end
end Go.Proofs.YtjnnhhengpinmaaGreatDoor
