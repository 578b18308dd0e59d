/- The contracts of all, take and join of package digest. -/
import Derived.Test.YtaoggehdkddgeaaGreatDoorRoot
namespace Go.Proofs.YtaoggehdkddgeaaGreatDoor
section
open Go.RowKit Go.Shelf
attribute [local go_sem] gAt gUpon
attribute [local simp] Gr.refl Gr.alloc

/-- all strings have 32 bytes -/
def allD (l : List ByteArray) : Bool := l.all fun x => x.size == 32
theorem allD_iff {l : List ByteArray} : allD l = true ↔ ∀ x ∈ l, x.size = 32 := by simp [allD]
theorem allD_false {l : List ByteArray} {k : Nat} {x : ByteArray} (h : l[k]? = some x) (hx : x.size ≠ 32) : allD l = false := by
  cases he : allD l with
  | false => rfl
  | true => exact absurd (allD_iff.1 he x (List.mem_of_getElem? h)) hx
theorem allD_take {l : List ByteArray} {k : Nat} {x : ByteArray} (h : l[k]? = some x) (hx : x.size = 32) (ht : allD (l.take k) = true) : allD (l.take (k + 1)) = true := by
  rw [List.take_add_one, h]
  simp [allD] at ht ⊢
  exact ⟨ht, hx⟩

theorem idx_any (v : Value) (l : List ByteArray) (w : World) (hv : StrsAt v l w) (hn : l.length ≤ 9223372036854775807) :
    Calls Tryz.prog 194 #[v, .func (.func 152) #[] #[]] w fun e w' => (∃ i : Int, e = .returned (.int .i64 i) ∧ decide (0 ≤ i) = !allD l) ∧ w = w' := by
  obtain ⟨p, cap, rfl⟩ := hv.shape
  have HV := Lib.hid hv
  clear hv
  go_enter Tryz.func194, Tryz.ntmps194
  go_wp2
  go_loop [8] (fun t => ∃ k : Nat, k ≤ l.length ∧ t = .int .i64 (k : Int) ∧ Hid (allD (l.take k) = true)) (fun t => l.length - (intOf t).toNat)
  case atStart => exact ⟨0, Nat.zero_le _, rfl, Lib.hid rfl⟩
  case round =>
    obtain ⟨k, hk, rfl, HA⟩ := hrel
    by_cases hlt : k < l.length
    · obtain ⟨x, hx⟩ : ∃ x, l[k]? = some x := ⟨_, List.getElem?_eq_getElem hlt⟩
      obtain ⟨g, off, cap', he, hc4⟩ : ∃ g off cap', Value.slice p l.length cap = .slice (some ⟨g, off, none⟩) l.length cap' ∧ ∀ (j : Nat) x, l[j]? = some x → w.cell? ⟨g, off + j, none⟩ = some (.string x) := by
        rcases HV.out with ⟨_, rfl⟩ | ⟨g, off, cap', h1, _, _, h2⟩
        · simp at hlt
        · exact ⟨g, off, cap', h1, h2⟩
      injection he with he1 _ he2
      subst he1 he2
      have hcell := hc4 k x hx
      have HX := Lib.hid hx
      clear hc4 hx HV
      by_cases h32 : x.size = 32
      · have ht : ((x.size : Int) == 32) = true := by rw [beq_iff_eq]; omega
        have HA2 : Hid (allD (l.take (k + 1)) = true) := Lib.hid (allD_take HX.out h32 HA.out)
        go_wp2
        go_round
        case rel => exact ⟨k + 1, by omega, by go_num, HA2⟩
        case measure => simp [intOf]; omega
      · have ht : ((x.size : Int) == 32) = false := by rw [beq_eq_false_iff_ne]; omega
        have HA2 : Hid (allD l = false) := Lib.hid (allD_false HX.out h32)
        go_wp2
        go_ret
        exact ⟨⟨_, rfl, by rw [HA2.out]; simp⟩, rfl⟩
    · have HA2 : Hid (allD l = true) := Lib.hid (by
        have h := HA.out
        rw [List.take_of_length_le (by omega)] at h; exact h)
      go_wp2
      go_ret
      exact ⟨⟨_, rfl, by rw [HA2.out]; simp⟩, rfl⟩
theorem cont_any (v : Value) (l : List ByteArray) (w : World) (hv : StrsAt v l w) (hn : l.length ≤ 9223372036854775807) :
    Calls Tryz.prog 154 #[v, .func (.func 152) #[] #[]] w fun e w' => e = .returned (.bool (!allD l)) ∧ w = w' := by
  have HI := Lib.hid (idx_any v l w hv hn)
  clear hv
  go_enter Tryz.func154, Tryz.ntmps154
  go_wp2_with fail
  refine HI.out.mono ?_
  rintro e w' ⟨⟨i, rfl, hi⟩, rfl⟩
  have H2 := Lib.hid hi
  clear hi HI
  go_wp2_with fail
  go_ret
  exact ⟨by rw [← H2.out]; rfl, rfl⟩
theorem all_any (v : Value) (l : List ByteArray) (w : World) (hv : StrsAt v l w) (hn : l.length ≤ 9223372036854775807) :
    Calls Tryz.prog 94 #[v] w fun e w' => e = .returned (.bool (allD l)) ∧ w = w' := by
  have HI := Lib.hid (cont_any v l w hv hn)
  clear hv
  go_enter Tryz.func94, Tryz.ntmps94
  go_wp2_with fail
  refine HI.out.mono ?_
  rintro e w' ⟨rfl, rfl⟩
  clear HI
  go_wp2_with fail
  go_ret
  exact ⟨by simp [go_sem], rfl⟩

theorem take0_any (p : Option Addr) (cap : Nat) (w : World) :
    Calls Tryz.prog 95 #[.slice p 0 cap] w fun e w' => e = .returned (.tuple #[.string ⟨#[]⟩, .slice none 0 0, .bool false]) ∧ w = w' := by
  go_enter Tryz.func95, Tryz.ntmps95
  go_wp2
  go_ret3
  exact ⟨rfl, rfl⟩
theorem take_any (g off n cap : Nat) (x : ByteArray) (w : World) (hn : n + 1 ≤ 9223372036854775807) (hcap : n + 1 ≤ cap) (hc : w.cell? ⟨g, off + n, none⟩ = some (.string x)) :
    Calls Tryz.prog 95 #[.slice (some ⟨g, off, none⟩) (n + 1) cap] w fun e w' => e = .returned (.tuple #[.string x, .slice (some ⟨g, off, none⟩) n cap, .bool true]) ∧ Gr w w' := by
  have ht : ((n : Int) + 1 == 0) = false := by rw [beq_eq_false_iff_ne]; omega
  go_enter Tryz.func95, Tryz.ntmps95
  go_upto_region 4 with fail
  go_quiet (fail)
  rename_i nq
  have hg : Gr w (w.drewN nq) := ⟨rfl, rfl, rfl, Nat.le_refl _, fun _ _ => rfl⟩
  generalize w.drewN nq = w5 at hg ⊢
  clear hc ht
  go_wp2_with fail
  go_ret3
  exact ⟨rfl, hg⟩

/-- the whole of a part and of a step -/
def joinD (x : ByteArray × Bool) (part : ByteArray) : ByteArray := if x.2 then nodeD x.1 part else nodeD part x.1
theorem joinD_size (x : ByteArray × Bool) (part : ByteArray) : (joinD x part).size = 32 := by
  unfold joinD; split <;> exact nodeD_size _ _
theorem sidej_any (x : ByteArray × Bool) (part : ByteArray) (w : World) (hs : x.1.size + part.size ≤ 140737488354000) (hT : Tab w) :
    Calls Tryz.prog 97 #[sideV x, .string part] w fun e w' => e = .returned (.string (joinD x part)) ∧ Gr w w' := by
  obtain ⟨r, f⟩ := x
  unfold sideV
  dsimp only at hs ⊢
  cases f with
  | true =>
    have HN := Lib.hid (node_any r part (w.alloc (.cells #[.string r, .bool true] 194)) (by omega) (hT.gr (Gr.alloc _ _)))
    clear hT
    go_enter Tryz.func97, Tryz.ntmps97
    go_wp2_with fail
    refine HN.out.mono ?_
    rintro e w' ⟨rfl, hg⟩
    clear HN
    go_wp2_with fail
    go_ret
    exact ⟨rfl, (Gr.alloc _ _).trans hg⟩
  | false =>
    have HN := Lib.hid (node_any part r (w.alloc (.cells #[.string r, .bool false] 194)) (by omega) (hT.gr (Gr.alloc _ _)))
    clear hT
    go_enter Tryz.func97, Tryz.ntmps97
    go_wp2_with fail
    refine HN.out.mono ?_
    rintro e w' ⟨rfl, hg⟩
    clear HN
    go_wp2_with fail
    go_ret
    exact ⟨rfl, (Gr.alloc _ _).trans hg⟩
end
section
open Go.RowKit Go.Shelf
attribute [local go_sem] gAt gUpon Oper.semAt_some
attribute [local simp] Gr.refl Gr.alloc

/-- what Verify answers -/
def verD (root : ByteArray) (n i : Int) (s : ByteArray) (l : List ByteArray) : Bool :=
  decide (0 ≤ i) && decide (i < n) && allD l && decide (valR s l.reverse n.toNat i.toNat = some root)
/-- the value of a part, joined by steps, the last one first -/
def foldJ {α : Type} (F : α → ByteArray × Bool) (ra : ByteArray) (pre : List α) : ByteArray := (pre.map F).foldl (fun out x => joinD x out) ra
theorem foldJ_push {α : Type} (F : α → ByteArray × Bool) (ra : ByteArray) (pre : List α) (k : α) : foldJ F ra (pre ++ [k]) = joinD (F k) (foldJ F ra pre) := by
  unfold foldJ; rw [List.map_append, List.foldl_append]; rfl
theorem snoc_cases {α : Type} (l : List α) : l = [] ∨ ∃ q x, l = q ++ [x] := by
  rcases List.eq_nil_or_concat l with h | ⟨q, x, h⟩
  · exact .inl h
  · exact .inr ⟨q, x, by rw [h, List.concat_eq_append]⟩
theorem foldJ_size {α : Type} (F : α → ByteArray × Bool) (ra : ByteArray) (h : ra.size = 32) : ∀ pre : List α, (foldJ F ra pre).size = 32 := by
  intro pre
  rcases snoc_cases pre with rfl | ⟨q, k, rfl⟩
  · exact h
  · rw [foldJ_push]; exact joinD_size _ _
theorem foldJ_rev {m : Nat} (L : List (ByteArray × Bool)) (hm : L.length = m) (F : _root_.Fin m → ByteArray × Bool) (hF : ∀ k, F k = L.reverse.getD k.1 (⟨#[]⟩, false)) (ra : ByteArray) : foldJ F ra (List.finRange m) = L.foldr joinD ra := by
  unfold foldJ
  rw [show F = fun k => L.reverse.getD k.1 (⟨#[]⟩, false) from funext hF, fin_getD _ _ (by rw [List.length_reverse]; exact hm), List.foldl_reverse]

theorem SidesAt.gr {v : Value} {L : List (ByteArray × Bool)} {w x : World} (h : SidesAt v L w) (hg : Gr w x) : SidesAt v L x := by
  rcases h with h | ⟨g, off, cap, rfl, h1, h2, h4⟩
  · exact .inl h
  · exact .inr ⟨g, off, cap, rfl, h1, h2, fun j x hj => ⟨hg.cell (h4 j x hj).1, hg.cell (h4 j x hj).2⟩⟩
theorem beq_string (a b : ByteArray) : (a.toList == b.toList) = decide (a = b) := by
  by_cases h : a = b
  · subst h; simp
  · rw [decide_eq_false h, beq_eq_false_iff_ne]
    intro e
    apply h
    rw [Lib.toList_data, Lib.toList_data] at e
    exact ByteArray.ext (Array.toList_inj.1 e)
theorem StrsAt.shape_snoc {v : Value} {Q : List ByteArray} {x : ByteArray} {w : World} (h : StrsAt v (Q ++ [x]) w) :
    ∃ g off cap, v = .slice (some ⟨g, off, none⟩) (Q.length + 1) cap ∧ Q.length + 1 ≤ cap ∧ cap ≤ maxLen ∧ ∀ (j : Nat) y, (Q ++ [x])[j]? = some y → w.cell? ⟨g, off + j, none⟩ = some (.string y) := by
  rcases h with ⟨_, h⟩ | ⟨g, off, cap, h, h1, h2, h3⟩
  · simp at h
  · rw [List.length_append, List.length_singleton] at h h1
    exact ⟨g, off, cap, h, h1, h2, h3⟩
theorem val_step (s : ByteArray) (Q : List ByteArray) (x : ByteArray) {N I : Nat} (h1 : 1 < N) :
    valR s (Q ++ [x]).reverse N I = (valR s Q.reverse (if decide (lp N ≤ I) then N - lp N else lp N) (if decide (lp N ≤ I) then I - lp N else I)).map (joinD (x, decide (lp N ≤ I))) := by
  rw [List.reverse_append, List.reverse_singleton, List.singleton_append, valR, if_neg (by omega)]
  by_cases h : lp N ≤ I
  · rw [if_neg (by omega), decide_eq_true h]; rfl
  · rw [if_pos (by omega), decide_eq_false h]; rfl
theorem row_new (w : World) (vs : List Value) (t : TypeId) {n : Nat} (hn : n = w.heap.size) : ∀ (j : Nat) (u : Value), vs[j]? = some u → ((w.alloc (.cells vs.toArray t)).cell? ((⟨n, 0, none⟩ : Addr).add j)) = some u := by
  intro j u hj
  subst hn
  rw [Addr.add_mid, Nat.zero_add]
  exact cell_new_at w vs.toArray t w.heap.size j u rfl (by simpa using hj)

set_option maxRecDepth 100000 in
theorem verify_neg (root s : ByteArray) (n i : Int) (v : Value) (l : List ByteArray) (w : World) (hi : i < 0) :
    Calls Tryz.prog 45 #[.string root, .int .i64 n, .int .i64 i, .string s, v] w fun e w' => e = .returned (.bool (verD root n i s l)) ∧ Gr w w' := by
  have hd : verD root n i s l = false := by unfold verD; rw [decide_eq_false (show ¬ 0 ≤ i by omega)]; rfl
  rw [hd]
  clear hd
  have ht : decide (i < 0) = true := decide_eq_true hi
  refine (callsIn_wide (n := 6)).1 ?_
  refine callsIn_of_wp_marks Tryz.func45 rfl trivial ?_ rfl
  simp only [Tryz.ntmps45, List.size_toArray, List.length_cons, List.length_nil, Nat.reduceAdd, Nat.reduceSub, Array.replicate_succ, Array.replicate_zero, List.push_toArray, List.append_toArray, List.nil_append, List.cons_append]
  refine wpIn_wide.2 ?_
  go_wp2_with fail
  exact ⟨_, results_tmp rfl _ _ _, rfl, Gr.refl _⟩
set_option maxRecDepth 100000 in
theorem verify_out (root s : ByteArray) (n i : Int) (v : Value) (l : List ByteArray) (w : World) (hi : 0 ≤ i) (hin : n ≤ i) :
    Calls Tryz.prog 45 #[.string root, .int .i64 n, .int .i64 i, .string s, v] w fun e w' => e = .returned (.bool (verD root n i s l)) ∧ Gr w w' := by
  have hd : verD root n i s l = false := by unfold verD; rw [decide_eq_false (show ¬ i < n by omega), Bool.and_false]; rfl
  rw [hd]
  clear hd
  have ht : decide (i < 0) = false := decide_eq_false (by omega)
  have ht2 : decide (n ≤ i) = true := decide_eq_true hin
  refine (callsIn_wide (n := 6)).1 ?_
  refine callsIn_of_wp_marks Tryz.func45 rfl trivial ?_ rfl
  simp only [Tryz.ntmps45, List.size_toArray, List.length_cons, List.length_nil, Nat.reduceAdd, Nat.reduceSub, Array.replicate_succ, Array.replicate_zero, List.push_toArray, List.append_toArray, List.nil_append, List.cons_append]
  refine wpIn_wide.2 ?_
  go_wp2_with fail
  exact ⟨_, results_tmp rfl _ _ _, rfl, Gr.refl _⟩
set_option maxRecDepth 100000 in
theorem verify_odd (root s : ByteArray) (n i : Int) (v : Value) (l : List ByteArray) (w : World) (hv : StrsAt v l w) (hl : l.length ≤ 1099511627776) (hi : 0 ≤ i) (hin : i < n) (ha : allD l = false) :
    Calls Tryz.prog 45 #[.string root, .int .i64 n, .int .i64 i, .string s, v] w fun e w' => e = .returned (.bool (verD root n i s l)) ∧ Gr w w' := by
  have hd : verD root n i s l = false := by unfold verD; rw [ha, Bool.and_false]; rfl
  rw [hd]
  clear hd
  have ht : decide (i < 0) = false := decide_eq_false (by omega)
  have ht2 : decide (n ≤ i) = false := decide_eq_false (by omega)
  have HA := Lib.hid (all_any v l w hv (by omega))
  rw [ha] at HA
  clear ha hv
  refine (callsIn_wide (n := 6)).1 ?_
  refine callsIn_of_wp_marks Tryz.func45 rfl trivial ?_ rfl
  simp only [Tryz.ntmps45, List.size_toArray, List.length_cons, List.length_nil, Nat.reduceAdd, Nat.reduceSub, Array.replicate_succ, Array.replicate_zero, List.push_toArray, List.append_toArray, List.nil_append, List.cons_append]
  refine wpIn_wide.2 ?_
  go_wp2_with fail
  refine HA.out.mono ?_
  rintro e w' ⟨rfl, rfl⟩
  clear HA
  go_wp2_with fail
  exact ⟨_, results_tmp rfl _ _ _, rfl, Gr.refl _⟩

theorem info57 : (Tryz.prog.info? 194).map (fun i => (i.zero, i.size, i.bytes)) = some (some (.agg #[.string ⟨#[]⟩, .bool false]), 2, 24) := by kernel_rfl

set_option maxRecDepth 100000 in
set_option maxHeartbeats 4000000 in
theorem verify_in (root s : ByteArray) (n i : Nat) (v : Value) (l : List ByteArray) (w : World) (hv : StrsAt v l w) (hl : l.length ≤ 1099511627776) (hn : n ≤ 9223372036854775807) (hin : i < n) (ha : allD l = true) (hs : s.size ≤ 140737488354000) (hT : Tab w) :
    Calls Tryz.prog 45 #[.string root, .int .i64 n, .int .i64 i, .string s, v] w fun e w' => e = .returned (.bool (decide (valR s l.reverse n i = some root))) ∧ Gr w w' := by
  obtain ⟨i57, hi57, hz57, hsz57, hb57⟩ := info_parts info57
  have ht2 : decide (n ≤ i) = false := decide_eq_false (by omega)
  have HA := Lib.hid (all_any v l w hv (by omega))
  rw [ha] at HA
  have HV := Lib.hid hv
  have HT := Lib.hid hT
  have HD := Lib.hid (allD_iff.1 ha)
  obtain ⟨p, cap, rfl⟩ := hv.shape
  clear ha hv hT
  refine (callsIn_wide (n := 6)).1 ?_
  refine callsIn_of_wp_marks Tryz.func45 rfl trivial ?_ rfl
  simp only [Tryz.ntmps45, List.size_toArray, List.length_cons, List.length_nil, Nat.reduceAdd, Nat.reduceSub, Array.replicate_succ, Array.replicate_zero, List.push_toArray, List.append_toArray, List.nil_append, List.cons_append]
  refine wpIn_wide.2 ?_
  go_wp2_with fail
  refine HA.out.mono ?_
  rintro e w' ⟨rfl, rfl⟩
  clear HA
  go_wp2_with fail
  clear ht2
  go_loopw [1, 2, 4, 11] (fun v1 v2 v4 v11 W => ∃ (N I : Nat) (P : List ByteArray) (L : List (ByteArray × Bool)) (V4 V11 : Value), I < N ∧ N ≤ 9223372036854775807 ∧ v1 = .int .i64 (N : Int) ∧ v2 = .int .i64 (I : Int) ∧ V4 = v4 ∧ V11 = v11 ∧ P.length + L.length = l.length ∧
      Hid (StrsAt V4 P w) ∧ Hid (Own w.heap.size 2 V11 L.length (wC L) W) ∧ Hid (Gr w W) ∧ Hid (∀ x ∈ P, x.size = 32) ∧ Hid (∀ x ∈ L, x.1.size = 32) ∧ Hid (valR s l.reverse n i = (valR s P.reverse N I).map (fun v => L.foldr joinD v))) (fun v1 _ _ _ _ => (intOf v1).toNat)
  case atStart =>
    exact ⟨n, i, l, [], _, _, hin, hn, rfl, rfl, rfl, rfl, by simp, HV, Lib.hid (Own.nil _ _ _), Lib.hid (Gr.refl _), HD, Lib.hid (by simp), Lib.hid (by simp)⟩
  clear HV HD hin hn
  case round =>
    obtain ⟨N, I, P, L, v4, v11, hIN, hN, rfl, rfl, rfl, rfl, hPL, HP, HO, HG, HPs, HLs, HVal⟩ := hrel
    by_cases h1 : 1 < N
    · have ht1 : decide ((1 : Int) < (N : Int)) = true := decide_eq_true (by omega)
      rcases snoc_cases P with rfl | ⟨Q, x, rfl⟩
      · obtain ⟨p4, c4, rfl⟩ := HP.out.shape
        have HR : Hid (decide (valR s l.reverse n i = some root) = false) := Lib.hid (by
          rw [HVal.out, List.reverse_nil, valR, if_neg (by omega)]; rfl)
        clear HP HO HVal
        go_wp2_with (go_at_call 95; refine (take0_any _ _ _).mono ?_; rintro e w' ⟨rfl, rfl⟩)
        exact ⟨_, results_tmp rfl _ _ _, by rw [HR.out]; rfl, HG.out⟩
      · obtain ⟨g, off, c4, rfl, hcap, hcm, hc⟩ := HP.out.shape_snoc
        have hcx : wr.cell? ⟨g, off + Q.length, none⟩ = some (.string x) := HG.out.cell (hc _ _ (by simp))
        rw [List.length_append, List.length_singleton] at hPL
        have HTk := Lib.hid (take_any g off Q.length c4 x wr (by omega) hcap hcx)
        have HLf0 := fun w => left_any N (by omega) hN w
        have hK1 := (lp_spec N (by omega)).1
        have hK0 := lp_pos N
        have HStep := Lib.hid (val_step s Q x h1 (I := I))
        generalize lp N = K at HLf0 hK1 hK0 HStep
        have HLf := Lib.hid HLf0
        clear HLf0
        have HX : Hid (x.size = 32) := Lib.hid (HPs.out x (by simp))
        have HPQ : Hid (∀ y ∈ Q, y.size = 32) := Lib.hid (fun y hy => HPs.out y (by simp [hy]))
        have HSQ : Hid (StrsAt (.slice (some ⟨g, off, none⟩) Q.length c4) Q w) := Lib.hid (.inr ⟨g, off, c4, rfl, by omega, hcm, fun j y hj => hc j y (by rw [List.getElem?_append_left (List.getElem?_eq_some_iff.1 hj).1]; exact hj)⟩)
        clear hc HP HPs hcx
        go_upto_region 11 with (first | (go_at_call 95; refine HTk.out.mono ?_; rintro e wt ⟨rfl, hgt⟩) | (go_at_call 79; refine (HLf.out _).mono ?_; rintro e wl ⟨rfl, rfl⟩) | ((with_reducible show wpList _ _ _ (⟨some 51, _, _, _, _, _⟩ :: _) _ _); refine wpList_append_Own rfl (.tmp 44) (.tmp 50) 190 rfl 194 i57 (.agg #[.string ⟨#[]⟩, .bool false]) 2 24 Tryz.underlying190 hi57 hz57 hsz57 hb57 rfl (by decide) rfl (HO.out.gr ?hgA) ⟨wt.heap.size, 0, none⟩ 1 1 [.string x, .bool (decide (K ≤ I))] rfl rfl ?hnewsA ?h1cA (by decide) ?b1A ?b2A ?hBA ?_))
        case hgA => exact hgt.trans (Gr.alloc _ _)
        case hnewsA => exact row_new _ _ _ rfl
        case h1cA => intro u hu; simp at hu; rcases hu with rfl | rfl <;> rfl
        case b1A => unfold maxLen; omega
        case b2A => omega
        case hBA => have := hgt.size; have := HG.out.size; simp; omega
        intro v3 w3 hown hchg _
        have hgA : Gr wr (wt.alloc (.cells #[.string x, .bool (decide (K ≤ I))] 194)) := hgt.trans (Gr.alloc _ _)
        have HG3 : Hid (Gr w w3) := Lib.hid (gr_step HG.out hgA hchg (fun g hg => HO.out.ge hg))
        have HO3 : Hid (Own w.heap.size 2 v3 (L ++ [(x, decide (K ≤ I))]).length (wC (L ++ [(x, decide (K ≤ I))])) w3) := Lib.hid (by
          rw [← wC_push, List.length_append, List.length_singleton]; exact hown)
        clear hown hchg hgA HO HTk HLf
        have HL3 : Hid (∀ y ∈ L ++ [(x, decide (K ≤ I))], y.1.size = 32) := Lib.hid (fun y hy => by
          rcases List.mem_append.1 hy with hy | hy
          · exact HLs.out y hy
          · simp at hy; subst hy; exact HX.out)
        by_cases hKI : K ≤ I
        · have ht3 : decide (K ≤ I) = true := decide_eq_true hKI
          rw [ht3] at HO3 HL3 HStep
          have HV3 : Hid (valR s l.reverse n i = (valR s Q.reverse (N - K) (I - K)).map (fun v => (L ++ [(x, true)]).foldr joinD v)) := Lib.hid (by
            rw [HVal.out, HStep.out, Option.map_map]
            simp only [if_true]
            congr 1
            funext v
            simp)
          clear HStep HVal HLs
          go_wp2_with fail
          go_roundw
          case rel => exact ⟨N - K, I - K, Q, L ++ [(x, true)], _, _, by omega, by omega, by go_num, by go_num, rfl, rfl, by rw [List.length_append, List.length_singleton]; omega, HSQ, HO3, HG3, HPQ, HL3, HV3⟩
          case measure => simp [intOf]; omega
        · have ht3 : decide (K ≤ I) = false := decide_eq_false hKI
          rw [ht3] at HO3 HL3 HStep
          have HV3 : Hid (valR s l.reverse n i = (valR s Q.reverse K I).map (fun v => (L ++ [(x, false)]).foldr joinD v)) := Lib.hid (by
            rw [HVal.out, HStep.out, Option.map_map]
            simp only [if_false, Bool.false_eq_true]
            congr 1
            funext v
            simp)
          clear HStep HVal HLs
          go_wp2_with fail
          go_roundw
          case rel => exact ⟨K, I, Q, L ++ [(x, false)], _, _, by omega, by omega, rfl, rfl, rfl, rfl, by rw [List.length_append, List.length_singleton]; omega, HSQ, HO3, HG3, HPQ, HL3, HV3⟩
          case measure => simp [intOf]; omega
    · have hN1 : N = 1 := by omega
      have hI0 : I = 0 := by omega
      subst hN1 hI0
      obtain ⟨p4, c4, rfl⟩ := HP.out.shape
      obtain ⟨hLl, hsd⟩ := HO.out.sides
      obtain ⟨p11, c11, rfl⟩ := HO.out.slice
      have HS := Lib.hid hsd
      have HLeaf := Lib.hid (leaf_any s wr hs (HT.out.gr HG.out))
      have HVal2 : Hid (decide (valR s l.reverse n i = some root) = (decide (P.length = 0) && decide (L.foldr joinD (leafD s) = root))) := Lib.hid (by
        rw [HVal.out]
        cases P with
        | nil => simp [valR]
        | cons y P =>
          have : valR s (y :: P).reverse 1 0 = none := by
            cases hr : (y :: P).reverse with
            | nil => simp at hr
            | cons z r => simp [valR]
          rw [this]; simp)
      have hbk : ∀ k, blk L.length (.slice p11 L.length c11) = some k → k < wr.heap.size := HS.out.blk_lt rfl
      have HB := Lib.hid hbk
      clear HO HVal hsd HP HPs hbk hLl
      have HLr : Hid ((leafD s).size = 32) := Lib.hid (leafD_size s)
      have hmL : L.length ≤ 1099511627776 := by omega
      obtain ⟨m, hm⟩ : ∃ m, L.length = m := ⟨_, rfl⟩
      have Hm := Lib.hid hm
      rw [hm] at HS HB hPL hmL ⊢
      clear hm
      obtain ⟨F, hF⟩ : ∃ F : _root_.Fin m → ByteArray × Bool, ∀ k, F k = L.reverse.getD k.1 (⟨#[]⟩, false) := ⟨_, fun _ => rfl⟩
      have HF0 := Lib.hid hF
      have HFs : Hid (∀ k, (F k).1.size = 32) := Lib.hid (fun k => by
        have hk := k.2
        have h2 := Hm.out
        rw [hF, List.getD_eq_getElem?_getD, List.getElem?_eq_getElem (by rw [List.length_reverse]; omega)]
        exact HLs.out _ (List.mem_reverse.1 (List.getElem_mem _)))
      have HFl : Hid (foldJ F (leafD s) (List.finRange m) = L.foldr joinD (leafD s)) := Lib.hid (foldJ_rev L Hm.out F hF _)
      clear hF HLs
      generalize leafD s = ra at *
      go_wp2_with (go_at_call 76; refine HLeaf.out.mono ?_; rintro e wl ⟨rfl, hgl⟩)
      refine (backW_any _ _ _ _).mono ?_
      rintro e w' ⟨rfl, rfl⟩
      go_wp2_with fail
      refine wp_gen (F := fun x => Gr wr x ∧ Boxed x wl.heap.size 9 (.string ra) ∧ x.heap[wl.heap.size + 1]? = some (.cells #[.slice p11 m c11] 190 (0, 0)) ∧ wl.heap.size + 1 < x.heap.size) ⟨hgl.trans ((Gr.alloc _ _).trans (Gr.alloc _ _)), ?_, ?_, ?_⟩ ?_
      · exact (Boxed.new _ _ _).alloc _
      · have := heap_alloc_new (wl.alloc (.cells #[.string ra] 9)) (.cells #[.slice p11 m c11] 190)
        rw [World.size_alloc] at this; exact this
      · simp
      rintro x ⟨hGx, hx1, hx2, hxs⟩
      have hwr : wr.heap.size ≤ wl.heap.size := hgl.size
      have hwx : w.heap.size ≤ wr.heap.size := HG.out.size
      have htab : 0 < w.heap.size := HT.out.lt
      have hI0 : BoxI w x.heap.size wl.heap.size 9 (fun pre : List (_root_.Fin m) => .string (foldJ F ra pre)) [] x :=
        ⟨hx1, HT.out.gr (HG.out.trans hGx), HG.out.trans hGx, Nat.le_refl _⟩
      clear HLeaf
      refine (wpIn_wide (n := 6)).1 ?_
      refine wpIn_rangeFunc_box 18 (fun k => #[.string (F k).1, .bool (F k).2]) 194 rfl (by decide) (gf := 155) (lb := #[.pointer (some ⟨wl.heap.size + 1, 0, none⟩)]) rfl trivial (enters_of Tryz.func155 (by kernel_rfl) rfl)
        (backW_stops 5 (by decide) L (wl.heap.size + 1) m c11 p11 Hm.out (by omega) F HF0.out x (HS.out.gr hGx) hx2)
        KpB.t (KpB.put hxs (fun k e => Nat.lt_of_lt_of_le (HB.out k e) hGx.size)) (Below.refl _ _) (fun _ => rfl)
        (BoxI w x.heap.size wl.heap.size 9 (fun pre : List (_root_.Fin m) => .string (foldJ F ra pre))) (fun _ _ _ => False)
        (boxI_own w x _ _ _ (by omega) (by omega) (by omega)) (fun _ _ _ _ _ h _ _ => h) hI0
        (fun pre W h => h.2.2.2) (fun pre W o h => h.gr (Gr.alloc W o)) (fun pre W o h => KpB.chg (Chg.of_gr (g := none) (Gr.alloc W o)) (by have := h.2.2.2; omega) (by simp) (fun k e => by have := h.2.2.2; have := HB.out k e; exact ⟨by omega, by simp⟩))
        ?assign ?body ?done ?stop
      case stop => intro D c pre W _ _ h _; exact h.elim
      case assign =>
        intro l' k W K hK
        simp [boxAct] at hK
        gi_wp2
        exact hK
      case body =>
        intro l' pre k Bx W hBx HI hX hpl2
        unfold boxAct
        have hc : W.cell? ⟨wl.heap.size, 0, none⟩ = some (.string (foldJ F ra pre)) := HI.1.cell
        have hfz := HI.1.frozen
        have hcx0 : W.cell? ⟨Bx, 0, none⟩ = some (.string (F k).1) := cell_of_row _ _ _ _ _ _ hX
        have hcx1 : W.cell? ⟨Bx, 1, none⟩ = some (.bool (F k).2) := cell_of_row _ _ _ _ _ _ hX
        have hltW : wl.heap.size < W.heap.size := World.block_lt_of_cell? _ _ hc
        have hacc := foldJ_size F ra HLr.out pre
        have HP := Lib.hid (foldJ_push F ra pre k)
        have hel := HFs.out k
        have hN : Calls Tryz.prog 97 #[.agg #[.string (F k).1, .bool (F k).2], .string (foldJ F ra pre)] W fun e w' => e = .returned (.string (joinD (F k) (foldJ F ra pre))) ∧ Gr W w' := sidej_any (F k) (foldJ F ra pre) W (by omega) HI.2.1
        have HN := Lib.hid hN
        have HJ := Lib.hid HI
        clear hI0 hx1 hx2 hX hN HI
        gi_wp2_with (refine ⟨trivial, ?_⟩; gi_at_call 97; refine (CallsIn.inRound l' (callsIn_wide.2 HN.out)).mono ?_; rintro e W' ⟨rfl, hg⟩; have hc' := hg.cell hc; have hfz' := (hg.frozen (a := ⟨wl.heap.size, 0, none⟩) hltW).trans hfz)
        have hJ := HJ.out
        have hxW := hJ.2.2.2
        have hsz := hg.size
        have hch : Chg (some wl.heap.size) W (W'.setCell ⟨wl.heap.size, 0, none⟩ (.string (joinD (F k) (foldJ F ra pre)))) := (Chg.of_gr hg).trans (setCells_chg wl.heap.size [_] 0 W')
        refine ⟨keepsFrom_chg hch (fun j e => by cases e; omega), KpB.chg hch (by omega) (by simp) (fun k e => by have := HB.out k e; exact ⟨by omega, by simp; omega⟩), ?_⟩
        have := boxI_set (pre' := pre ++ [k]) hJ hg (by omega) (by omega)
        rw [HP.out] at this
        exact this
      case done =>
        rintro D xs W hD rfl HI hK
        have hc : W.cell? ⟨wl.heap.size, 0, none⟩ = some (.string (foldJ F ra (List.finRange m))) := HI.1.cell
        have HJ := Lib.hid HI
        have HK := Lib.hid hK
        clear hI0 hx1 hx2 HI hK
        by_cases hP0 : P.length = 0
        · have ht : ((P.length : Int) == 0) = true := by rw [beq_iff_eq]; omega
          go_wp2_with fail
          refine ⟨by simp, .inl ⟨_, _, rfl, run_takeDeferred HK.out, ?_⟩⟩
          refine ⟨_, results_tmp rfl _ _ _, ?_, ?_⟩
          · rw [HVal2.out, decide_eq_true hP0, Bool.true_and, ← HFl.out, ← beq_string]; rfl
          · have h1 := HJ.out.2.2.1
            exact (show Below w.heap.size w W from h1).trans ((Chg.of_grownBy (grownBy_putObj' W D _)).below (fun j hj => by simp at hj; omega) h1.size)
        · have ht : ((P.length : Int) == 0) = false := by rw [beq_eq_false_iff_ne]; omega
          go_wp2_with fail
          refine ⟨by simp, .inl ⟨_, _, rfl, run_takeDeferred HK.out, ?_⟩⟩
          refine ⟨_, results_tmp rfl _ _ _, ?_, ?_⟩
          · rw [HVal2.out, decide_eq_false hP0]; rfl
          · have h1 := HJ.out.2.2.1
            exact (show Below w.heap.size w W from h1).trans ((Chg.of_grownBy (grownBy_putObj' W D _)).below (fun j hj => by simp at hj; omega) h1.size)
/-- Verify, for every number and every list -/
theorem verify_any (root s : ByteArray) (n i : Int) (v : Value) (l : List ByteArray) (w : World) (hv : StrsAt v l w) (hl : l.length ≤ 1099511627776) (hn : n ≤ 9223372036854775807) (hs : s.size ≤ 140737488354000) (hT : Tab w) :
    Calls Tryz.prog 45 #[.string root, .int .i64 n, .int .i64 i, .string s, v] w fun e w' => e = .returned (.bool (verD root n i s l)) ∧ Gr w w' := by
  by_cases hi : i < 0
  · exact verify_neg root s n i v l w hi
  by_cases hin : n ≤ i
  · exact verify_out root s n i v l w (by omega) hin
  cases ha : allD l with
  | false => exact verify_odd root s n i v l w hv hl (by omega) (by omega) ha
  | true =>
    obtain ⟨N, rfl⟩ : ∃ N : Nat, n = (N : Int) := ⟨n.toNat, by omega⟩
    obtain ⟨I, rfl⟩ : ∃ I : Nat, i = (I : Int) := ⟨i.toNat, by omega⟩
    have h := verify_in root s N I v l w hv hl (by omega) (by omega) ha hs hT
    have hd : verD root (N : Int) (I : Int) s l = decide (valR s l.reverse N I = some root) := by
      unfold verD
      rw [decide_eq_true (show (0 : Int) ≤ (I : Int) by omega), decide_eq_true (show (I : Int) < (N : Int) by omega), ha]
      simp
    rw [hd]; exact h
end
end Go.Proofs.YtaoggehdkddgeaaGreatDoor
