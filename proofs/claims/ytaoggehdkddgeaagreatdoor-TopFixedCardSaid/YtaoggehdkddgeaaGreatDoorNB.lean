/- The contracts of numbers and PutString, of both sides; of line and Line. -/
import Derived.Test.YtaoggehdkddgeaaGreatDoorNA
import Derived.Test.YtaoggehdkddgeaaGreatDoorGPiR
namespace Go.Proofs.YtaoggehdkddgeaaGreatDoor
section
open Go Go.RowKit Go.Shelf
attribute [local go_sem] gAt gUpon
attribute [local simp] Gr.refl Gr.alloc

def numsB (l : List Int) : ByteArray := l.foldl (fun a n => a ++ numB n.toNat) ⟨#[]⟩
theorem numsB_step {l : List Int} {k : Nat} {x : Int} (h : l[k]? = some x) : numsB (l.take k) ++ numB x.toNat = numsB (l.take (k + 1)) := by
  unfold numsB
  rw [List.take_add_one, h, Option.toList_some, List.foldl_append]; rfl
theorem numsB_len (l : List Int) : ∀ k, (numsB (l.take k)).size ≤ 10 * k := by
  intro k
  induction k with
  | zero => exact Nat.le_refl _
  | succ k ih =>
    rcases Nat.lt_or_ge k l.length with h | h
    · have hx : l[k]? = some l[k] := List.getElem?_eq_getElem h
      rw [← numsB_step hx, ByteArray.size_append]
      have := numB_size (l[k]).toNat
      omega
    · rw [List.take_of_length_le (by omega)]
      rw [List.take_of_length_le (by omega)] at ih
      omega
def NumOk (n : Int) : Prop := 0 ≤ n ∧ n ≤ 4611686018427387903
theorem putInt_at (n : Int) (h : NumOk n) (w : World) :
    Calls Tryz.prog 64 #[.int .i64 n] w fun e w' => e = .returned (.tuple #[.string (numB n.toNat), .int .i64 0]) ∧ Gr w w' := by
  obtain ⟨h1, h2⟩ := h
  obtain ⟨m, rfl⟩ := Int.eq_ofNat_of_zero_le h1
  exact putInt_any m (by omega) w
def putD (s : ByteArray) : ByteArray := numB s.size ++ s
set_option maxRecDepth 100000 in
theorem numbers_any (v : Value) (l : List Int) (w : World) (hv : Rws 1 inC v l w) (hl : l.length ≤ 1000) (hr : ∀ x ∈ l, NumOk x) :
    Calls Tryz.prog 77 #[v] w fun e w' => e = .returned (.string (numsB l)) ∧ Gr w w' := by
  obtain ⟨p, c, rfl⟩ := hv.shape
  have HV := Lib.hid hv
  have HR := Lib.hid hr
  have HE : Hid (∀ k, l.length ≤ k → numsB (l.take k) = numsB l) := Lib.hid (fun k h => by rw [List.take_of_length_le h])
  generalize numsB l = R at HE ⊢
  clear hv hr
  go_enter Tryz.func77, Tryz.ntmps77
  go_wp2_with fail
  go_loopw [3, 10] (fun vs vi W => ∃ (k : Nat) (S : ByteArray), k ≤ l.length ∧ vi = .int .i64 (k : Int) ∧ vs = .string S ∧ Hid (numsB (l.take k) = S) ∧ Hid (Gr w W)) (fun _ vi _ => l.length - (intOf vi).toNat)
  case atStart => exact ⟨0, ⟨#[]⟩, Nat.zero_le _, rfl, rfl, Lib.hid rfl, Lib.hid (Gr.refl _)⟩
  case round =>
    obtain ⟨k, S, hk, rfl, rfl, HS, HG⟩ := hrel
    by_cases hlt : k < l.length
    · have ht : decide (k < l.length) = true := decide_eq_true hlt
      have ht' : decide ((k : Int) < (l.length : Int)) = true := decide_eq_true (by omega)
      obtain ⟨x, hx⟩ : ∃ x, l[k]? = some x := ⟨_, List.getElem?_eq_getElem hlt⟩
      obtain ⟨g, off, rfl, hlc, hc⟩ := (HV.out.gr HG.out).at_ hx
      have hc0 := hc 0 _ rfl
      rw [Nat.mul_one, Nat.add_zero] at hc0
      have HP := Lib.hid (fun y => putInt_at x (HR.out x (List.mem_of_getElem? hx)) y)
      have hsz : S.size ≤ 10 * k := by rw [← HS.out]; exact numsB_len l k
      obtain ⟨N, hN⟩ : ∃ N, numB x.toNat = N := ⟨_, rfl⟩
      have hN1 : N.size ≤ 10 := by rw [← hN]; exact numB_size _
      have hst := numsB_step hx
      rw [hN, HS.out] at hst
      rw [hN] at HP
      have hadd := add_run S N _ hst (by omega)
      obtain ⟨S2, hS2⟩ : ∃ S2, numsB (l.take (k + 1)) = S2 := ⟨_, rfl⟩
      rw [hS2] at hadd
      have HS2 := Lib.hid hS2
      clear hc hx hN hst hS2
      go_wp2_with fail
      refine (HP.out _).mono ?_
      rintro e w1 ⟨rfl, hg⟩
      have HG1 := Lib.hid (HG.out.trans hg)
      clear hg hc0 HP
      go_wp2_with fail
      go_roundw
      case rel => exact ⟨k + 1, _, by omega, by go_num, rfl, HS2, HG1⟩
      case measure => simp [intOf]; omega
    · have ht : decide (k < l.length) = false := decide_eq_false hlt
      have ht' : decide ((k : Int) < (l.length : Int)) = false := decide_eq_false (by omega)
      obtain rfl : S = R := by rw [← HS.out, HE.out k (by omega)]
      clear HS HE
      go_wp2_with fail
      go_ret
      exact ⟨rfl, HG.out⟩
theorem putString_any (s : ByteArray) (hs : s.size ≤ 65536) (w : World) :
    Calls Tryz.prog 66 #[.string s] w fun e w' => e = .returned (.tuple #[.string (putD s), .int .i64 0]) ∧ Gr w w' := by
  have t1 : decide (65536 < (s.size : Int)) = false := decide_eq_false (by omega)
  have t1' : decide (65536 < s.size) = false := decide_eq_false (by omega)
  have HP := Lib.hid (fun y => putInt_at (s.size : Int) ⟨by omega, by omega⟩ y)
  rw [Int.toNat_natCast] at HP
  unfold putD
  obtain ⟨N, hN⟩ : ∃ N, numB s.size = N := ⟨_, rfl⟩
  have hN1 : N.size ≤ 10 := by rw [← hN]; exact numB_size _
  rw [hN] at HP ⊢
  have hadd := add_run N s _ rfl (by omega)
  generalize N ++ s = R at hadd ⊢
  clear hN
  go_enter Tryz.func66, Tryz.ntmps66
  go_wp2_with fail
  refine (HP.out _).mono ?_
  rintro e w1 ⟨rfl, hg⟩
  have HG1 := Lib.hid hg
  clear hg HP
  go_wp2_with fail
  go_ret2
  exact ⟨rfl, HG1.out⟩
structure LineOk (x : En) : Prop where
  path : x.path.size ≤ 65536
  fmt : NumOk x.fmt
  len : NumOk x.len
  dig : x.dig.size ≤ 65536
def lineD (x : En) : ByteArray := putD x.path ++ numsB [x.fmt, x.len] ++ putD x.dig
theorem ent_line {x : En} (h : entB x = true) : LineOk x := by
  unfold entB at h
  simp only [Bool.and_eq_true, withinB_iff, decide_eq_true_eq] at h
  obtain ⟨h1, h2, h3, h4⟩ := h
  unfold goodB at h1
  simp only [Bool.and_eq_true, decide_eq_true_eq] at h1
  exact ⟨by omega, ⟨by omega, by omega⟩, ⟨by omega, by omega⟩, by omega⟩
set_option maxRecDepth 100000 in
theorem line_any (x : En) (hx : LineOk x) (w : World) :
    Calls Tryz.prog 46 #[.agg #[.string x.path, .int .i64 x.fmt, .int .i64 x.len, .string x.dig]] w fun e w' => e = .returned (.string (lineD x)) ∧ Gr w w' := by
  obtain ⟨pa, f, n, d⟩ := x
  obtain ⟨h1, h2, h3, h4⟩ := hx
  simp only at h1 h2 h3 h4 ⊢
  have HP := Lib.hid (fun y => putString_any pa h1 y)
  have HD := Lib.hid (fun y => putString_any d h4 y)
  have HN : Hid (∀ y v, Rws 1 inC v [f, n] y → _) := Lib.hid (fun y v hv => numbers_any v [f, n] y hv (by simp) (by intro x hx; simp at hx; rcases hx with rfl | rfl; exact h2; exact h3))
  unfold lineD
  simp only
  have s1 : (putD pa).size ≤ 65546 := by unfold putD; rw [ByteArray.size_append]; have := numB_size pa.size; omega
  have s2 : (putD d).size ≤ 65546 := by unfold putD; rw [ByteArray.size_append]; have := numB_size d.size; omega
  have s3 : (numsB [f, n]).size ≤ 20 := by have := numsB_len [f, n] 2; simpa using this
  generalize putD pa = A at HP s1 ⊢
  generalize putD d = D at HD s2 ⊢
  generalize numsB [f, n] = M at HN s3 ⊢
  have hadd1 := add_run A M _ rfl (by omega)
  have s4 : (A ++ M).size ≤ 65566 := by rw [ByteArray.size_append]; omega
  generalize A ++ M = AM at hadd1 s4 ⊢
  have hadd2 := add_run AM D _ rfl (by omega)
  generalize AM ++ D = R at hadd2 ⊢
  clear h1 h2 h3 h4
  go_enter Tryz.func46, Tryz.ntmps46
  go_upto_region 1 with fail
  refine wp_gen (F := fun z => Gr w z ∧ z.heap[w.heap.size]? = some (.cells #[.string pa, .int .i64 f, .int .i64 n, .string d] 51 (0, 0))) ⟨Gr.alloc _ _, heap_alloc_new _ _⟩ ?_
  rintro wA ⟨hgA, hrA⟩
  obtain ⟨a0, a1, a2, a3⟩ := row4 hrA
  generalize w.heap.size = bx at a0 a1 a2 a3 hrA ⊢
  have HGA := Lib.hid hgA
  clear hgA hrA
  go_wp2_with fail
  refine (HP.out _).mono ?_
  rintro e w1 ⟨rfl, hg⟩
  have b1 := hg.cell a1
  have b2 := hg.cell a2
  have b3 := hg.cell a3
  have HG := Lib.hid (HGA.out.trans hg)
  clear hg a0 a1 a2 a3 HP
  go_wp2_with fail
  refine (HD.out _).mono ?_
  rintro e w2 ⟨rfl, hg⟩
  have c1 := hg.cell b1
  have c2 := hg.cell b2
  have HG2 := Lib.hid (HG.out.trans hg)
  clear hg b1 b2 b3 HD HG
  go_wp2_with fail
  have hnew := rows_new (enc := inC) (fun _ => rfl) w2 [f, n] 3 2 rfl
  refine (HN.out _ _ hnew).mono ?_
  rintro e w3 ⟨rfl, hg⟩
  have HG3 := Lib.hid (HG2.out.trans ((Gr.alloc _ _).trans hg))
  clear hg hnew c1 c2 HN HG2
  go_wp2_with fail
  go_ret
  exact ⟨rfl, HG3.out⟩
end
section
open Go Go.RowKit Go.Shelf
attribute [local go_sem] gAt gUpon
attribute [local simp] Gr.refl Gr.alloc

theorem lineD_size {x : En} (h : LineOk x) : (lineD x).size ≤ 131200 := by
  unfold lineD putD
  have s3 : (numsB [x.fmt, x.len]).size ≤ 20 := by have := numsB_len [x.fmt, x.len] 2; simpa using this
  have := numB_size x.path.size
  have := numB_size x.dig.size
  have := h.path
  have := h.dig
  simp only [ByteArray.size_append]
  omega
theorem lines_step {l : List En} {k : Nat} {x : En} (hx : l[k]? = some x) : sC ((l.take (k + 1)).map lineD) = sC ((l.take k).map lineD) ++ [.string (lineD x)] := by
  rw [List.take_add_one, hx, Option.toList_some, List.map_append]
  simp [sC]
set_option maxRecDepth 100000 in
set_option maxHeartbeats 1000000 in
theorem lines_any (id ver : Int) (v : Value) (l : List En) (w : World) (hv : Rws 4 enC v l w) (hl : l.length ≤ 1000) (ho : ∀ x ∈ l, LineOk x) :
    Calls Tryz.prog 31 #[.agg #[.int .i64 id, .int .i64 ver, v]] w fun e w' => ∃ u, e = .returned u ∧ OwnL w.heap.size (l.map lineD) u w' ∧ Gr w w' := by
  obtain ⟨i0, hi, hz0, hz1, hz2⟩ := info_parts infoStr
  have HI := Lib.hid hi
  have HI0 := Lib.hid hz0
  have HI1 := Lib.hid hz1
  have HI2 := Lib.hid hz2
  obtain ⟨p, c, rfl⟩ := hv.shape
  have HV := Lib.hid hv
  have HO := Lib.hid ho
  have HEnd : Hid (∀ B u k y, l.length = k → Own B 1 u k (sC ((l.take k).map lineD)) y → OwnL B (l.map lineD) u y) := Lib.hid (fun B u k y h1 h2 => by
    subst h1
    rw [List.take_of_length_le (Nat.le_refl _)] at h2
    unfold OwnL
    rw [List.length_map]; exact h2)
  clear hi hz0 hz1 hz2 hv ho
  go_enter Tryz.func31, Tryz.ntmps31
  go_upto_region 1 with fail
  refine wp_gen (F := fun y => Gr w y ∧ y.heap[w.heap.size]? = some (.cells #[.int .i64 id, .int .i64 ver, .slice p l.length c] 43 (0, 0))) ⟨Gr.alloc _ _, heap_alloc_new _ _⟩ ?_
  rintro wA ⟨hgA, hrA⟩
  obtain ⟨k0, k1, k2⟩ := row3 hrA
  have HGA := Lib.hid hgA
  clear hgA hrA
  generalize w.heap.size = bx at k0 k1 k2
  go_wp2_with fail
  go_loopw [2, 8] (fun vs vi W => ∃ (k : Nat) (V : Value), k ≤ l.length ∧ vi = .int .i64 (k : Int) ∧ V = vs ∧ Hid (Own wA.heap.size 1 V k (sC ((l.take k).map lineD)) W) ∧ Hid (Gr wA W)) (fun _ vi _ => l.length - (intOf vi).toNat)
  case atStart => exact ⟨0, _, Nat.zero_le _, rfl, rfl, Lib.hid (Own.nil _ _ _), Lib.hid (Gr.refl _)⟩
  case round =>
    obtain ⟨k, vv, hk, rfl, rfl, HOw, HG⟩ := hrel
    have n2 := HG.out.cell k2
    by_cases hlt : k < l.length
    · have ht : decide (k < l.length) = true := decide_eq_true hlt
      have ht' : decide ((k : Int) < (l.length : Int)) = true := decide_eq_true (by omega)
      obtain ⟨x, hx⟩ : ∃ x, l[k]? = some x := ⟨_, List.getElem?_eq_getElem hlt⟩
      obtain ⟨g, off, rfl, hlc, hc⟩ := (HV.out.gr (HGA.out.trans HG.out)).at_ hx
      have HC := Lib.hid (fun y => line_any x (HO.out x (List.mem_of_getElem? hx)) y)
      have HX := Lib.hid (lines_step hx)
      have hc0 := hc 0 _ rfl
      have hc1 := hc 1 _ rfl
      have hc2 := hc 2 _ rfl
      have hc3 := hc 3 _ rfl
      rw [Nat.add_zero] at hc0
      rw [← Nat.add_assoc] at hc1 hc2 hc3
      generalize lineD x = VX at HC HX
      obtain ⟨xp, xf, xn, xd⟩ := x
      simp only at hc0 hc1 hc2 hc3 HC
      clear hc hx
      go_upto_region 4 with fail
      refine wp_gen (F := fun z => Gr wr z ∧ z.heap[wr.heap.size]? = some (.cells #[.string xp, .int .i64 xf, .int .i64 xn, .string xd] 51 (0, 0))) ⟨Gr.alloc _ _, heap_alloc_new _ _⟩ ?_
      rintro w0 ⟨hgB, hrB⟩
      obtain ⟨b0, b1, b2, b3⟩ := row4 hrB
      generalize wr.heap.size = bb at b0 b1 b2 b3 hrB ⊢
      have HGn := Lib.hid hgB
      clear hgB hrB
      go_wp2_with fail
      clear b0 b1 b2 b3
      refine (HC.out w0).mono ?_
      rintro e w1 ⟨rfl, hg⟩
      have HG1 : Hid (Gr wA w1) := Lib.hid (HG.out.trans (HGn.out.trans hg))
      have HO1 : Hid (Own wA.heap.size 1 vv k (sC ((l.take k).map lineD)) w1) := Lib.hid (HOw.out.gr (HGn.out.trans hg))
      clear hg HG HOw hc0 hc1 hc2 hc3 HC HGn n2
      go_wp2_with ((with_reducible show wpList _ _ _ (⟨some 16, _, _, _, _, _⟩ :: _) _ _); refine wpList_append_Own rfl (.tmp 12) (.tmp 15) 27 rfl 9 i0 (.string ⟨#[]⟩) 1 16 Tryz.underlying27 HI.out HI0.out HI1.out HI2.out rfl (by decide) rfl (HO1.out.gr (Gr.alloc w1 _)) ⟨w1.heap.size, 0, none⟩ 1 1 [.string VX] rfl rfl (cells_new_at w1 [.string VX] 9) ?h1 (by decide) ?b1 ?b2 ?hB ?_)
      case h1 => intro u hu; obtain rfl := List.mem_singleton.1 hu; rfl
      case b1 => unfold maxLen; omega
      case b2 => omega
      case hB => have := HG1.out.size; simp; omega
      intro v18 w18 hown hchg _
      have HG2 : Hid (Gr wA w18) := Lib.hid (gr_step HG1.out (Gr.alloc _ _) hchg (fun g hg => by have := HO1.out.ge hg; exact this))
      have HO2 : Hid (Own wA.heap.size 1 v18 (k + 1) (sC ((l.take (k + 1)).map lineD)) w18) := Lib.hid (by rw [HX.out, List.map_take]; exact hown)
      clear hown hchg HO1 HG1 HX
      go_wp2_with fail
      go_roundw
      case rel => exact ⟨k + 1, _, by omega, by go_num, rfl, HO2, HG2⟩
      case measure => simp [intOf]; omega
    · have ht : decide (k < l.length) = false := decide_eq_false hlt
      have ht' : decide ((k : Int) < (l.length : Int)) = false := decide_eq_false (by omega)
      have HO9 := Lib.hid (HEnd.out _ _ k _ (by omega) HOw.out)
      go_wp2_with fail
      go_ret
      exact ⟨_, rfl, HO9.out.mono HGA.out.size, HGA.out.trans HG.out⟩
end
section
open Go Go.RowKit Go.Shelf
attribute [local go_sem] gAt gUpon
attribute [local simp] Gr.refl Gr.alloc

def hdB (id ver n : Int) : ByteArray := numsB [id, ver, n]
def boundD (id ver n : Int) (tree : ByteArray) : ByteArray := nodeD (leafD (hdB id ver n)) tree
def rootP (id ver : Int) (l : List En) : ByteArray := if validD id ver l then boundD id ver l.length (rootD (l.map lineD)) else ⟨#[]⟩
theorem hdB_size (id ver n : Int) : (hdB id ver n).size ≤ 30 := by have := numsB_len [id, ver, n] 3; simpa [hdB] using this
theorem boundD_size (id ver n : Int) (tree : ByteArray) : (boundD id ver n tree).size = 32 := nodeD_size _ _
theorem rootP_size (id ver : Int) (l : List En) : (rootP id ver l).size ≤ 32 := by
  unfold rootP; split
  · rw [boundD_size]; omega
  · exact Nat.zero_le _
structure HeadOk (id ver n : Int) : Prop where
  id : NumOk id
  ver : NumOk ver
  n : NumOk n
theorem head_ok {id ver n : Int} (h : headB id ver n = true) : HeadOk id ver n := by
  unfold headB at h
  simp only [Bool.and_eq_true, withinB_iff] at h
  exact ⟨⟨by omega, by omega⟩, ⟨by omega, by omega⟩, ⟨by omega, by omega⟩⟩
theorem valid_head {id ver : Int} {l : List En} (h : validD id ver l = true) : HeadOk id ver l.length ∧ l.length ≤ 64 ∧ 1 ≤ l.length ∧ (∀ x ∈ l, LineOk x) ∧ ∀ x ∈ l, entB x = true := by
  unfold validD at h
  simp only [Bool.and_eq_true, List.all_eq_true] at h
  have h1 := h.1
  unfold headB at h1
  simp only [Bool.and_eq_true, withinB_iff] at h1
  exact ⟨head_ok h.1, by omega, by omega, fun x hx => ent_line (h.2.1 x hx), h.2.1⟩
theorem nums3 {id ver n : Int} (h : HeadOk id ver n) : ∀ x ∈ [id, ver, n], NumOk x := by
  intro x hx
  simp at hx
  rcases hx with rfl | rfl | rfl
  · exact h.id
  · exact h.ver
  · exact h.n
theorem bound_any (id ver n : Int) (h : HeadOk id ver n) (tree : ByteArray) (ht : tree.size ≤ 1000) (w : World) (hT : Tab w) :
    Calls Tryz.prog 29 #[.int .i64 id, .int .i64 ver, .int .i64 n, .string tree] w fun e w' => e = .returned (.string (boundD id ver n tree)) ∧ Gr w w' := by
  have HN : Hid (∀ y v, Rws 1 inC v [id, ver, n] y → _) := Lib.hid (fun y v hv => numbers_any v [id, ver, n] y hv (by simp) (nums3 h))
  have HL := Lib.hid (fun y (hT : Tab y) => leaf_any (hdB id ver n) y (by have := hdB_size id ver n; omega) hT)
  have HD := Lib.hid (fun y (hT : Tab y) => node_any (leafD (hdB id ver n)) tree y (by rw [leafD_size]; omega) hT)
  have HT := Lib.hid hT
  unfold boundD
  unfold hdB at HL HD ⊢
  generalize numsB [id, ver, n] = M at HN HL HD ⊢
  generalize leafD M = LL at HL HD ⊢
  generalize nodeD LL tree = R at HD ⊢
  clear h hT
  go_enter Tryz.func29, Tryz.ntmps29
  go_wp2_with fail
  have hnew := rows_new (enc := inC) (fun _ => rfl) w [id, ver, n] 3 3 rfl
  refine (HN.out _ _ hnew).mono ?_
  rintro e w1 ⟨rfl, hg⟩
  have HG1 := Lib.hid ((Gr.alloc _ _).trans hg)
  clear hg hnew HN
  go_wp2_with fail
  refine (HL.out w1 (HT.out.gr HG1.out)).mono ?_
  rintro e w2 ⟨rfl, hg⟩
  have HG2 := Lib.hid (HG1.out.trans hg)
  clear hg HL HG1
  go_wp2_with fail
  refine (HD.out w2 (HT.out.gr HG2.out)).mono ?_
  rintro e w3 ⟨rfl, hg⟩
  have HG3 := Lib.hid (HG2.out.trans hg)
  clear hg HD HG2
  go_wp2_with fail
  go_ret
  exact ⟨rfl, HG3.out⟩
set_option maxRecDepth 100000 in
set_option maxHeartbeats 1000000 in
theorem rootM_any (id ver : Int) (v : Value) (l : List En) (w : World) (hv : Rws 4 enC v l w) (hl : l.length ≤ 9223372036854775806) (hp : ∀ x ∈ l, x.path.size ≤ 9223372036854775807) (hT : Tab w) :
    Calls Tryz.prog 11 #[.agg #[.int .i64 id, .int .i64 ver, v]] w fun e w' => e = .returned (.string (rootP id ver l)) ∧ Gr w w' := by
  obtain ⟨p, c, rfl⟩ := hv.shape
  have HB : Hid (∀ y, Gr w y → _) := Lib.hid (fun y hg => valid_any id ver (.slice p l.length c) l y (hv.gr hg) hl hp)
  have HV := Lib.hid hv
  have HT := Lib.hid hT
  unfold rootP
  cases hB : validD id ver l with
  | false =>
    rw [hB] at HB
    clear hv hl hp hB hT
    go_enter Tryz.func11, Tryz.ntmps11
    go_upto_region 1 with fail
    refine wp_gen (F := fun y => Gr w y ∧ y.heap[w.heap.size]? = some (.cells #[.int .i64 id, .int .i64 ver, .slice p l.length c] 43 (0, 0))) ⟨Gr.alloc _ _, heap_alloc_new _ _⟩ ?_
    rintro wA ⟨hgA, hrA⟩
    obtain ⟨k0, k1, k2⟩ := row3 hrA
    have HGA := Lib.hid hgA
    clear hgA hrA
    generalize w.heap.size = bx at k0 k1 k2 ⊢
    go_wp2_with fail
    refine (HB.out _ HGA.out).mono ?_
    rintro e w1 ⟨rfl, hg⟩
    have HG1 := Lib.hid (HGA.out.trans hg)
    clear hg
    go_wp2_with fail
    go_ret
    exact ⟨rfl, HG1.out⟩
  | true =>
    obtain ⟨hHd, hl64, hl1, hLn, -⟩ := valid_head hB
    rw [if_pos rfl]
    rw [hB] at HB
    have HLi := Lib.hid (fun y (hg : Gr w y) => lines_any id ver (.slice p l.length c) l y (hv.gr hg) (by omega) hLn)
    have HRo := Lib.hid (fun u y (hu : StrsAt u (l.map lineD) y) (ht : Tab y) => root_any u (l.map lineD) y hu (by rw [List.length_map]; omega) (fun x hx => by
      obtain ⟨z, hz, rfl⟩ := List.mem_map.1 hx
      have := lineD_size (hLn z hz); omega) ht)
    have HBo := Lib.hid (fun y (ht : Tab y) => bound_any id ver l.length hHd (rootD (l.map lineD)) (by rw [rootD_size]; decide) y ht)
    generalize boundD id ver l.length (rootD (l.map lineD)) = R at HBo ⊢
    generalize rootD (l.map lineD) = RT at HRo HBo
    generalize l.map lineD = LL at HLi HRo
    clear hv hl hp hB hT hHd hLn hl64 hl1
    go_enter Tryz.func11, Tryz.ntmps11
    go_upto_region 1 with fail
    refine wp_gen (F := fun y => Gr w y ∧ y.heap[w.heap.size]? = some (.cells #[.int .i64 id, .int .i64 ver, .slice p l.length c] 43 (0, 0))) ⟨Gr.alloc _ _, heap_alloc_new _ _⟩ ?_
    rintro wA ⟨hgA, hrA⟩
    obtain ⟨k0, k1, k2⟩ := row3 hrA
    have HGA := Lib.hid hgA
    clear hgA hrA
    generalize w.heap.size = bx at k0 k1 k2 ⊢
    go_wp2_with fail
    refine (HB.out _ HGA.out).mono ?_
    rintro e w1 ⟨rfl, hg⟩
    have HG1 := Lib.hid (HGA.out.trans hg)
    have m0 := hg.cell k0
    have m1 := hg.cell k1
    have m2 := hg.cell k2
    clear hg k0 k1 k2
    have S0 : ∀ q : GrS w1.drew, q.w.cell? ⟨bx, 0, none⟩ = some (.int .i64 id) := fun q => q.h.cell (w := w1.drew) m0
    have S1 : ∀ q : GrS w1.drew, q.w.cell? ⟨bx, 1, none⟩ = some (.int .i64 ver) := fun q => q.h.cell (w := w1.drew) m1
    have S2 : ∀ q : GrS w1.drew, q.w.cell? ⟨bx, 2, none⟩ = some (.slice p l.length c) := fun q => q.h.cell (w := w1.drew) m2
    have HG1d : Hid (Gr w w1.drew) := Lib.hid (HG1.out.trans (Gr.drew _))
    clear m0 m1 m2
    go_upto_region 3 with fail
    refine region_grow 12 17 (by kernel_rfl) rfl (by kernel_rfl) rfl rfl ?_
    simp only [List.take_succ_cons, List.take_zero, List.drop_succ_cons, List.drop_zero]
    refine seg 8 rfl rfl rfl rfl ?_
    simp only [List.take_succ_cons, List.take_zero, List.drop_succ_cons, List.drop_zero]
    repeat (go_big_quiet_step (fail))
    refine wpQuiet_nil ?_
    intro _
    refine grow_open (OwnL w1.drew.heap.size LL) rfl rfl rfl rfl (OwnL.stb _ _) (fun wX hG => ?_) ?_
    · go_simp
      refine (HLi.out wX (HG1d.out.trans hG)).mono ?_
      rintro e w' ⟨u, rfl, ho, hg⟩
      exact ⟨u, rfl, hg, ho.mono hG.size⟩
    refine grow_det1 14 (v := .string RT) rfl (by decide) rfl rfl rfl (by decide) rfl rfl rfl (fun wX u hG hu => ?_) ?_
    · simp only [Act.put, List.setIfInBounds_toArray, List.set_cons_zero, List.set_cons_succ]
      go_simp
      refine (HRo.out u wX hu.strs (HT.out.gr (HG1d.out.trans hG))).mono ?_
      rintro e w' ⟨rfl, hg⟩
      exact ⟨rfl, hg⟩
    simp only [Act.put, List.setIfInBounds_toArray, List.set_cons_zero, List.set_cons_succ]
    refine grow_det (v := .string R) rfl rfl rfl rfl rfl ?_ ?_
    · intro w1 hG
      go_simp
      refine (HBo.out w1 (HT.out.gr (HG1d.out.trans hG))).mono ?_
      rintro e w' ⟨rfl, hb⟩
      exact ⟨rfl, hb⟩
    simp only [Act.put, List.setIfInBounds_toArray, List.set_cons_zero, List.set_cons_succ]
    refine seg 1 rfl rfl rfl rfl ?_
    simp only [List.take_succ_cons, List.take_zero, List.drop_succ_cons, List.drop_zero]
    repeat (go_big_quiet_step (fail))
    refine wpQuiet_nil ?_
    intro _
    refine grow_end1 rfl rfl (by decide) (fun wC u hG _ => ?_)
    simp only [Act.put, List.setIfInBounds_toArray, List.set_cons_zero, List.set_cons_succ]
    have HGC := Lib.hid (HG1d.out.trans hG)
    clear hG S0 S1 S2 HB HLi HRo HBo
    go_wp2_with fail
    go_ret
    exact ⟨rfl, HGC.out⟩
end
end Go.Proofs.YtaoggehdkddgeaaGreatDoor
