/- The contracts of Encode of both sides. -/
import Derived.Lib.Join
import Derived.Test.YtjnnhhengpinmaaGreatDoorNB
namespace Go.Proofs.YtjnnhhengpinmaaGreatDoor
open Go Go.RowKit Go.Shelf
attribute [local go_sem] gAt gUpon
attribute [local simp] Gr.refl Gr.alloc

def catL (l : List ByteArray) : ByteArray := l.foldl (· ++ ·) ⟨#[]⟩
theorem catL_from (l : List ByteArray) : ∀ a : ByteArray, (l.foldl (· ++ ·) a).data.toList = a.data.toList ++ (l.map (·.data.toList)).flatten := by
  induction l with
  | nil => intro a; simp
  | cons x l ih => intro a; rw [List.foldl_cons, ih]; simp
theorem catL_data (l : List ByteArray) : (catL l).data.toList = (l.map (·.data.toList)).flatten := by unfold catL; rw [catL_from]; rfl
theorem joinE_flat (xs : List (List UInt8)) : Lib.join xs [] = xs.flatten := by
  cases xs with
  | nil => rfl
  | cons x r => rw [Lib.join_cons]; unfold Lib.joinTail; simp
theorem catL_join (l : List ByteArray) : (⟨(Lib.join (l.map (·.data.toList)) (⟨#[]⟩ : ByteArray).data.toList).toArray⟩ : ByteArray) = catL l := by
  apply ByteArray.ext
  apply Array.toList_inj.1
  rw [show (⟨#[]⟩ : ByteArray).data.toList = [] from rfl, joinE_flat, ← catL_data]
theorem catL_step {l : List ByteArray} {k : Nat} {x : ByteArray} (h : l[k]? = some x) (a : ByteArray) : (l.take k).foldl (· ++ ·) a ++ x = (l.take (k + 1)).foldl (· ++ ·) a := by
  rw [List.take_add_one, h, Option.toList_some, List.foldl_append]; rfl
theorem cat_assoc (l : List ByteArray) (a : ByteArray) : l.foldl (· ++ ·) a = a ++ catL l := by
  apply ByteArray.ext
  apply Array.toList_inj.1
  rw [catL_from, ByteArray.data_append, Array.toList_append, catL_data]
theorem foldE_size (M : Nat) (l : List ByteArray) (h : ∀ x ∈ l, x.size ≤ M) : ∀ a : ByteArray, (l.foldl (· ++ ·) a).size ≤ a.size + M * l.length := by
  induction l with
  | nil => intro a; simp
  | cons x l ih =>
    intro a
    rw [List.foldl_cons]
    have h1 := ih (fun y hy => h y (List.mem_cons_of_mem _ hy)) (a ++ x)
    have h2 := h x (List.mem_cons_self ..)
    rw [ByteArray.size_append] at h1
    rw [List.length_cons, Nat.mul_add]
    omega
theorem join_any {B : Nat} (v : Value) (L : List ByteArray) (w : World) (h : OwnL B L v w) (hl : L.length ≤ 1000) (hs : ∀ x ∈ L, x.size ≤ 140000) :
    Calls Tryz.prog 45 #[v, .string ⟨#[]⟩] w fun e w' => e = .returned (.string (catL L)) ∧ Gr w w' := by
  rcases h.strs with ⟨rfl, rfl⟩ | ⟨g, off, cap, rfl, hcap, _, hc⟩
  · refine (Tryz.strings_Join_none none 0 ⟨#[]⟩ w).mono ?_
    rintro e w' ⟨rfl, rfl⟩
    exact ⟨rfl, Gr.refl _⟩
  · by_cases h0 : L = []
    · subst h0
      refine (Tryz.strings_Join_none (some ⟨g, off, none⟩) cap ⟨#[]⟩ w).mono ?_
      rintro e w' ⟨rfl, rfl⟩
      exact ⟨rfl, Gr.refl _⟩
    · obtain ⟨x, hx⟩ : ∃ x, L[0]? = some x := ⟨_, List.getElem?_eq_getElem (List.length_pos_iff.2 h0)⟩
      have hlt := World.block_lt_of_cell? w _ (hc 0 x hx)
      have hsz := foldE_size 140000 L hs ⟨#[]⟩
      refine (Tryz.strings_Join g off cap L ⟨#[]⟩ w hc hlt (by omega) hcap ?_).mono ?_
      · have : (Lib.join (L.map (·.data.toList)) (⟨#[]⟩ : ByteArray).data.toList).length = (catL L).size := by
          rw [← catL_join]; simp [ByteArray.size]
        rw [this]
        unfold catL
        rw [show (⟨#[]⟩ : ByteArray).size = 0 from rfl] at hsz
        have : 140000 * L.length ≤ 140000 * 1000 := Nat.mul_le_mul_left _ hl
        omega
      · rintro e w' ⟨rfl, hg⟩
        exact ⟨by rw [catL_join], hg⟩
def encB (id ver : Int) (l : List En) : ByteArray := if validD id ver l then hdB id ver l.length ++ catL (l.map lineD) else ⟨#[]⟩
def encE (id ver : Int) (l : List En) : Int := if validD id ver l then 0 else 140
theorem stb_rws {α : Type} (s : Nat) (enc : α → List Value) (l : List α) : Stb fun v w => Rws s enc v l w := fun _ _ _ hg h => Rws.gr h hg
set_option maxRecDepth 100000 in
set_option maxHeartbeats 1000000 in
theorem encode_any (id ver : Int) (v : Value) (l : List En) (w : World) (hv : Rws 4 enC v l w) (hl : l.length ≤ 9223372036854775806) (hp : ∀ x ∈ l, x.path.size ≤ 9223372036854775807) :
    Calls Tryz.prog 22 #[.agg #[.int .i64 id, .int .i64 ver, v]] w fun e w' => e = .returned (.tuple #[.string (encB id ver l), .int .i64 (encE id ver l)]) ∧ Gr w w' := by
  obtain ⟨p, c, rfl⟩ := hv.shape
  have HB : Hid (∀ y, Gr w y → _) := Lib.hid (fun y hg => valid_any id ver (.slice p l.length c) l y (hv.gr hg) hl hp)
  have HV := Lib.hid hv
  unfold encB encE
  cases hB : validD id ver l with
  | false =>
    rw [hB] at HB
    clear hv hl hp hB
    go_enter Tryz.func22, Tryz.ntmps22
    go_upto_region 1 with fail
    refine wp_gen (F := fun y => Gr w y ∧ y.heap[w.heap.size]? = some (.cells #[.int .i64 id, .int .i64 ver, .slice p l.length c] 24 (0, 0))) ⟨Gr.alloc _ _, heap_alloc_new _ _⟩ ?_
    rintro wA ⟨hgA, hrA⟩
    obtain ⟨k0, k1, k2⟩ := row3 hrA
    have HGA := Lib.hid hgA
    clear hgA hrA
    generalize w.heap.size = bx at k0 k1 k2 ⊢
    go_wp2_with fail
    refine (HB.out _ HGA.out).mono ?_
    rintro e w1 ⟨rfl, hg⟩
    have HG1 := Lib.hid (HGA.out.trans hg)
    clear hg
    go_wp2_with fail
    go_ret2
    exact ⟨rfl, HG1.out⟩
  | true =>
    obtain ⟨hHd, hl64, hl1, hLn, -⟩ := valid_head hB
    rw [if_pos rfl, if_pos rfl]
    rw [hB] at HB
    have HLi := Lib.hid (fun y (hg : Gr w y) => lines_any id ver (.slice p l.length c) l y (hv.gr hg) (by omega) hLn)
    have hLs : ∀ x ∈ l.map lineD, x.size ≤ 140000 := fun x hx => by
      obtain ⟨z, hz, rfl⟩ := List.mem_map.1 hx
      have := lineD_size (hLn z hz); omega
    have HJo := Lib.hid (fun B u y (hu : OwnL B (l.map lineD) u y) => join_any u (l.map lineD) y hu (by rw [List.length_map]; omega) hLs)
    have HNu := Lib.hid (fun y u (hu : Rws 1 inC u [id, ver, (l.length : Int)] y) => numbers_any u [id, ver, (l.length : Int)] y hu (by simp) (nums3 hHd))
    have s1 := hdB_size id ver l.length
    have s2 : (catL (l.map lineD)).size ≤ 9000000 := by
      have := foldE_size 140000 (l.map lineD) hLs ⟨#[]⟩
      rw [List.length_map, show (⟨#[]⟩ : ByteArray).size = 0 from rfl] at this
      unfold catL; omega
    have hadd := add_run (hdB id ver l.length) (catL (l.map lineD)) _ rfl (by omega)
    rw [show numsB [id, ver, (l.length : Int)] = hdB id ver l.length from rfl] at HNu
    generalize hdB id ver l.length ++ catL (l.map lineD) = R at hadd ⊢
    generalize catL (l.map lineD) = CL at HJo hadd
    generalize l.map lineD = LL at HLi HJo
    generalize hdB id ver l.length = HD at HNu hadd
    clear hv hl hp hB hHd hLn hl64 hl1 hLs s1 s2
    go_enter Tryz.func22, Tryz.ntmps22
    go_upto_region 1 with fail
    refine wp_gen (F := fun y => Gr w y ∧ y.heap[w.heap.size]? = some (.cells #[.int .i64 id, .int .i64 ver, .slice p l.length c] 24 (0, 0))) ⟨Gr.alloc _ _, heap_alloc_new _ _⟩ ?_
    rintro wA ⟨hgA, hrA⟩
    obtain ⟨k0, k1, k2⟩ := row3 hrA
    have HGA := Lib.hid hgA
    clear hgA hrA
    generalize w.heap.size = bx at k0 k1 k2 ⊢
    go_wp2_with fail
    refine (HB.out _ HGA.out).mono ?_
    rintro e w1 ⟨rfl, hg⟩
    have HG1 := Lib.hid (HGA.out.trans hg)
    have m0 := hg.cell k0
    have m1 := hg.cell k1
    have m2 := hg.cell k2
    clear hg k0 k1 k2
    have S0 : ∀ q : GrS w1.drew, q.w.cell? ⟨bx, 0, none⟩ = some (.int .i64 id) := fun q => q.h.cell (w := w1.drew) m0
    have S1 : ∀ q : GrS w1.drew, q.w.cell? ⟨bx, 1, none⟩ = some (.int .i64 ver) := fun q => q.h.cell (w := w1.drew) m1
    have S2 : ∀ q : GrS w1.drew, q.w.cell? ⟨bx, 2, none⟩ = some (.slice p l.length c) := fun q => q.h.cell (w := w1.drew) m2
    have HG1d : Hid (Gr w w1.drew) := Lib.hid (HG1.out.trans (Gr.drew _))
    clear m0 m1 m2
    go_upto_region 3 with fail
    refine region_grow 15 20 (by kernel_rfl) rfl (by kernel_rfl) rfl rfl ?_
    simp only [List.take_succ_cons, List.take_zero, List.drop_succ_cons, List.drop_zero]
    refine seg 7 rfl rfl rfl rfl ?_
    simp only [List.take_succ_cons, List.take_zero, List.drop_succ_cons, List.drop_zero]
    repeat (go_big_quiet_step (fail))
    refine wpQuiet_nil ?_
    intro _
    refine grow_open (fun u y => Rws 1 inC u [id, ver, (l.length : Int)] y) rfl rfl rfl rfl (stb_rws 1 inC _) (fun wX hG => ?_) ?_
    · go_simp
      exact rows_new (enc := inC) (fun _ => rfl) wX [id, ver, (l.length : Int)] 3 3 rfl
    refine grow_det1 14 (v := .string HD) rfl (by decide) rfl rfl rfl (by decide) rfl rfl rfl (fun wX u hG hu => ?_) ?_
    · simp only [Act.put, List.setIfInBounds_toArray, List.set_cons_zero, List.set_cons_succ]
      go_simp
      refine (HNu.out wX u hu).mono ?_
      rintro e w' ⟨rfl, hg⟩
      exact ⟨rfl, hg⟩
    simp only [Act.put, List.setIfInBounds_toArray, List.set_cons_zero, List.set_cons_succ]
    refine seg 1 rfl rfl rfl rfl ?_
    simp only [List.take_succ_cons, List.take_zero, List.drop_succ_cons, List.drop_zero]
    repeat (go_big_quiet_step (fail))
    refine wpQuiet_nil ?_
    intro _
    refine grow_open (OwnL w1.drew.heap.size LL) rfl rfl rfl rfl (OwnL.stb _ _) (fun wX hG => ?_) ?_
    · go_simp
      refine (HLi.out wX (HG1d.out.trans hG)).mono ?_
      rintro e w' ⟨u, rfl, ho, hg⟩
      exact ⟨u, rfl, hg, ho.mono hG.size⟩
    refine grow_det1 17 (v := .string CL) rfl (by decide) rfl rfl rfl (by decide) rfl rfl rfl (fun wX u hG hu => ?_) ?_
    · simp only [Act.put, List.setIfInBounds_toArray, List.set_cons_zero, List.set_cons_succ]
      go_simp
      refine (HJo.out _ u wX hu).mono ?_
      rintro e w' ⟨rfl, hg⟩
      exact ⟨rfl, hg⟩
    simp only [Act.put, List.setIfInBounds_toArray, List.set_cons_zero, List.set_cons_succ]
    refine grow_det (v := .string R) rfl rfl rfl rfl rfl ?_ ?_
    · intro w1 hG
      go_simp
    simp only [Act.put, List.setIfInBounds_toArray, List.set_cons_zero, List.set_cons_succ]
    refine seg 2 rfl rfl rfl rfl ?_
    simp only [List.take_succ_cons, List.take_zero, List.drop_succ_cons, List.drop_zero]
    repeat (go_big_quiet_step (fail))
    refine wpQuiet_nil ?_
    intro _
    refine grow_end2 rfl rfl (by decide) (by decide) rfl (fun wC u u2 hG _ _ => ?_)
    simp only [Act.put, List.setIfInBounds_toArray, List.set_cons_zero, List.set_cons_succ]
    have HGC := Lib.hid (HG1d.out.trans hG)
    clear hG S0 S1 S2 HB HLi HJo HNu
    go_wp2_with fail
    go_ret2
    exact ⟨rfl, HGC.out⟩
set_option maxRecDepth 100000 in
set_option maxHeartbeats 1000000 in
theorem encodeR_any (id ver : Int) (v : Value) (l : List En) (w : World) (hv : Rws 4 enC v l w) (hl : l.length ≤ 9223372036854775806) (hp : ∀ x ∈ l, x.path.size ≤ 9223372036854775807) :
    Calls Tryz.prog 23 #[.agg #[.int .i64 id, .int .i64 ver, v]] w fun e w' => e = .returned (.tuple #[.string (encB id ver l), .int .i64 (encE id ver l)]) ∧ Gr w w' := by
  obtain ⟨p, c, rfl⟩ := hv.shape
  have HB : Hid (∀ y, Gr w y → _) := Lib.hid (fun y hg => validR_any id ver (.slice p l.length c) l y (hv.gr hg) hl hp)
  have HV := Lib.hid hv
  unfold encB encE
  cases hB : validD id ver l with
  | false =>
    rw [hB] at HB
    clear hv hl hp hB
    go_enter Tryz.func23, Tryz.ntmps23
    go_upto_region 1 with fail
    refine wp_gen (F := fun y => Gr w y ∧ y.heap[w.heap.size]? = some (.cells #[.int .i64 id, .int .i64 ver, .slice p l.length c] 24 (0, 0))) ⟨Gr.alloc _ _, heap_alloc_new _ _⟩ ?_
    rintro wA ⟨hgA, hrA⟩
    obtain ⟨k0, k1, k2⟩ := row3 hrA
    have HGA := Lib.hid hgA
    clear hgA hrA
    generalize w.heap.size = bx at k0 k1 k2 ⊢
    go_wp2_with fail
    refine (HB.out _ HGA.out).mono ?_
    rintro e w1 ⟨rfl, hg⟩
    have HG1 := Lib.hid (HGA.out.trans hg)
    clear hg
    go_wp2_with fail
    go_ret2
    exact ⟨rfl, HG1.out⟩
  | true =>
    obtain ⟨hHd, hl64, hl1, hLn, -⟩ := valid_head hB
    rw [if_pos rfl, if_pos rfl]
    rw [hB] at HB
    have HLi := Lib.hid (fun y (hg : Gr w y) => linesR_any id ver (.slice p l.length c) l y (hv.gr hg) (by omega) hLn)
    have HLs : Hid (∀ x ∈ l.map lineD, x.size ≤ 140000) := Lib.hid (fun x hx => by
      obtain ⟨z, hz, rfl⟩ := List.mem_map.1 hx
      have := lineD_size (hLn z hz); omega)
    have HHe := Lib.hid (fun y => headR_any id ver l.length hHd y)
    have s1 := hdB_size id ver l.length
    have HR : Hid ((l.map lineD).foldl (· ++ ·) (hdB id ver l.length) = hdB id ver l.length ++ catL (l.map lineD)) := Lib.hid (cat_assoc _ _)
    have HLl : Hid ((l.map lineD).length = l.length) := Lib.hid (List.length_map _)
    generalize hdB id ver l.length ++ catL (l.map lineD) = R at HR ⊢
    generalize l.map lineD = LL at HLi HLs HR HLl
    generalize hdB id ver l.length = HD at HHe HR s1
    have hLL : LL.length ≤ 64 := by have := HLl.out; omega
    clear hv hl hp hB hHd hLn hl64 hl1
    go_enter Tryz.func23, Tryz.ntmps23
    go_upto_region 1 with fail
    refine wp_gen (F := fun y => Gr w y ∧ y.heap[w.heap.size]? = some (.cells #[.int .i64 id, .int .i64 ver, .slice p l.length c] 24 (0, 0))) ⟨Gr.alloc _ _, heap_alloc_new _ _⟩ ?_
    rintro wA ⟨hgA, hrA⟩
    obtain ⟨k0, k1, k2⟩ := row3 hrA
    have HGA := Lib.hid hgA
    clear hgA hrA
    generalize w.heap.size = bx at k0 k1 k2 ⊢
    go_wp2_with fail
    refine (HB.out _ HGA.out).mono ?_
    rintro e w1 ⟨rfl, hg⟩
    have HG1 := Lib.hid (HGA.out.trans hg)
    have m0 := hg.cell k0
    have m1 := hg.cell k1
    have m2 := hg.cell k2
    clear hg k0 k1 k2
    go_wp2_with fail
    refine (HHe.out _).mono ?_
    rintro e w2 ⟨rfl, hg⟩
    have HG2 := Lib.hid (HG1.out.trans hg)
    have n0 := hg.cell m0
    have n1 := hg.cell m1
    have n2 := hg.cell m2
    clear hg m0 m1 m2 HHe HG1
    go_wp2_with fail
    refine (HLi.out _ HG2.out).mono ?_
    rintro e w3 ⟨u, rfl, ho, hg⟩
    have HG3 := Lib.hid (HG2.out.trans hg)
    have HS3 := Lib.hid ho.strs
    obtain ⟨p5, c5, rfl⟩ := HS3.out.shape
    clear hg n0 n1 n2 HLi HG2 ho
    go_wp2_with fail
    go_loopw [4, 6] (fun vs vi W => ∃ (k : Nat) (S : ByteArray), k ≤ LL.length ∧ vi = .int .i64 (k : Int) ∧ vs = .string S ∧ Hid ((LL.take k).foldl (· ++ ·) HD = S) ∧ W = w3) (fun _ vi _ => LL.length - (intOf vi).toNat)
    case atStart => exact ⟨0, HD, Nat.zero_le _, rfl, rfl, Lib.hid rfl, rfl⟩
    case round =>
      obtain ⟨k, S, hk, rfl, rfl, HS, rfl⟩ := hrel
      by_cases hlt : k < LL.length
      · have ht : decide (k < LL.length) = true := decide_eq_true hlt
        have ht' : decide ((k : Int) < (LL.length : Int)) = true := decide_eq_true (by omega)
        obtain ⟨x, hx⟩ : ∃ x, LL[k]? = some x := ⟨_, List.getElem?_eq_getElem hlt⟩
        have hsx := HLs.out x (List.mem_of_getElem? hx)
        have hsz : S.size ≤ 30 + 140000 * 64 := by
          rw [← HS.out]
          have := foldE_size 140000 (LL.take k) (fun y hy => HLs.out y (List.mem_of_mem_take hy)) HD
          rw [List.length_take] at this
          have h2 : 140000 * min k LL.length ≤ 140000 * 64 := Nat.mul_le_mul_left _ (by omega)
          omega
        have hst := catL_step hx HD
        rw [HS.out] at hst
        have hadd := add_run S x _ hst (by omega)
        obtain ⟨S2, hS2⟩ : ∃ S2, (LL.take (k + 1)).foldl (· ++ ·) HD = S2 := ⟨_, rfl⟩
        rw [hS2] at hadd
        have HS2 := Lib.hid hS2
        obtain ⟨g, off, hpq, hcx⟩ : ∃ g off, p5 = some ⟨g, off, none⟩ ∧ wr.cell? ⟨g, off + k, none⟩ = some (.string x) := by
          rcases HS3.out with ⟨he, h0⟩ | ⟨g, off, cap, he, _, _, hc⟩
          · rw [h0] at hlt; exact absurd hlt (by simp)
          · injection he with e1 e2 e3
            exact ⟨g, off, e1, hc k x hx⟩
        subst hpq
        clear hst hS2 hx hsz
        go_wp2_with fail
        go_roundw
        case rel => exact ⟨k + 1, _, by omega, by go_num, rfl, HS2, trivial⟩
        case measure => simp [intOf]; omega
      · have ht : decide (k < LL.length) = false := decide_eq_false hlt
        have ht' : decide ((k : Int) < (LL.length : Int)) = false := decide_eq_false (by omega)
        obtain rfl : S = R := by rw [← HS.out, ← HR.out, List.take_of_length_le (by omega)]
        clear HS HR
        go_wp2_with fail
        go_ret2
        exact ⟨rfl, HG3.out⟩
end Go.Proofs.YtjnnhhengpinmaaGreatDoor
