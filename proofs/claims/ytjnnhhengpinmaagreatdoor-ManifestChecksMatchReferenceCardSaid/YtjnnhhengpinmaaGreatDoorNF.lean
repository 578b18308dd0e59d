/- The contract of the reference's Some. -/
import Derived.Test.YtjnnhhengpinmaaGreatDoorNL
import Derived.Test.YtjnnhhengpinmaaGreatDoorNN
import Derived.Test.YtjnnhhengpinmaaGreatDoorHeldP
import Derived.Test.YtjnnhhengpinmaaGreatDoorNC
import Derived.Test.YtjnnhhengpinmaaGreatDoorMkA
namespace Go.Proofs.YtjnnhhengpinmaaGreatDoor
section
open Go Go.RowKit Go.Shelf
attribute [local go_sem] gAt gUpon pUpon
attribute [local simp] Gr.refl Gr.alloc

def Ap (u v : Value) : Prop := u.ownBlock = none ∨ u.ownBlock ≠ v.ownBlock
def Lt (u : Value) (W : World) : Prop := ∀ g, u.ownBlock = some g → g < W.heap.size
theorem Lt.chg {u : Value} {W X : World} {b : Option Nat} (h : Lt u W) (hc : Chg b W X) : Lt u X := fun g e => Nat.lt_of_lt_of_le (h g e) hc.size
theorem Ap.new {u v v' : Value} {W : World} (ha : Ap u v) (hl : Lt u W) (hn : ∀ g, v'.ownBlock = some g → v.ownBlock = some g ∨ W.heap.size ≤ g) : Ap u v' := by
  rcases ha with h | h
  · exact .inl h
  · by_cases h0 : u.ownBlock = none
    · exact .inl h0
    · refine .inr (fun e => ?_)
      obtain ⟨g, hg⟩ := Option.ne_none_iff_exists'.1 h0
      rcases hn g (by rw [← e, hg]) with h1 | h1
      · exact h (by rw [hg, h1])
      · have := hl g hg; omega
theorem Ap.new' {u v v' : Value} {W : World} (ha : Ap v u) (hl : Lt u W) (hn : ∀ g, v'.ownBlock = some g → v.ownBlock = some g ∨ W.heap.size ≤ g) : Ap v' u := by
  by_cases h0 : v'.ownBlock = none
  · exact .inl h0
  · refine .inr (fun e => ?_)
    obtain ⟨g, hg⟩ := Option.ne_none_iff_exists'.1 h0
    rcases hn g hg with h1 | h1
    · rcases ha with h | h
      · rw [h1] at h; cases h
      · exact h (by rw [h1, ← e, hg])
    · have := hl g (by rw [← e, hg]); omega
theorem own_ltS {B s n : Nat} {v : Value} {xs : List Value} {w : World} (h : Own B s v (n + 1) xs w) (hs : 0 < s) : Lt v w := by
  intro g e
  rcases h.2 with ⟨_, h0⟩ | ⟨g', off, cap, rfl, _, hn, _, _, hw⟩
  · omega
  · simp [Value.ownBlock] at e
    subst e
    have h1 : 0 < cap * s := Nat.mul_pos (by omega) hs
    exact isSome_lt (hw 0 h1).1
def pathOf (i : Nat) : ByteArray := ⟨#[UInt8.ofNat (97 + i / 3), 47, UInt8.ofNat (48 + i)]⟩
def somP (k : Nat) : List ByteArray := (List.range k).map pathOf
def somF (l : List ByteArray) (k : Nat) : List Int := (List.range k).map fun i => (pickD (((l.getD i ⟨#[]⟩).size : Int) * 7 + (i : Int)) 5 : Int)
def somS (l : List ByteArray) (k : Nat) : List ByteArray := (l.take k).map fun s => cutD s 40
theorem somP_step (k : Nat) : sC (somP (k + 1)) = sC (somP k) ++ [.string (pathOf k)] := by unfold somP sC; rw [List.range_succ]; simp
theorem somF_step {l : List ByteArray} {k : Nat} {x : ByteArray} (h : l[k]? = some x) : (somF l (k + 1)).flatMap inC = (somF l k).flatMap inC ++ [.int .i64 (pickD ((x.size : Int) * 7 + (k : Int)) 5 : Int)] := by
  unfold somF; rw [List.range_succ, List.map_append, List.flatMap_append]
  simp [inC, List.getD_eq_getElem?_getD, h]
theorem somS_step {l : List ByteArray} {k : Nat} {x : ByteArray} (h : l[k]? = some x) : sC (somS l (k + 1)) = sC (somS l k) ++ [.string (cutD x 40)] := by
  unfold somS sC; rw [List.take_add_one, h]; simp
def AP3 (p f s : Value) (W : World) : Prop := (Ap p f ∧ Ap f p ∧ Ap p s ∧ Ap s p ∧ Ap f s ∧ Ap s f) ∧ (Lt p W ∧ Lt f W ∧ Lt s W)
theorem AP3.rot {p f s : Value} {W : World} (h : AP3 p f s W) : AP3 f s p W := by
  obtain ⟨⟨a, b, c, d, e, g⟩, x, y, z⟩ := h
  exact ⟨⟨e, g, b, a, d, c⟩, y, z, x⟩
theorem AP3.gr {p f s : Value} {W X : World} (h : AP3 p f s W) (hg : Gr W X) : AP3 p f s X := by
  obtain ⟨h1, x, y, z⟩ := h
  exact ⟨h1, x.chg (Chg.of_gr (g := none) hg), y.chg (Chg.of_gr (g := none) hg), z.chg (Chg.of_gr (g := none) hg)⟩
theorem AP3.put {p f s p' : Value} {W X : World} {b : Option Nat} (h : AP3 p f s W) (hc : Chg b W X) (hn : ∀ g, p'.ownBlock = some g → p.ownBlock = some g ∨ W.heap.size ≤ g) (hl : Lt p' X) : AP3 p' f s X := by
  obtain ⟨⟨a, b, c, d, e, g⟩, x, y, z⟩ := h
  exact ⟨⟨a.new' y hn, b.new y hn, c.new' z hn, d.new z hn, e, g⟩, hl, y.chg hc, z.chg hc⟩
theorem AP3.nil (W : World) : AP3 (.slice none 0 0) (.slice none 0 0) (.slice none 0 0) W :=
  ⟨⟨.inl rfl, .inl rfl, .inl rfl, .inl rfl, .inl rfl, .inl rfl⟩, (fun g e => by cases e), (fun g e => by cases e), (fun g e => by cases e)⟩
def SmI (w : World) (l : List ByteArray) (k : Nat) (p f s : Value) (W : World) : Prop :=
  Own w.heap.size 1 p k (sC (somP k)) W ∧ Own w.heap.size 1 f k ((somF l k).flatMap inC) W ∧ Own w.heap.size 1 s k (sC (somS l k)) W ∧ AP3 p f s W ∧ Gr w W
theorem somP_len (k : Nat) : (somP k).length = k := by simp [somP]
theorem somF_len (l : List ByteArray) (k : Nat) : (somF l k).length = k := by simp [somF]
theorem somS_len {l : List ByteArray} {k : Nat} (h : k ≤ l.length) : (somS l k).length = k := by simp [somS]; omega
theorem SmI.fin {w : World} {l : List ByteArray} {p f s : Value} {W : World} (h : SmI w l (min l.length 12) p f s W) :
    ∃ p' f' s', Ending.returned (.tuple #[p, f, s]) = .returned (.tuple #[p', f', s']) ∧ OwnL w.heap.size (somP (min l.length 12)) p' W ∧ Rws 1 inC f' (somF l (min l.length 12)) W ∧ OwnL w.heap.size (somS l (min l.length 12)) s' W ∧ Gr w W := by
  refine ⟨p, f, s, rfl, ?_, own_rws (s := 1) (enc := inC) (fun _ => rfl) (by rw [somF_len]; exact h.2.1), ?_, h.2.2.2.2⟩
  · unfold OwnL; rw [somP_len]; exact h.1
  · unfold OwnL; rw [somS_len (Nat.min_le_left _ _)]; exact h.2.2.1
theorem bytes_path (w : World) (k : Nat) (hk : k < 12) : Lib.Bytes (w.alloc (.cells #[.int .u8 (97 + (k / 3 : Nat) : Int), .int .u8 47, .int .u8 (48 + (k : Int))] 5)) w.heap.size 0 (pathOf k) := by
  have hr := heap_alloc_new w (.cells #[.int .u8 (97 + (k / 3 : Nat) : Int), .int .u8 47, .int .u8 (48 + (k : Int))] 5)
  intro i hi
  rw [cell_of_row _ _ _ _ _ _ hr]
  have hi : i < 3 := hi
  have h1 : (UInt8.ofNat (97 + k / 3)).toNat = 97 + k / 3 := UInt8.toNat_ofNat_of_lt' (show _ < 2 ^ 8 by omega)
  have h2 : (UInt8.ofNat (48 + k)).toNat = 48 + k := UInt8.toNat_ofNat_of_lt' (show _ < 2 ^ 8 by omega)
  match i, hi with
  | 0, _ => show some (Value.int .u8 _) = some (.int .u8 ((UInt8.ofNat (97 + k / 3)).toNat : Int)); rw [h1]; rfl
  | 1, _ => rfl
  | 2, _ => show some (Value.int .u8 _) = some (.int .u8 ((UInt8.ofNat (48 + k)).toNat : Int)); rw [h2]; rfl
set_option maxRecDepth 100000 in
set_option maxHeartbeats 2000000 in
theorem some_any (v : Value) (l : List ByteArray) (w : World) (hv : StrsAt v l w) (hl : l.length ≤ 9223372036854775806) (hs : ∀ x ∈ l, x.size ≤ 140737488355000) :
    Calls Tryz.prog 43 #[v] w fun e w' => ∃ p f s, e = .returned (.tuple #[p, f, s]) ∧ OwnL w.heap.size (somP (min l.length 12)) p w' ∧ Rws 1 inC f (somF l (min l.length 12)) w' ∧ OwnL w.heap.size (somS l (min l.length 12)) s w' ∧ Gr w w' := by
  obtain ⟨q, c, rfl⟩ := hv.shape
  obtain ⟨iS, hiS, hS0, hS1, hS2⟩ := info_parts infoStr
  obtain ⟨iI, hiI, hI0, hI1, hI2⟩ := info_parts infoInt
  have HiS := Lib.hid hiS
  have HS0 := Lib.hid hS0
  have HS1 := Lib.hid hS1
  have HS2 := Lib.hid hS2
  have HiI := Lib.hid hiI
  have HI0 := Lib.hid hI0
  have HI1 := Lib.hid hI1
  have HI2 := Lib.hid hI2
  have HV := Lib.hid hv
  have HS := Lib.hid hs
  clear hv hs hiS hS0 hS1 hS2 hiI hI0 hI1 hI2
  go_enter Tryz.func43, Tryz.ntmps43
  go_wp2_with fail
  go_loopw [5, 6, 7, 8] (fun v5 v6 v7 v8 W => ∃ (k : Nat) (p f s : Value), k ≤ min l.length 12 ∧ p = v5 ∧ f = v6 ∧ s = v7 ∧ v8 = .int .i64 (k : Int) ∧ Hid (SmI w l k p f s W)) (fun _ _ _ v8 _ => l.length - (intOf v8).toNat)
  case atStart => exact ⟨0, _, _, _, Nat.zero_le _, rfl, rfl, rfl, rfl, Lib.hid ⟨Own.nil _ _ _, Own.nil _ _ _, Own.nil _ _ _, AP3.nil _, Gr.refl _⟩⟩
  case round =>
    obtain ⟨k, p, f, s, hk, rfl, rfl, rfl, rfl, HI⟩ := hrel
    by_cases hlt : k < l.length
    · have ht : decide (k < l.length) = true := decide_eq_true hlt
      have ht' : decide ((k : Int) < (l.length : Int)) = true := decide_eq_true (by omega)
      by_cases h12 : k < 12
      · have t12 : decide (k < 12) = true := decide_eq_true h12
        have t12' : decide ((k : Int) < 12) = true := decide_eq_true (by omega)
        obtain ⟨x, hx⟩ : ∃ x, l[k]? = some x := ⟨_, List.getElem?_eq_getElem hlt⟩
        obtain ⟨gq, oq, rfl, hcq⟩ : ∃ g off, q = some ⟨g, off, none⟩ ∧ wr.cell? ⟨g, off + k, none⟩ = some (.string x) := by
          rcases HV.out.gr HI.out.2.2.2.2 with ⟨he, h0⟩ | ⟨g, off, cap, he, _, _, hc⟩
          · rw [h0] at hx; exact absurd hx (by simp)
          · injection he with e1 e2 e3
            exact ⟨g, off, e1, hc k x hx⟩
        have hgq : gq < w.heap.size := by
          rcases HV.out with ⟨he, h0⟩ | ⟨g, off, cap, he, _, _, hc⟩
          · rw [h0] at hx; exact absurd hx (by simp)
          · injection he with e1 e2 e3
            injection e1 with e1; injection e1 with e1
            subst e1
            have := World.block_lt_of_cell? w _ (hc k x hx)
            simpa using this
        have hxs := HS.out x (List.mem_of_getElem? hx)
        have HFs := Lib.hid (somF_step hx)
        have HSs := Lib.hid (somS_step hx)
        have i0 : (0 : Int) ≤ (k : Int) := by omega
        have i1 : (k : Int) < (l.length : Int) := by omega
        obtain ⟨q3, hq3⟩ : ∃ q, k / 3 = q := ⟨_, rfl⟩
        have e0 : (k : Int) / 3 = (q3 : Int) := by omega
        have e0' : (k : Int).tdiv 3 = (q3 : Int) := by rw [Int.tdiv_eq_ediv_of_nonneg (by omega)]; exact e0
        have e1 : IntKind.u8.wrap (97 + (q3 : Int)) = 97 + (q3 : Int) := u8_wrap (by omega) (by omega)
        have e2 : IntKind.u8.wrap (48 + (k : Int)) = 48 + (k : Int) := u8_wrap (by omega) (by omega)
        have hby := bytes_path wr k h12
        rw [hq3] at hby
        have hconv := Go.Lib.run_convert_whole (P := Tryz.prog) (wr.alloc (.cells #[.int .u8 (97 + (q3 : Int)), .int .u8 47, .int .u8 (48 + (k : Int))] 5)) 70 5 9 Tryz.underlying70 Tryz.underlying5 Tryz.underlying9 wr.heap.size 0 (pathOf k) hby 3
        rw [show (pathOf k).size = 3 from rfl] at hconv
        have HCq := Lib.hid hcq
        have Hgq := Lib.hid hgq
        clear hx hby hq3 hcq hgq
        have e3 : IntKind.i64.wrap ((x.size : Int) * 7) = (x.size : Int) * 7 := IntWalk.i64_in _ (by omega)
        have e4 : IntKind.i64.wrap ((x.size : Int) * 7 + (k : Int)) = (x.size : Int) * 7 + (k : Int) := IntWalk.i64_in _ (by omega)
        have HPk := Lib.hid (fun y => pickR_any ((x.size : Int) * 7 + (k : Int)) 5 y ⟨by omega, by omega⟩ (by decide) (by decide))
        have HG1 : Hid (Gr wr ((wr.alloc (.cells #[.int .u8 (97 + (q3 : Int)), .int .u8 47, .int .u8 (48 + (k : Int))] 5)).alloc (.cells #[.string (pathOf k)] 9))) := Lib.hid ((Gr.alloc _ _).trans (Gr.alloc _ _))
        have HcA := cells_new_at (wr.alloc (.cells #[.int .u8 (97 + (q3 : Int)), .int .u8 47, .int .u8 (48 + (k : Int))] 5)) [.string (pathOf k)] 9
        rw [World.size_alloc] at HcA
        have HcA := Lib.hid HcA
        go_upto_region 7 with fail
        go_wp2_with ((with_reducible show wpList _ _ _ (⟨some 30, _, _, _, _, _⟩ :: _) _ _); refine wpList_append_Own rfl (.tmp 19) (.tmp 29) 25 rfl 9 iS (.string ⟨#[]⟩) 1 16 Tryz.underlying25 HiS.out HS0.out HS1.out HS2.out rfl (by decide) rfl (HI.out.1.gr HG1.out) ⟨wr.heap.size + 1, 0, none⟩ 1 1 [.string (pathOf k)] rfl rfl HcA.out ?h1 (by decide) ?b1 ?b2 ?hB ?_)
        case h1 => intro u hu; obtain rfl := List.mem_singleton.1 hu; rfl
        case b1 => unfold maxLen; omega
        case b2 => omega
        case hB => have := HI.out.2.2.2.2.size; have := HG1.out.size; omega
        intro vp w1 hown hchg hnew
        rw [← somP_step] at hown
        have HOp := Lib.hid hown
        have HOf := Lib.hid ((HI.out.2.1.gr HG1.out).keep hchg HI.out.2.2.2.1.1.2.1)
        have HOs := Lib.hid ((HI.out.2.2.1.gr HG1.out).keep hchg HI.out.2.2.2.1.1.2.2.2.1)
        have HAP := Lib.hid ((HI.out.2.2.2.1.gr HG1.out).put hchg (by simpa using hnew) (own_ltS hown (by decide)))
        have HGw : Hid (Gr w w1) := Lib.hid (gr_step (HI.out.2.2.2.2.trans HG1.out) (Gr.refl _) hchg (fun g e => HI.out.1.ge e))
        have HCq1 : Hid (w1.cell? ⟨gq, oq + k, none⟩ = some (.string x)) := Lib.hid (hchg.cell (HG1.out.cell HCq.out) (fun e => by have := HI.out.1.ge e.symm; have := Hgq.out; simp at *; omega))
        clear hown hchg hnew hconv HG1 HcA HI e0 e0' e1 e2 HCq
        have hcq := HCq1.out
        go_wp2_with fail
        refine (HPk.out w1).mono ?_
        rintro e w2 ⟨rfl, rfl⟩
        obtain ⟨pk, hpk⟩ : ∃ z : Int, (pickD ((x.size : Int) * 7 + (k : Int)) 5 : Int) = z := ⟨_, rfl⟩
        rw [hpk] at HFs ⊢
        clear hpk HPk e3 e4 hcq
        go_wp2_with ((with_reducible show wpList _ _ _ (⟨some 42, _, _, _, _, _⟩ :: _) _ _); refine wpList_append_Own rfl (.tmp 31) (.tmp 41) 26 rfl 3 iI (.int .i64 0) 1 8 Tryz.underlying26 HiI.out HI0.out HI1.out HI2.out rfl (by decide) rfl (HOf.out.gr (Gr.alloc w1 (.cells #[.int .i64 pk] 3))) ⟨w1.heap.size, 0, none⟩ 1 1 [.int .i64 pk] rfl rfl (cells_new_at w1 [.int .i64 pk] 3) ?h1 (by decide) ?b1 ?b2 ?hB ?_)
        case h1 => intro u hu; obtain rfl := List.mem_singleton.1 hu; rfl
        case b1 => unfold maxLen; omega
        case b2 => omega
        case hB => have := HGw.out.size; simp; omega
        intro vf w3 hown hchg hnew
        rw [← HFs.out] at hown
        have HG1 := Lib.hid (Gr.alloc w1 (.cells #[.int .i64 pk] 3))
        have HOp3 := Lib.hid ((HOp.out.gr HG1.out).keep hchg HAP.out.1.1)
        have HOs3 := Lib.hid ((HOs.out.gr HG1.out).keep hchg HAP.out.1.2.2.2.2.2)
        have HAP3 := Lib.hid (((HAP.out.gr HG1.out).rot.put hchg (by simpa using hnew) (own_ltS hown (by decide))).rot.rot)
        have HGw3 : Hid (Gr w w3) := Lib.hid (gr_step (HGw.out.trans HG1.out) (Gr.refl _) hchg (fun g e => HOf.out.ge e))
        have HCq3 : Hid (w3.cell? ⟨gq, oq + k, none⟩ = some (.string x)) := Lib.hid (hchg.cell (HG1.out.cell HCq1.out) (fun e => by have := HOf.out.ge e.symm; have := Hgq.out; simp at *; omega))
        have HOf3 := Lib.hid hown
        clear hown hchg hnew HG1 HOp HOf HOs HAP HGw HCq1 HFs
        obtain ⟨m, hm⟩ : ∃ m, min x.size 40 = m := ⟨_, rfl⟩
        have hmi : min (x.size : Int) 40 = (m : Int) := by omega
        have m0 : (0 : Int) ≤ (m : Int) := by omega
        have m1 : (m : Int) ≤ (x.size : Int) := by omega
        obtain ⟨xc, hxc⟩ : ∃ z, x.extract 0 m = z := ⟨_, rfl⟩
        have hcut : cutD x 40 = xc := by unfold cutD; rw [hm]; exact hxc
        rw [hcut] at HSs
        have Hxc := Lib.hid hxc
        have hS0 : (fun y : World => y.cell? ⟨gq, oq + k, none⟩ = some (.string x)) w3.drew := HCq3.out
        have HG4 := Lib.hid (Gr.drew w3)
        have HOp4 := Lib.hid (HOp3.out.gr HG4.out)
        have HOf4 := Lib.hid (HOf3.out.gr HG4.out)
        have HOs4 := Lib.hid (HOs3.out.gr HG4.out)
        have HAP4 := Lib.hid (HAP3.out.gr HG4.out)
        have HGw4 := Lib.hid (HGw3.out.trans HG4.out)
        clear hm hcut HG4 HOp3 HOf3 HOs3 HAP3 HGw3 HCq3
        go_upto_region 9 with fail
        refine u_begin (fun y : World => y.cell? ⟨gq, oq + k, none⟩ = some (.string x)) (fun _ => false) (by kernel_rfl) (by assumption) (fun hHeld => ?_)
        generalize w3.drew = w4 at *
        refine u_take 0 (v := ?_) rfl rfl (by kernel_rfl) (by kernel_rfl) (by kernel_rfl) (by kernel_rfl) (fun _ _ _ h => h) (by rfl) (by assumption) ?_ ?_
        rotate_left
        · (intro w hSw; (try dsimp only at hSw); go_simp; try with_reducible rfl)
        try simp only [Act.put, List.setIfInBounds_toArray, List.set_cons_zero, List.set_cons_succ]
        refine u_take 1 (v := ?_) rfl rfl (by kernel_rfl) (by kernel_rfl) (by kernel_rfl) (by kernel_rfl) (fun _ _ _ h => h) (by rfl) (by assumption) ?_ ?_
        rotate_left
        · (intro w hSw; (try dsimp only at hSw); go_simp; try with_reducible rfl)
        try simp only [Act.put, List.setIfInBounds_toArray, List.set_cons_zero, List.set_cons_succ]
        refine u_take 2 (v := ?_) rfl rfl (by kernel_rfl) (by kernel_rfl) (by kernel_rfl) (by kernel_rfl) (fun _ _ _ h => h) (by rfl) (by assumption) ?_ ?_
        rotate_left
        · (intro w hSw; (try dsimp only at hSw); go_simp; try with_reducible rfl)
        try simp only [Act.put, List.setIfInBounds_toArray, List.set_cons_zero, List.set_cons_succ]
        refine u_take 3 (v := ?_) rfl rfl (by kernel_rfl) (by kernel_rfl) (by kernel_rfl) (by kernel_rfl) (fun _ _ _ h => h) (by rfl) (by assumption) ?_ ?_
        rotate_left
        · (intro w hSw; (try dsimp only at hSw); go_simp; try with_reducible rfl)
        try simp only [Act.put, List.setIfInBounds_toArray, List.set_cons_zero, List.set_cons_succ]
        refine u_take 4 (v := ?_) rfl rfl (by kernel_rfl) (by kernel_rfl) (by kernel_rfl) (by kernel_rfl) (fun _ _ _ h => h) (by rfl) (by assumption) ?_ ?_
        rotate_left
        · (intro w hSw; (try dsimp only at hSw); go_simp; try with_reducible rfl)
        try simp only [Act.put, List.setIfInBounds_toArray, List.set_cons_zero, List.set_cons_succ]
        refine u_take 5 (v := ?_) rfl rfl (by kernel_rfl) (by kernel_rfl) (by kernel_rfl) (by kernel_rfl) (fun _ _ _ h => h) (by rfl) (by assumption) ?_ ?_
        rotate_left
        · (intro w hSw; (try dsimp only at hSw); go_simp; try with_reducible rfl)
        try simp only [Act.put, List.setIfInBounds_toArray, List.set_cons_zero, List.set_cons_succ]
        refine u_take 6 (v := ?_) rfl rfl (by kernel_rfl) (by kernel_rfl) (by kernel_rfl) (by kernel_rfl) (fun _ _ _ h => h) (by rfl) (by assumption) ?_ ?_
        rotate_left
        · (intro w hSw; (try dsimp only at hSw); go_simp; try with_reducible rfl)
        try simp only [Act.put, List.setIfInBounds_toArray, List.set_cons_zero, List.set_cons_succ]
        refine u_take 7 (v := ?_) rfl rfl (by kernel_rfl) (by kernel_rfl) (by kernel_rfl) (by kernel_rfl) (fun _ _ _ h => h) (by rfl) (by assumption) ?_ ?_
        rotate_left
        · (intro w hSw; (try dsimp only at hSw); go_simp; try with_reducible rfl)
        try simp only [Act.put, List.setIfInBounds_toArray, List.set_cons_zero, List.set_cons_succ]
        refine u_take 8 (v := ?_) rfl rfl (by kernel_rfl) (by kernel_rfl) (by kernel_rfl) (by kernel_rfl) (fun _ _ _ h => h) (by rfl) (by assumption) ?_ ?_
        rotate_left
        · (intro w hSw; (try dsimp only at hSw); go_simp; try with_reducible rfl)
        try simp only [Act.put, List.setIfInBounds_toArray, List.set_cons_zero, List.set_cons_succ]
        refine u_take 9 (v := ?_) rfl rfl (by kernel_rfl) (by kernel_rfl) (by kernel_rfl) (by kernel_rfl) (fun _ _ _ h => h) (by rfl) (by assumption) ?_ ?_
        rotate_left
        · (intro w hSw; (try dsimp only at hSw); go_simp; try with_reducible rfl)
        try simp only [Act.put, List.setIfInBounds_toArray, List.set_cons_zero, List.set_cons_succ]
        refine u_take 10 (v := ?_) rfl rfl (by kernel_rfl) (by kernel_rfl) (by kernel_rfl) (by kernel_rfl) (fun _ _ _ h => h) (by rfl) (by assumption) ?_ ?_
        rotate_left
        · (intro w hSw; (try dsimp only at hSw); go_simp; try with_reducible rfl)
        try simp only [Act.put, List.setIfInBounds_toArray, List.set_cons_zero, List.set_cons_succ]
        refine u_take 11 (v := ?_) rfl rfl (by kernel_rfl) (by kernel_rfl) (by kernel_rfl) (by kernel_rfl) (fun _ _ _ h => h) (by rfl) (by assumption) ?_ ?_
        rotate_left
        · (intro w hSw; (try dsimp only at hSw); go_simp; try with_reducible rfl)
        try simp only [Act.put, List.setIfInBounds_toArray, List.set_cons_zero, List.set_cons_succ]
        refine u_step 12 (by kernel_rfl) rfl (by rfl) ?_
        go_simp
        refine ⟨(Gr.alloc w4 _).cell hS0, ?_⟩
        clear hxc
        refine u_one 13 (by kernel_rfl) rfl ?_
        refine wpList_append_Own (v := s) rfl (.tmp 43) (.tmp 55) 25 rfl 9 iS (.string ⟨#[]⟩) 1 16 Tryz.underlying25 HiS.out HS0.out HS1.out HS2.out rfl (by decide) rfl (HOs4.out.gr (Gr.alloc w4 (.cells #[.string xc] 9))) ⟨w4.heap.size, 0, none⟩ 1 1 [.string xc] rfl rfl (cells_new_at w4 [.string xc] 9) ?h1 (by decide) ?b1 ?b2 ?hB ?_
        case h1 => intro u hu; obtain rfl := List.mem_singleton.1 hu; rfl
        case b1 => unfold maxLen; omega
        case b2 => omega
        case hB => have := HGw4.out.size; simp; omega
        intro vs w5 hown hchg hnew
        rw [← HSs.out] at hown
        have HG1 := Lib.hid (Gr.alloc w4 (.cells #[.string xc] 9))
        have hFin : SmI w l (k + 1) vp vf vs w5 := ⟨(HOp4.out.gr HG1.out).keep hchg HAP4.out.1.2.2.1, (HOf4.out.gr HG1.out).keep hchg HAP4.out.1.2.2.2.2.1, hown, ((HAP4.out.gr HG1.out).rot.rot.put hchg (by simpa using hnew) (own_ltS hown (by decide))).rot, gr_step (HGw4.out.trans HG1.out) (Gr.refl _) hchg (fun g e => HOs4.out.ge e)⟩
        have hS5 : (fun y : World => y.cell? ⟨gq, oq + k, none⟩ = some (.string x)) w5 := hchg.cell (HG1.out.cell hS0) (fun e => by have := HOs4.out.ge e.symm; have := Hgq.out; simp at *; omega)
        have HFin := Lib.hid hFin
        clear hFin hown hchg hnew HG1 HOp4 HOf4 HOs4 HAP4 HGw4 hS0
        refine ⟨fun _ => hS5, ?_⟩
        try simp only [Act.put, List.setIfInBounds_toArray]
        refine u_take 14 (v := ?_) rfl rfl (by kernel_rfl) (by kernel_rfl) (by kernel_rfl) (by kernel_rfl) (fun _ _ _ h => h) (by rfl) (by assumption) ?_ ?_
        rotate_left
        · (intro w hSw; (try dsimp only at hSw); go_simp; try with_reducible rfl)
        try simp only [Act.put]
        refine u_done (by kernel_rfl) ?_ _
        go_wp2_with fail
        go_roundw
        case rel => exact ⟨k + 1, _, _, _, by omega, rfl, rfl, rfl, by go_num, HFin⟩
        case measure => simp [intOf]; omega
      · have t12 : decide (k < 12) = false := decide_eq_false h12
        have t12' : decide ((k : Int) < 12) = false := decide_eq_false (by omega)
        obtain rfl : k = min l.length 12 := by omega
        go_wp2_with fail
        refine bodyPost_ret (results_tmp3 rfl _ _ _) rfl ?_
        exact SmI.fin HI.out
    · have ht : decide (k < l.length) = false := decide_eq_false hlt
      have ht' : decide ((k : Int) < (l.length : Int)) = false := decide_eq_false (by omega)
      obtain rfl : k = min l.length 12 := by omega
      go_wp2_with fail
      refine bodyPost_ret (results_tmp3 rfl _ _ _) rfl ?_
      exact SmI.fin HI.out
end
section
open Go Go.RowKit Go.Shelf
attribute [local go_sem] gAt gUpon
attribute [local simp] Gr.refl Gr.alloc

def madL (l : List ByteArray) : List ByteArray := if l.length = 0 then [⟨#[120]⟩] else l
def madN (l : List ByteArray) : Nat := min (madL l).length 12
def madP (l : List ByteArray) : List ByteArray := somP (madN l)
def madF (l : List ByteArray) : List Int := somF (madL l) (madN l)
def madS (l : List ByteArray) : List ByteArray := somS (madL l) (madN l)
def madE (l : List ByteArray) : List En := entsD (madP l) (madF l) (madS l) (madN l)
def madI (n : Int) : Int := 1 + (pickD n 1000000 : Int)
theorem madN_pos (l : List ByteArray) : 1 ≤ madN l ∧ madN l ≤ 12 := by
  unfold madN madL
  split
  · simp
  · omega
theorem madP_len (l : List ByteArray) : (madP l).length = madN l := somP_len _
theorem madF_len (l : List ByteArray) : (madF l).length = madN l := somF_len _ _
theorem madS_len (l : List ByteArray) : (madS l).length = madN l := somS_len (Nat.min_le_left _ _)
theorem madE_len (l : List ByteArray) : (madE l).length = madN l := entsD_len _ _ _ _
theorem madI_ok (n : Int) : withinB (madI n) 1 1000000 = true := by
  have := pickD_lt n 1000000 (by decide)
  unfold madI
  exact withinB_iff.2 (by omega)
theorem path_good : ∀ i, i < 12 → goodB (pathOf i) = true := by decide +kernel
theorem path_lt : ∀ i, i < 11 → ltB (pathOf i) (pathOf (i + 1)) = true := by decide +kernel
theorem madE_at {l : List ByteArray} {i : Nat} (hi : i < madN l) : ∃ f s, (madE l)[i]? = some (mkEn (pathOf i) f s) ∧ 0 ≤ f ∧ f < 5 ∧ s.size ≤ 40 ∧ (madS l)[i]? = some s ∧ (madP l)[i]? = some (pathOf i) := by
  have hp : (madP l)[i]? = some (pathOf i) := by unfold madP somP; rw [List.getElem?_map, List.getElem?_range hi]; rfl
  obtain ⟨x, hx⟩ : ∃ x, (madL l)[i]? = some x := ⟨_, List.getElem?_eq_getElem (by have := Nat.min_le_left (madL l).length 12; unfold madN at hi; omega)⟩
  have hs : (madS l)[i]? = some (cutD x 40) := by unfold madS somS; rw [List.getElem?_map, List.getElem?_take_of_lt hi, hx]; rfl
  have hf : (madF l)[i]? = some (pickD ((x.size : Int) * 7 + (i : Int)) 5 : Int) := by
    unfold madF somF; rw [List.getElem?_map, List.getElem?_range hi]
    simp [List.getD_eq_getElem?_getD, hx]
  have hlt := pickD_lt ((x.size : Int) * 7 + (i : Int)) 5 (by decide)
  refine ⟨(pickD ((x.size : Int) * 7 + (i : Int)) 5 : Int), cutD x 40, ?_, by omega, by omega, by rw [cutD_size]; omega, hs, hp⟩
  unfold madE entsD
  rw [List.getElem?_map, List.getElem?_range hi]
  simp [List.getD_eq_getElem?_getD, hp, hf, hs]
theorem mad_valid (l : List ByteArray) (id ver : Int) : validD (madI id) (madI ver) (madE l) = true := by
  obtain ⟨h1, h2⟩ := madN_pos l
  unfold validD
  have hH : headB (madI id) (madI ver) ((madE l).length : Int) = true := by
    unfold headB
    rw [madI_ok, madI_ok, madE_len]
    simp only [Bool.true_and]
    exact withinB_iff.2 (by omega)
  have hE : (madE l).all entB = true := by
    rw [List.all_eq_true]
    intro x hx
    obtain ⟨i, hi⟩ := List.getElem?_of_mem hx
    have hi' := (List.getElem?_eq_some_iff.1 hi).1
    rw [madE_len] at hi'
    obtain ⟨f, s, he, hf0, hf5, hs, -, -⟩ := madE_at hi'
    rw [hi] at he
    injection he with he
    subst he
    unfold entB mkEn
    simp only
    rw [path_good i (by omega), sha_size]
    simp only [Bool.true_and, Bool.and_eq_true, decide_eq_true_eq]
    exact ⟨withinB_iff.2 (by omega), withinB_iff.2 (by omega), trivial⟩
  have hA : ascN (madE l) (madE l).length = true := by
    unfold ascN
    rw [List.all_eq_true]
    intro i hi
    have hi := List.mem_range.1 hi
    rw [madE_len] at hi
    obtain ⟨f, s, he, -⟩ := madE_at (l := l) (i := i) (by omega)
    obtain ⟨f', s', he', -⟩ := madE_at (l := l) (i := i + 1) (by omega)
    rw [getD_at he, getD_at he']
    exact path_lt i (by omega)
  rw [hH, hE, hA]; rfl
theorem mad_ok (l : List ByteArray) (id ver : Int) : mkOk (madI id) (madI ver) (madP l) (madF l) (madS l) = true := by
  unfold mkOk
  rw [madP_len, madF_len, madS_len, decide_eq_true rfl, Bool.true_and, Bool.true_and]
  exact mad_valid l id ver
theorem mad_sizes (l : List ByteArray) : (∀ x ∈ madP l, x.size ≤ 9223372036854775807) ∧ (∀ x ∈ madS l, x.size ≤ 40) ∧ (∀ x ∈ madP l, x.size = 3) := by
  have h3 : ∀ x ∈ madP l, x.size = 3 := by
    intro x hx
    unfold madP somP at hx
    obtain ⟨i, -, rfl⟩ := List.mem_map.1 hx
    rfl
  refine ⟨fun x hx => by rw [h3 x hx]; decide, fun x hx => ?_, h3⟩
  unfold madS somS at hx
  obtain ⟨y, -, rfl⟩ := List.mem_map.1 hx
  rw [cutD_size]; omega
/-- v is a slice of strings that came in and holds l -/
def StrsIn (v : Value) (l : List ByteArray) (w : World) : Prop := StrsAt v l w ∨ (l = [] ∧ ∃ p cap, v = .slice p 0 cap)
theorem StrsIn.gr {v : Value} {l : List ByteArray} {w x : World} (h : StrsIn v l w) (hg : Gr w x) : StrsIn v l x := by
  rcases h with h | h
  · exact .inl (h.gr hg)
  · exact .inr h
theorem StrsIn.shape {v : Value} {l : List ByteArray} {w : World} (h : StrsIn v l w) : ∃ p cap, v = .slice p l.length cap := by
  rcases h with h | ⟨rfl, p, cap, rfl⟩
  · exact h.shape
  · exact ⟨p, cap, rfl⟩
theorem StrsIn.strs {v : Value} {l : List ByteArray} {w : World} (h : StrsIn v l w) (hl : l.length ≠ 0) : StrsAt v l w := h.resolve_right (fun e => hl (by rw [e.1]; rfl))
theorem StrsIn.rws {v : Value} {l : List ByteArray} {w : World} (h : StrsIn v l w) : Rws 1 strC v l w := by
  rcases h with h | ⟨rfl, p, cap, rfl⟩
  · rcases h with ⟨rfl, rfl⟩ | ⟨g, off, cap, rfl, h1, -, h3⟩
    · exact .inl ⟨rfl, none, 0, rfl⟩
    · refine .inr ⟨g, off, cap, rfl, h1, fun i x j u hx hu => ?_⟩
      have hj : j = 0 := by
        have := (List.getElem?_eq_some_iff.1 hu).1
        simpa [strC] using this
      subst hj
      obtain rfl : Value.string x = u := by simpa [strC] using hu
      have := h3 i x hx
      rw [Nat.mul_one, Nat.add_zero]; exact this
  · exact .inl ⟨rfl, p, cap, rfl⟩
/-- what made gives -/
def MadRes (w : World) (l : List ByteArray) (id ver : Int) (e : Ending) (w' : World) : Prop :=
  ∃ v p s, e = .returned (.tuple #[.agg #[.int .i64 (madI id), .int .i64 (madI ver), v], p, s]) ∧ Own w.heap.size 4 v (madE l).length ((madE l).flatMap enC) w' ∧ OwnL w.heap.size (madP l) p w' ∧ OwnL w.heap.size (madS l) s w' ∧ Gr w w'
set_option maxRecDepth 100000 in
set_option maxHeartbeats 2000000 in
theorem made_any (v : Value) (l : List ByteArray) (id ver : Int) (w : World) (hv : StrsIn v l w) (hl : l.length ≤ 9223372036854775806) (hs : ∀ x ∈ l, x.size ≤ 140737488355000) (hi : I64 id) (hj : I64 ver) (hT : Tab w) :
    Calls Tryz.prog 17 #[v, .int .i64 id, .int .i64 ver] w (MadRes w l id ver) := by
  obtain ⟨q, c, rfl⟩ := hv.shape
  have HV := Lib.hid hv
  have HS := Lib.hid hs
  have HT := Lib.hid hT
  have HPa := Lib.hid (fun y => pick_any id 1000000 y hi (by decide) (by decide))
  have HPb := Lib.hid (fun y => pick_any ver 1000000 y hj (by decide) (by decide))
  have hrow := heap_alloc_new w (.cells #[.int .i64 0, .int .i64 0, .slice none 0 0] 24)
  obtain ⟨br, hbr⟩ : ∃ b, w.heap.size = b := ⟨_, rfl⟩
  rw [hbr] at hrow
  have HB0 := Lib.hid hrow
  have HG0 := Lib.hid (Gr.alloc w (.cells #[.int .i64 0, .int .i64 0, .slice none 0 0] 24))
  have Hbr := Lib.hid hbr
  clear hv hs hT hrow hi hj
  by_cases h0 : l.length = 0
  · have t0 : ((l.length : Int) == 0) = true := by rw [h0]; rfl
    have hL : madL l = [⟨#[120]⟩] := by unfold madL; rw [if_pos h0]
    have hSo := fun (y : World) => some_any (.slice (some ⟨y.heap.size, 0, none⟩) 1 1) [⟨#[120]⟩] (y.alloc (.cells #[.string ⟨#[120]⟩] 9)) ((strs_new y [⟨#[120]⟩] (by unfold maxLen; decide)).strs) (by decide) (by decide)
    have HSo : Hid (∀ y : World, Calls Tryz.prog 43 #[.slice (some ⟨y.heap.size, 0, none⟩) 1 1] (y.alloc (.cells #[.string ⟨#[120]⟩] 9)) fun e w' => ∃ p f s, e = .returned (.tuple #[p, f, s]) ∧ OwnL (y.alloc (.cells #[.string ⟨#[120]⟩] 9)).heap.size (madP l) p w' ∧ Rws 1 inC f (madF l) w' ∧ OwnL (y.alloc (.cells #[.string ⟨#[120]⟩] 9)).heap.size (madS l) s w' ∧ Gr (y.alloc (.cells #[.string ⟨#[120]⟩] 9)) w') := Lib.hid (by
      unfold madP madF madS madN; rw [hL]; exact hSo)
    clear hSo hL
    go_enter Tryz.func17, Tryz.ntmps17
    go_wp2_with fail
    have HG1 := Lib.hid (HG0.out.trans (Gr.alloc (w.alloc (.cells #[.int .i64 0, .int .i64 0, .slice none 0 0] 24)) (.cells #[.string ⟨#[120]⟩] 9)))
    have HB1 := Lib.hid ((Gr.alloc (w.alloc (.cells #[.int .i64 0, .int .i64 0, .slice none 0 0] 24)) (.cells #[.string ⟨#[120]⟩] 9)).block HB0.out)
    have hSo := HSo.out (w.alloc (.cells #[.int .i64 0, .int .i64 0, .slice none 0 0] 24))
    rw [World.size_alloc w, hbr] at hSo
    have HSo := Lib.hid hSo
    clear hbr hSo HG0 HB0
    generalize (w.alloc (.cells #[.int .i64 0, .int .i64 0, .slice none 0 0] 24)).alloc (.cells #[.string ⟨#[120]⟩] 9) = w1 at HG1 HB1 HSo ⊢
    refine HSo.out.mono ?_
    rintro e w2 ⟨p, f, s, rfl, hp, hf, hs2, hg2⟩
    have HG2 := Lib.hid (HG1.out.trans hg2)
    have hb1 : br + 1 ≤ w1.heap.size := (Array.getElem?_eq_some_iff.1 HB1.out).1
    have hb2 : br + 1 ≤ w2.heap.size := Nat.le_trans hb1 hg2.size
    have HPp := Lib.hid (hp.mono hb1)
    have HFf := Lib.hid hf
    have HSs := Lib.hid (hs2.mono hb1)
    have HB2 := Lib.hid (hg2.block HB1.out)
    clear hp hf hs2 hg2 HSo HB1 HG1
    go_wp2_with fail
    refine (HPa.out w2).mono ?_
    rintro e w3 ⟨rfl, rfl⟩
    go_wp2_with fail
    refine (HPb.out w2).mono ?_
    rintro e w3 ⟨rfl, rfl⟩
    obtain ⟨ia, hia⟩ : ∃ z : Int, madI id = z := ⟨_, rfl⟩
    obtain ⟨ib, hib⟩ : ∃ z : Int, madI ver = z := ⟨_, rfl⟩
    have HMk := Lib.hid (make_any (madI id) (madI ver) p f s (madP l) (madF l) (madS l) w2 HPp.out.strs HFf.out HSs.out.strs (by rw [madP_len]; have := (madN_pos l).2; omega) (by rw [madS_len]; have := (madN_pos l).2; omega) (mad_sizes l).1 (fun x hx => Nat.le_trans ((mad_sizes l).2.1 x hx) (by decide)) (HT.out.gr HG2.out))
    rw [mad_ok, madS_len] at HMk
    have HMk : Hid (Calls Tryz.prog 15 #[.int .i64 (madI id), .int .i64 (madI ver), p, f, s] w2 (MkRes w2 true (madI id) (madI ver) (madE l))) := HMk
    have HPd := Lib.hid (show (pickD id 1000000 : Int) + 1 = ia ∧ (pickD ver 1000000 : Int) + 1 = ib from ⟨by rw [← hia]; unfold madI; omega, by rw [← hib]; unfold madI; omega⟩)
    rw [hia, hib] at HMk
    have e1 : IntKind.i64.wrap (1 + (pickD id 1000000 : Int)) = ia := by rw [IntWalk.i64_in _ (by have := pickD_lt id 1000000 (by decide); omega)]; exact hia
    have e2 : IntKind.i64.wrap (1 + (pickD ver 1000000 : Int)) = ib := by rw [IntWalk.i64_in _ (by have := pickD_lt ver 1000000 (by decide); omega)]; exact hib
    have e1' : 1 + (pickD id 1000000 : Int) = ia := hia
    have e2' : 1 + (pickD ver 1000000 : Int) = ib := hib
    have e3 : wrap64 ia = ia := wrap64_in (by have := pickD_lt id 1000000 (by decide); omega) (by have := pickD_lt id 1000000 (by decide); omega)
    have e4 : wrap64 ib = ib := wrap64_in (by have := pickD_lt ver 1000000 (by decide); omega) (by have := pickD_lt ver 1000000 (by decide); omega)
    have Hres : Hid (∀ e w', (∃ v p s, e = Ending.returned (.tuple #[.agg #[.int .i64 ia, .int .i64 ib, v], p, s]) ∧ Own w.heap.size 4 v (madE l).length ((madE l).flatMap enC) w' ∧ OwnL w.heap.size (madP l) p w' ∧ OwnL w.heap.size (madS l) s w' ∧ Gr w w') → MadRes w l id ver e w') := Lib.hid (fun e w' h => by unfold MadRes; rw [hia, hib]; exact h)
    clear hia hib HPa HPb
    go_wp2_with fail
    refine HMk.out.mono ?_
    rintro e w4 ⟨vm, rfl, hO, hg4⟩
    rw [show mkI true ia = ia from rfl, show mkI true ib = ib from rfl, show mkE true = 0 from rfl]
    have hO : Own w2.heap.size 4 vm (madE l).length ((madE l).flatMap enC) w4 := hO
    obtain ⟨p4, c4, rfl⟩ := hO.slice
    have HG4 := Lib.hid (HG2.out.trans hg4)
    have HOv := Lib.hid (hO.mono hb2)
    have HPp4 := Lib.hid (HPp.out.gr hg4)
    have HSs4 := Lib.hid (HSs.out.gr hg4)
    have HB4 := Lib.hid (hg4.block HB2.out)
    clear hO hg4 HG2 HPp HFf HSs HB2 HMk e1 e2 e1' e2' e3 e4
    have HNg := Lib.hid (Gr.alloc w4 (.cells #[.int .i64 ia, .int .i64 ib, .slice p4 (madE l).length c4] 24))
    have HB5 := Lib.hid (HNg.out.block HB4.out)
    obtain ⟨m0, m1, m2⟩ := row3 HB5.out
    obtain ⟨f0, f1, f2⟩ := frozen3 HB5.out
    go_upto_region 5 with fail
    have hrow := heap_alloc_new w4 (.cells #[.int .i64 ia, .int .i64 ib, .slice p4 (madE l).length c4] 24)
    obtain ⟨bz, hbz⟩ : ∃ b, w4.heap.size = b := ⟨_, rfl⟩
    rw [hbz] at hrow
    simp only [hbz]
    have HG5 := Lib.hid (HG4.out.trans HNg.out)
    have HOv5 := Lib.hid (HOv.out.gr HNg.out)
    have HPp5 := Lib.hid (HPp4.out.gr HNg.out)
    have HSs5 := Lib.hid (HSs4.out.gr HNg.out)
    have HRz := Lib.hid hrow
    clear hrow hbz HNg HG4 HOv HPp4 HSs4 HB4
    generalize w4.alloc (.cells #[.int .i64 ia, .int .i64 ib, .slice p4 (madE l).length c4] 24) = w5 at *
    obtain ⟨z0, z1, z2⟩ := row3 HRz.out
    have hbw : br = w.heap.size := Hbr.out.symm
    have hch : Chg (some br) w5 (((w5.setCell ⟨br, 0, none⟩ (.int .i64 ia)).setCell ⟨br, 1, none⟩ (.int .i64 ib)).setCell ⟨br, 2, none⟩ (.slice p4 (madE l).length c4)) := setCells_chg br [.int .i64 ia, .int .i64 ib, .slice p4 (madE l).length c4] 0 w5
    have HRow := Lib.hid (row_set3 (a' := .int .i64 ia) (b' := .int .i64 ib) (c' := .slice p4 (madE l).length c4) HB5.out)
    have HGx := Lib.hid (gr_step HG5.out (Gr.refl _) hch (fun g e => by cases e; omega))
    have HCh := Lib.hid hch
    have HOx := Lib.hid ((HOv5.out.keep hch (.inr (fun e => by have := HOv5.out.ge e; omega))).mono (show w.heap.size ≤ br + 1 by omega))
    have HPx := Lib.hid ((Own.keep HPp5.out hch (.inr (fun e => by have := Own.ge HPp5.out e; omega))).mono (show w.heap.size ≤ br + 1 by omega))
    have HSx := Lib.hid ((Own.keep HSs5.out hch (.inr (fun e => by have := Own.ge HSs5.out e; omega))).mono (show w.heap.size ≤ br + 1 by omega))
    clear hch hbw hb1 hb2
    go_wp2_with fail
    clear m0 m1 m2 f0 f1 f2 z0 z1 z2
    obtain ⟨m0, m1, m2⟩ := row3 HRow.out
    refine bodyPost_ret (v := .tuple #[.agg #[.int .i64 ia, .int .i64 ib, .slice p4 (madE l).length c4], p, s]) ?_ rfl (Hres.out _ _ ⟨_, p, s, rfl, HOx.out, HPx.out, HSx.out, HGx.out⟩)
    simp [results, Tryz.results17, go_sem, m0, m1, m2]
  · have t0 : ((l.length : Int) == 0) = false := by rw [beq_eq_false_iff_ne]; omega
    have hL : madL l = l := by unfold madL; rw [if_neg h0]
    have hSo := fun y (hg : Gr w y) => some_any _ l y ((HV.out.strs h0).gr hg) hl HS.out
    have HSo : Hid (∀ y, Gr w y → Calls Tryz.prog 43 #[.slice q l.length c] y fun e w' => ∃ p f s, e = .returned (.tuple #[p, f, s]) ∧ OwnL y.heap.size (madP l) p w' ∧ Rws 1 inC f (madF l) w' ∧ OwnL y.heap.size (madS l) s w' ∧ Gr y w') := Lib.hid (by
      unfold madP madF madS madN; rw [hL]; exact hSo)
    clear hSo hL
    go_enter Tryz.func17, Tryz.ntmps17
    go_wp2_with fail
    have HG1 := HG0
    have HB1 := HB0
    clear hbr
    generalize w.alloc (.cells #[.int .i64 0, .int .i64 0, .slice none 0 0] 24) = w1 at HG1 HB1 ⊢
    have HSo := Lib.hid (HSo.out w1 HG1.out)
    clear HG0 HB0
    refine HSo.out.mono ?_
    rintro e w2 ⟨p, f, s, rfl, hp, hf, hs2, hg2⟩
    have HG2 := Lib.hid (HG1.out.trans hg2)
    have hb1 : br + 1 ≤ w1.heap.size := (Array.getElem?_eq_some_iff.1 HB1.out).1
    have hb2 : br + 1 ≤ w2.heap.size := Nat.le_trans hb1 hg2.size
    have HPp := Lib.hid (hp.mono hb1)
    have HFf := Lib.hid hf
    have HSs := Lib.hid (hs2.mono hb1)
    have HB2 := Lib.hid (hg2.block HB1.out)
    clear hp hf hs2 hg2 HSo HB1 HG1
    go_wp2_with fail
    refine (HPa.out w2).mono ?_
    rintro e w3 ⟨rfl, rfl⟩
    go_wp2_with fail
    refine (HPb.out w2).mono ?_
    rintro e w3 ⟨rfl, rfl⟩
    obtain ⟨ia, hia⟩ : ∃ z : Int, madI id = z := ⟨_, rfl⟩
    obtain ⟨ib, hib⟩ : ∃ z : Int, madI ver = z := ⟨_, rfl⟩
    have HMk := Lib.hid (make_any (madI id) (madI ver) p f s (madP l) (madF l) (madS l) w2 HPp.out.strs HFf.out HSs.out.strs (by rw [madP_len]; have := (madN_pos l).2; omega) (by rw [madS_len]; have := (madN_pos l).2; omega) (mad_sizes l).1 (fun x hx => Nat.le_trans ((mad_sizes l).2.1 x hx) (by decide)) (HT.out.gr HG2.out))
    rw [mad_ok, madS_len] at HMk
    have HMk : Hid (Calls Tryz.prog 15 #[.int .i64 (madI id), .int .i64 (madI ver), p, f, s] w2 (MkRes w2 true (madI id) (madI ver) (madE l))) := HMk
    have HPd := Lib.hid (show (pickD id 1000000 : Int) + 1 = ia ∧ (pickD ver 1000000 : Int) + 1 = ib from ⟨by rw [← hia]; unfold madI; omega, by rw [← hib]; unfold madI; omega⟩)
    rw [hia, hib] at HMk
    have e1 : IntKind.i64.wrap (1 + (pickD id 1000000 : Int)) = ia := by rw [IntWalk.i64_in _ (by have := pickD_lt id 1000000 (by decide); omega)]; exact hia
    have e2 : IntKind.i64.wrap (1 + (pickD ver 1000000 : Int)) = ib := by rw [IntWalk.i64_in _ (by have := pickD_lt ver 1000000 (by decide); omega)]; exact hib
    have e1' : 1 + (pickD id 1000000 : Int) = ia := hia
    have e2' : 1 + (pickD ver 1000000 : Int) = ib := hib
    have e3 : wrap64 ia = ia := wrap64_in (by have := pickD_lt id 1000000 (by decide); omega) (by have := pickD_lt id 1000000 (by decide); omega)
    have e4 : wrap64 ib = ib := wrap64_in (by have := pickD_lt ver 1000000 (by decide); omega) (by have := pickD_lt ver 1000000 (by decide); omega)
    have Hres : Hid (∀ e w', (∃ v p s, e = Ending.returned (.tuple #[.agg #[.int .i64 ia, .int .i64 ib, v], p, s]) ∧ Own w.heap.size 4 v (madE l).length ((madE l).flatMap enC) w' ∧ OwnL w.heap.size (madP l) p w' ∧ OwnL w.heap.size (madS l) s w' ∧ Gr w w') → MadRes w l id ver e w') := Lib.hid (fun e w' h => by unfold MadRes; rw [hia, hib]; exact h)
    clear hia hib HPa HPb
    go_wp2_with fail
    refine HMk.out.mono ?_
    rintro e w4 ⟨vm, rfl, hO, hg4⟩
    rw [show mkI true ia = ia from rfl, show mkI true ib = ib from rfl, show mkE true = 0 from rfl]
    have hO : Own w2.heap.size 4 vm (madE l).length ((madE l).flatMap enC) w4 := hO
    obtain ⟨p4, c4, rfl⟩ := hO.slice
    have HG4 := Lib.hid (HG2.out.trans hg4)
    have HOv := Lib.hid (hO.mono hb2)
    have HPp4 := Lib.hid (HPp.out.gr hg4)
    have HSs4 := Lib.hid (HSs.out.gr hg4)
    have HB4 := Lib.hid (hg4.block HB2.out)
    clear hO hg4 HG2 HPp HFf HSs HB2 HMk e1 e2 e1' e2' e3 e4
    have HNg := Lib.hid (Gr.alloc w4 (.cells #[.int .i64 ia, .int .i64 ib, .slice p4 (madE l).length c4] 24))
    have HB5 := Lib.hid (HNg.out.block HB4.out)
    obtain ⟨m0, m1, m2⟩ := row3 HB5.out
    obtain ⟨f0, f1, f2⟩ := frozen3 HB5.out
    go_upto_region 5 with fail
    have hrow := heap_alloc_new w4 (.cells #[.int .i64 ia, .int .i64 ib, .slice p4 (madE l).length c4] 24)
    obtain ⟨bz, hbz⟩ : ∃ b, w4.heap.size = b := ⟨_, rfl⟩
    rw [hbz] at hrow
    simp only [hbz]
    have HG5 := Lib.hid (HG4.out.trans HNg.out)
    have HOv5 := Lib.hid (HOv.out.gr HNg.out)
    have HPp5 := Lib.hid (HPp4.out.gr HNg.out)
    have HSs5 := Lib.hid (HSs4.out.gr HNg.out)
    have HRz := Lib.hid hrow
    clear hrow hbz HNg HG4 HOv HPp4 HSs4 HB4
    generalize w4.alloc (.cells #[.int .i64 ia, .int .i64 ib, .slice p4 (madE l).length c4] 24) = w5 at *
    obtain ⟨z0, z1, z2⟩ := row3 HRz.out
    have hbw : br = w.heap.size := Hbr.out.symm
    have hch : Chg (some br) w5 (((w5.setCell ⟨br, 0, none⟩ (.int .i64 ia)).setCell ⟨br, 1, none⟩ (.int .i64 ib)).setCell ⟨br, 2, none⟩ (.slice p4 (madE l).length c4)) := setCells_chg br [.int .i64 ia, .int .i64 ib, .slice p4 (madE l).length c4] 0 w5
    have HRow := Lib.hid (row_set3 (a' := .int .i64 ia) (b' := .int .i64 ib) (c' := .slice p4 (madE l).length c4) HB5.out)
    have HGx := Lib.hid (gr_step HG5.out (Gr.refl _) hch (fun g e => by cases e; omega))
    have HCh := Lib.hid hch
    have HOx := Lib.hid ((HOv5.out.keep hch (.inr (fun e => by have := HOv5.out.ge e; omega))).mono (show w.heap.size ≤ br + 1 by omega))
    have HPx := Lib.hid ((Own.keep HPp5.out hch (.inr (fun e => by have := Own.ge HPp5.out e; omega))).mono (show w.heap.size ≤ br + 1 by omega))
    have HSx := Lib.hid ((Own.keep HSs5.out hch (.inr (fun e => by have := Own.ge HSs5.out e; omega))).mono (show w.heap.size ≤ br + 1 by omega))
    clear hch hbw hb1 hb2
    go_wp2_with fail
    clear m0 m1 m2 f0 f1 f2 z0 z1 z2
    obtain ⟨m0, m1, m2⟩ := row3 HRow.out
    refine bodyPost_ret (v := .tuple #[.agg #[.int .i64 ia, .int .i64 ib, .slice p4 (madE l).length c4], p, s]) ?_ rfl (Hres.out _ _ ⟨_, p, s, rfl, HOx.out, HPx.out, HSx.out, HGx.out⟩)
    simp [results, Tryz.results17, go_sem, m0, m1, m2]
end
section
open Go Go.RowKit Go.Shelf
attribute [local go_sem] gAt gUpon
attribute [local simp] Gr.refl Gr.alloc

def cutEn (x : En) : En := ⟨cutD x.path 70, x.fmt, x.len, cutD x.dig 40⟩
set_option maxRecDepth 100000 in
theorem entry_any (x : En) (w : World) (h1 : x.path.size ≤ 9223372036854775807) (h2 : x.dig.size ≤ 9223372036854775807) :
    Calls Tryz.prog 20 #[.agg #[.string x.path, .int .i64 x.fmt, .int .i64 x.len, .string x.dig]] w fun e w' => e = .returned (.agg (enC (cutEn x)).toArray) ∧ Gr w w' := by
  obtain ⟨pa, f, n, d⟩ := x
  simp only at h1 h2 ⊢
  have hm1 : min (pa.size : Int) 70 = ((min pa.size 70 : Nat) : Int) := by omega
  have hm2 : min (d.size : Int) 40 = ((min d.size 40 : Nat) : Int) := by omega
  have hm3 : min pa.size 70 ≤ pa.size := Nat.min_le_left _ _
  have hm4 : min d.size 40 ≤ d.size := Nat.min_le_left _ _
  go_enter Tryz.func20, Tryz.ntmps20
  go_upto_region 1 with fail
  refine wp_gen (F := fun z => Gr w z ∧ z.heap[w.heap.size]? = some (.cells #[.string pa, .int .i64 f, .int .i64 n, .string d] 28 (0, 0)) ∧ z.heap[w.heap.size + 1]? = some (.cells #[.string ⟨#[]⟩, .int .i64 0, .int .i64 0, .string ⟨#[]⟩] 28 (0, 0))) ⟨(Gr.alloc _ _).trans (Gr.alloc _ _), (Gr.alloc _ _).block (heap_alloc_new _ _), by
    have h := heap_alloc_new (w.alloc (.cells #[.string pa, .int .i64 f, .int .i64 n, .string d] 28)) (.cells #[.string ⟨#[]⟩, .int .i64 0, .int .i64 0, .string ⟨#[]⟩] 28)
    simpa using h⟩ ?_
  rintro wA ⟨hgA, hrA, hrB⟩
  have HGA := Lib.hid hgA
  have HRA := Lib.hid hrA
  have HRB := Lib.hid hrB
  clear hgA hrA hrB
  obtain ⟨bx, hbx⟩ : ∃ b, w.heap.size = b := ⟨_, rfl⟩
  have Hbx := Lib.hid hbx
  rw [hbx] at HRA HRB ⊢
  clear hbx
  obtain ⟨a0, a1, a2, a3⟩ := row4 HRA.out
  obtain ⟨f0, f1, f2, f3⟩ := frozen4 HRA.out
  go_upto_region 2 with fail
  refine wp_gen (F := fun z => Chg (some bx) wA z ∧ z.heap[bx]? = some (.cells #[.string (cutD pa 70), .int .i64 f, .int .i64 n, .string d] 28 (0, 0))) ⟨setCells_chg bx [.string (cutD pa 70)] 0 wA, by
    rw [heap_setCell_same wA bx 0 _ _ _ HRA.out]; rfl⟩ ?_
  rintro wB ⟨hcB, hrB⟩
  have HRA2 := Lib.hid hrB
  have HG2 : Hid (Gr w wB) := Lib.hid (gr_step HGA.out (Gr.refl _) hcB (fun g e => by cases e; have := Hbx.out; omega))
  have HRB2 := Lib.hid (hcB.block HRB.out (by simp))
  clear hcB hrB a0 a1 a2 a3 f0 f1 f2 f3 HRA HRB HGA
  obtain ⟨a0, a1, a2, a3⟩ := row4 HRA2.out
  obtain ⟨f0, f1, f2, f3⟩ := frozen4 HRA2.out
  go_upto_region 3 with fail
  refine wp_gen (F := fun z => Chg (some bx) wB z ∧ z.heap[bx]? = some (.cells #[.string (cutD pa 70), .int .i64 f, .int .i64 n, .string (cutD d 40)] 28 (0, 0))) ⟨setCells_chg bx [.string (cutD d 40)] 3 wB, by
    rw [heap_setCell_same wB bx 3 _ _ _ HRA2.out]; rfl⟩ ?_
  rintro wC ⟨hcB, hrB⟩
  have HRA3 := Lib.hid hrB
  have HG3 : Hid (Gr w wC) := Lib.hid (gr_step HG2.out (Gr.refl _) hcB (fun g e => by cases e; have := Hbx.out; omega))
  have HRB3 := Lib.hid (hcB.block HRB2.out (by simp))
  clear hcB hrB a0 a1 a2 a3 f0 f1 f2 f3 HRA2 HRB2 HG2
  obtain ⟨a0, a1, a2, a3⟩ := row4 HRA3.out
  obtain ⟨b0, b1, b2, b3⟩ := row4 HRB3.out
  obtain ⟨f0, f1, f2, f3⟩ := frozen4 HRB3.out
  have hrow := Lib.hid (row_set4 (a' := .string (cutD pa 70)) (b' := .int .i64 f) (c' := .int .i64 n) (d' := .string (cutD d 40)) HRB3.out)
  have hch : Chg (some (bx + 1)) wC ((((wC.setCell ⟨bx + 1, 0, none⟩ (.string (cutD pa 70))).setCell ⟨bx + 1, 1, none⟩ (.int .i64 f)).setCell ⟨bx + 1, 2, none⟩ (.int .i64 n)).setCell ⟨bx + 1, 3, none⟩ (.string (cutD d 40))) := setCells_chg (bx + 1) [.string (cutD pa 70), .int .i64 f, .int .i64 n, .string (cutD d 40)] 0 wC
  have HGx := Lib.hid (gr_step HG3.out (Gr.refl _) hch (fun g e => by cases e; have := Hbx.out; omega))
  clear hch
  go_wp2_with fail
  refine bodyPost_ret (results_cell_row rfl _ _ (bx + 1) 28 _ (0, 0) _ rfl hrow.out Tryz.underlying28 rfl (by kernel_rfl)) rfl ?_
  exact ⟨rfl, HGx.out⟩
end
section
open Go Go.RowKit Go.Shelf
attribute [local go_sem] gAt gUpon
attribute [local simp] Gr.refl Gr.alloc

def fewL (l : List En) : List En := (l.take 66).map cutEn
def fewK (l : List En) (k : Nat) : List En := (l.take k).map cutEn
theorem fewK_step {l : List En} {k : Nat} {x : En} (h : l[k]? = some x) : (fewK l (k + 1)).flatMap enC = (fewK l k).flatMap enC ++ enC (cutEn x) := by
  unfold fewK
  rw [List.take_add_one, h, Option.toList_some, List.map_append, List.flatMap_append]
  simp
set_option maxRecDepth 100000 in
set_option maxHeartbeats 1000000 in
theorem few_any (id ver : Int) (v : Value) (l : List En) (w : World) (hv : Rws 4 enC v l w) (hp : ∀ x ∈ l, x.path.size ≤ 9223372036854775807 ∧ x.dig.size ≤ 9223372036854775807) :
    Calls Tryz.prog 19 #[.agg #[.int .i64 id, .int .i64 ver, v]] w fun e w' => ∃ u, e = .returned (.agg #[.int .i64 id, .int .i64 ver, u]) ∧ Own w.heap.size 4 u (fewL l).length ((fewL l).flatMap enC) w' ∧ Gr w w' := by
  obtain ⟨iE, hiE, hzE, hszE, hbE⟩ := info_parts infoEn
  have HI := Lib.hid hiE
  have HI0 := Lib.hid hzE
  have HI1 := Lib.hid hszE
  have HI2 := Lib.hid hbE
  obtain ⟨p, c, rfl⟩ := hv.shape
  have HV := Lib.hid hv
  have HP := Lib.hid hp
  clear hiE hzE hszE hbE hv hp
  go_enter Tryz.func19, Tryz.ntmps19
  go_upto_region 1 with fail
  refine wp_gen (F := fun z => Gr w z ∧ z.heap[w.heap.size]? = some (.cells #[.int .i64 id, .int .i64 ver, .slice p l.length c] 24 (0, 0)) ∧ z.heap[w.heap.size + 1]? = some (.cells #[.int .i64 0, .int .i64 0, .slice none 0 0] 24 (0, 0)) ∧ w.heap.size + 2 = z.heap.size) ⟨(Gr.alloc _ _).trans (Gr.alloc _ _), (Gr.alloc _ _).block (heap_alloc_new _ _), by
    have h := heap_alloc_new (w.alloc (.cells #[.int .i64 id, .int .i64 ver, .slice p l.length c] 24)) (.cells #[.int .i64 0, .int .i64 0, .slice none 0 0] 24)
    simpa using h, by simp⟩ ?_
  rintro wA ⟨hgA, hr0, hrA, hsz⟩
  obtain ⟨k0, k1, k2⟩ := row3 hr0
  have HR0 := Lib.hid hr0
  have HRA := Lib.hid hrA
  have HGA := Lib.hid hgA
  have HSZ := Lib.hid hsz
  clear hr0 hrA hgA hsz
  go_upto_region 2 with fail
  refine wp_gen (F := fun z => Gr wA z ∧ z.heap[wA.heap.size]? = some (.cells #[.int .i64 id, .int .i64 ver, .slice none 0 0] 24 (0, 0)) ∧ wA.heap.size + 1 ≤ z.heap.size) ⟨Gr.alloc _ _, heap_alloc_new _ _, by simp⟩ ?_
  rintro wC ⟨hgC, hrC, hszC⟩
  clear k0 k1 k2
  replace HR0 := Lib.hid (hgC.block HR0.out)
  replace HRA := Lib.hid (hgC.block HRA.out)
  have HRB := Lib.hid hrC
  replace HGA : Hid (Gr w wC) := Lib.hid (HGA.out.trans hgC)
  obtain ⟨bp, hbp⟩ : ∃ b, wA.heap.size = b := ⟨_, rfl⟩
  obtain ⟨br, hbr⟩ : ∃ b, w.heap.size + 1 = b := ⟨_, rfl⟩
  obtain ⟨b0, hb0⟩ : ∃ b, w.heap.size = b := ⟨_, rfl⟩
  have Hbp : Hid (bp = b0 + 2 ∧ br = b0 + 1 ∧ w.heap.size = b0) := Lib.hid ⟨by have := HSZ.out; omega, by omega, hb0⟩
  replace HSZ : Hid (b0 + 3 ≤ wC.heap.size) := Lib.hid (by have := HSZ.out; omega)
  rw [hbp] at HRB ⊢
  rw [hbr] at HRA ⊢
  rw [hb0] at HR0 ⊢
  clear hbp hbr hb0 hgC hrC hszC
  go_wp2_with fail
  go_loopw [4] (fun v4 W => ∃ (k : Nat) (V : Value), k ≤ l.length ∧ k ≤ 66 ∧ v4 = .int .i64 (k : Int) ∧ Hid (Gr w W) ∧ Hid (b0 + 3 ≤ W.heap.size) ∧ Hid (W.heap[b0]? = some (.cells #[.int .i64 id, .int .i64 ver, .slice p l.length c] 24 (0, 0))) ∧ Hid (W.heap[br]? = some (.cells #[.int .i64 0, .int .i64 0, .slice none 0 0] 24 (0, 0))) ∧ Hid (W.heap[bp]? = some (.cells #[.int .i64 id, .int .i64 ver, V] 24 (0, 0))) ∧ Hid (Own (b0 + 3) 4 V k ((fewK l k).flatMap enC) W)) (fun v4 _ => l.length - (intOf v4).toNat)
  case atStart => exact ⟨0, _, Nat.zero_le _, Nat.zero_le _, rfl, HGA, HSZ, HR0, HRA, HRB, Lib.hid (Own.nil _ _ _)⟩
  clear HR0 HRA HRB HGA HSZ
  case round =>
    obtain ⟨k, V, hk, hk66, rfl, HG, HZ, HR0, HRA, HRB, HO⟩ := hrel
    obtain ⟨-, -, n2⟩ := row3 HR0.out
    by_cases hgo : k < l.length ∧ k < 66
    · obtain ⟨hlt, h66⟩ := hgo
      have ht : decide (k < l.length) = true := decide_eq_true hlt
      have ht' : decide ((k : Int) < (l.length : Int)) = true := decide_eq_true (by omega)
      have ht2 : decide (k < 66) = true := decide_eq_true h66
      have ht2' : decide ((k : Int) < 66) = true := decide_eq_true (by omega)
      obtain ⟨x, hx⟩ : ∃ x, l[k]? = some x := ⟨_, List.getElem?_eq_getElem hlt⟩
      have HSt := Lib.hid (fewK_step hx)
      have hpx := HP.out x (List.mem_of_getElem? hx)
      have HEn := Lib.hid (fun y => entry_any x y hpx.1 hpx.2)
      obtain ⟨g, off, rfl, hlc, hc⟩ := (HV.out.gr HG.out).at_ hx
      have y0 := hc 0 _ rfl
      have y1 := hc 1 _ rfl
      have y2 := hc 2 _ rfl
      have y3 := hc 3 _ rfl
      rw [Nat.add_zero] at y0
      rw [← Nat.add_assoc] at y1 y2 y3
      obtain ⟨xp, xf, xn, xd⟩ := x
      simp only at y0 y1 y2 y3 HEn
      have i0 : (0 : Int) ≤ (k : Int) := by omega
      have i1 : (k : Int) < (l.length : Int) := by omega
      obtain ⟨m0, m1, m2⟩ := row3 HRB.out
      have S0 : ∀ q : GrS wr.drew, q.w.cell? ⟨bp, 2, none⟩ = some V := fun q => q.h.cell (w := wr.drew) m2
      have S1 : ∀ q : GrS wr.drew, q.w.cell? ⟨b0, 2, none⟩ = some (.slice (some ⟨g, off, none⟩) l.length c) := fun q => q.h.cell (w := wr.drew) n2
      have S2 : ∀ q : GrS wr.drew, q.w.cell? ⟨g, off + k * 4, none⟩ = some (.string xp) := fun q => q.h.cell (w := wr.drew) y0
      have S3 : ∀ q : GrS wr.drew, q.w.cell? ⟨g, off + k * 4 + 1, none⟩ = some (.int .i64 xf) := fun q => q.h.cell (w := wr.drew) y1
      have S4 : ∀ q : GrS wr.drew, q.w.cell? ⟨g, off + k * 4 + 2, none⟩ = some (.int .i64 xn) := fun q => q.h.cell (w := wr.drew) y2
      have S5 : ∀ q : GrS wr.drew, q.w.cell? ⟨g, off + k * 4 + 3, none⟩ = some (.string xd) := fun q => q.h.cell (w := wr.drew) y3
      clear hc hx m0 m1 m2 y0 y1 y2 y3 hpx
      go_upto_region 5 with fail
      clear n2
      refine region_grow 9 33 (by kernel_rfl) rfl (by kernel_rfl) rfl rfl ?_
      simp only [List.take_succ_cons, List.take_zero, List.drop_succ_cons, List.drop_zero]
      refine seg 7 rfl rfl rfl rfl ?_
      simp only [List.take_succ_cons, List.take_zero, List.drop_succ_cons, List.drop_zero]
      repeat (go_big_quiet_step (fail))
      refine wpQuiet_nil ?_
      intro _
      refine grow_det (v := .agg #[.string (cutD xp 70), .int .i64 xf, .int .i64 xn, .string (cutD xd 40)]) rfl rfl rfl rfl rfl ?_ ?_
      · intro w1 hG
        go_simp
        refine (HEn.out w1).mono ?_
        rintro e w' ⟨rfl, hb⟩
        exact ⟨rfl, hb⟩
      simp only [Act.put, List.setIfInBounds_toArray, List.set_cons_zero, List.set_cons_succ]
      refine grow_open (NewEl [.string (cutD xp 70), .int .i64 xf, .int .i64 xn, .string (cutD xd 40)] 28) rfl rfl rfl rfl (stb_el _ _) (fun wX hG => ?_) ?_
      · go_simp
        exact newEl_alloc _ [.string (cutD xp 70), .int .i64 xf, .int .i64 xn, .string (cutD xd 40)] _
      refine grow_end1 rfl rfl (by decide) (fun w2 u hG hu => ?_)
      obtain ⟨bn, rfl, hbn⟩ := hu
      simp only [Act.put, List.setIfInBounds_toArray, List.set_cons_zero, List.set_cons_succ]
      have HG2 := Lib.hid ((Gr.drew wr).trans hG)
      have HBn := Lib.hid hbn
      clear hG S0 S1 S2 S3 S4 S5 HEn hbn
      have HO2 := Lib.hid (HO.out.gr HG2.out)
      have hsz2 : b0 + 3 ≤ w2.heap.size := by
        have := HZ.out; have := HG2.out.size; omega
      go_wp2_with ((with_reducible show wpList _ _ _ (⟨some 30, _, _, _, _, _⟩ :: _) _ _); refine wpList_append_Own rfl (.tmp 22) (.tmp 29) 22 rfl 28 iE (.agg #[.string ⟨#[]⟩, .int .i64 0, .int .i64 0, .string ⟨#[]⟩]) 4 48 Tryz.underlying22 HI.out HI0.out HI1.out HI2.out rfl (by decide) rfl HO2.out ⟨bn, 0, none⟩ 1 1 [.string (cutD xp 70), .int .i64 xf, .int .i64 xn, .string (cutD xd 40)] rfl rfl (row_at HBn.out) (enC_one (cutEn ⟨xp, xf, xn, xd⟩)) (by decide) ?b1 ?b2 hsz2 ?_)
      case b1 => unfold maxLen; omega
      case b2 => omega
      intro v9 w9 hown hchg _
      replace hown : Own (b0 + 3) 4 v9 (k + 1) ((fewK l k).flatMap enC ++ enC (cutEn ⟨xp, xf, xn, xd⟩)) w9 := hown
      rw [← HSt.out] at hown
      obtain ⟨p9, c9, rfl⟩ := hown.slice
      have hz9 : b0 + 3 ≤ w9.heap.size := Nat.le_trans hsz2 hchg.size
      have hne9 : ∀ b, b < b0 + 3 → some b ≠ V.ownBlock := fun b hb e => by have := HO2.out.ge e.symm; omega
      have HR09 := Lib.hid (hchg.block (HG2.out.block HR0.out) (hne9 b0 (by omega)))
      have HRA9 := Lib.hid (hchg.block (HG2.out.block HRA.out) (hne9 br (by have := Hbp.out; omega)))
      have HRB9 := Lib.hid (hchg.block (HG2.out.block HRB.out) (hne9 bp (by have := Hbp.out; omega)))
      have HG9 : Hid (Gr w w9) := Lib.hid (gr_step (HG.out.trans HG2.out) (Gr.refl _) hchg (fun g hg => by have := HO2.out.ge hg; have := Hbp.out; omega))
      have HO9 := Lib.hid hown
      have HZ9 := Lib.hid hz9
      clear hown hchg hz9 hne9 hsz2 HO2 HO HR0 HRA HRB HG HG2 HZ HSt HBn
      obtain ⟨m0, m1, m2⟩ := row3 HRB9.out
      obtain ⟨f0, f1, f2⟩ := frozen3 HRB9.out
      have HCh : Hid (Chg (some bp) w9 (w9.setCell ⟨bp, 2, none⟩ (.slice p9 (k + 1) c9))) := Lib.hid (setCells_chg bp [.slice p9 (k + 1) c9] 2 w9)
      have HRBx : Hid ((w9.setCell ⟨bp, 2, none⟩ (.slice p9 (k + 1) c9)).heap[bp]? = some (.cells #[.int .i64 id, .int .i64 ver, .slice p9 (k + 1) c9] 24 (0, 0))) := Lib.hid (by
        rw [heap_setCell_same w9 bp 2 _ _ (.slice p9 (k + 1) c9) HRB9.out]; rfl)
      have HR0x := Lib.hid (HCh.out.block HR09.out (by have := Hbp.out; simp; omega))
      have HRAx := Lib.hid (HCh.out.block HRA9.out (by have := Hbp.out; simp; omega))
      have HGx : Hid (Gr w (w9.setCell ⟨bp, 2, none⟩ (.slice p9 (k + 1) c9))) := Lib.hid (gr_step HG9.out (Gr.refl _) HCh.out (fun g e => by cases e; have := Hbp.out; omega))
      have HOx := Lib.hid (HO9.out.keep HCh.out (.inr (fun e => by have := HO9.out.ge e; have := Hbp.out; omega)))
      have HZx : Hid (b0 + 3 ≤ (w9.setCell ⟨bp, 2, none⟩ (.slice p9 (k + 1) c9)).heap.size) := Lib.hid (Nat.le_trans HZ9.out HCh.out.size)
      clear HCh HR09 HRA9 HRB9 HG9 HO9 HZ9
      go_wp2_with fail
      go_roundw
      case rel => exact ⟨k + 1, _, by omega, by omega, by go_num, HGx, HZx, HR0x, HRAx, HRBx, HOx⟩
      case measure => simp [intOf]; omega
    · have HEq : Hid (fewK l k = fewL l) := Lib.hid (by
        unfold fewK fewL
        rcases Nat.lt_or_ge k l.length with h | h
        · rw [show k = 66 by omega]
        · rw [List.take_of_length_le h, List.take_of_length_le (by omega)])
      have HLk : Hid ((fewK l k).length = k) := Lib.hid (by unfold fewK; rw [List.length_map, List.length_take]; omega)
      obtain ⟨p9, c9, rfl⟩ := HO.out.slice
      obtain ⟨q0, q1, q2⟩ := row3 HRB.out
      obtain ⟨k0, k1, k2⟩ := row3 HRA.out
      obtain ⟨f0, f1, f2⟩ := frozen3 HRA.out
      have hch : Chg (some br) wr (((wr.setCell ⟨br, 0, none⟩ (.int .i64 id)).setCell ⟨br, 1, none⟩ (.int .i64 ver)).setCell ⟨br, 2, none⟩ (.slice p9 k c9)) := setCells_chg br [.int .i64 id, .int .i64 ver, .slice p9 k c9] 0 wr
      have HRow := Lib.hid (row_set3 (a' := .int .i64 id) (b' := .int .i64 ver) (c' := .slice p9 k c9) HRA.out)
      have HGx : Hid (Gr w (((wr.setCell ⟨br, 0, none⟩ (.int .i64 id)).setCell ⟨br, 1, none⟩ (.int .i64 ver)).setCell ⟨br, 2, none⟩ (.slice p9 k c9))) := Lib.hid (gr_step HG.out (Gr.refl _) hch (fun g e => by cases e; have := Hbp.out; omega))
      have HOx : Hid (Own w.heap.size 4 (.slice p9 k c9) (fewL l).length ((fewL l).flatMap enC) (((wr.setCell ⟨br, 0, none⟩ (.int .i64 id)).setCell ⟨br, 1, none⟩ (.int .i64 ver)).setCell ⟨br, 2, none⟩ (.slice p9 k c9))) := Lib.hid (by
        rw [← HEq.out, HLk.out]
        exact (HO.out.keep hch (.inr (fun e => by have := HO.out.ge e; have := Hbp.out; omega))).mono (by have := Hbp.out; omega))
      clear hch HO HEq HLk
      by_cases hlt : k < l.length
      · have ht : decide (k < l.length) = true := decide_eq_true hlt
        have ht' : decide ((k : Int) < (l.length : Int)) = true := decide_eq_true (by omega)
        have ht2 : decide (k < 66) = false := decide_eq_false (by omega)
        have ht2' : decide ((k : Int) < 66) = false := decide_eq_false (by omega)
        go_wp2_with fail
        refine bodyPost_ret (results_cell_row rfl _ _ br 24 _ (0, 0) _ rfl HRow.out Tryz.underlying24 rfl (by kernel_rfl)) rfl ?_
        exact ⟨_, rfl, HOx.out, HGx.out⟩
      · have ht : decide (k < l.length) = false := decide_eq_false hlt
        have ht' : decide ((k : Int) < (l.length : Int)) = false := decide_eq_false (by omega)
        go_wp2_with fail
        refine bodyPost_ret (results_cell_row rfl _ _ br 24 _ (0, 0) _ rfl HRow.out Tryz.underlying24 rfl (by kernel_rfl)) rfl ?_
        exact ⟨_, rfl, HOx.out, HGx.out⟩
end
end Go.Proofs.YtjnnhhengpinmaaGreatDoor
