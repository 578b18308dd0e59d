/- The contract of the reference's Some. -/
import Derived.Test.YtaoggehdkddgeaaGreatDoorNL
import Derived.Test.YtaoggehdkddgeaaGreatDoorGNN
import Derived.Test.YtaoggehdkddgeaaGreatDoorNC
import Derived.Test.YtaoggehdkddgeaaGreatDoorGEnA
namespace Go.Proofs.YtaoggehdkddgeaaGreatDoor
section
open Go Go.RowKit Go.Shelf
attribute [local go_sem] gAt gUpon pUpon
attribute [local simp] Gr.refl Gr.alloc

def Ap (u v : Value) : Prop := u.ownBlock = none ∨ u.ownBlock ≠ v.ownBlock
def Lt (u : Value) (W : World) : Prop := ∀ g, u.ownBlock = some g → g < W.heap.size
theorem Lt.chg {u : Value} {W X : World} {b : Option Nat} (h : Lt u W) (hc : Chg b W X) : Lt u X := fun g e => Nat.lt_of_lt_of_le (h g e) hc.size
theorem Ap.new {u v v' : Value} {W : World} (ha : Ap u v) (hl : Lt u W) (hn : ∀ g, v'.ownBlock = some g → v.ownBlock = some g ∨ W.heap.size ≤ g) : Ap u v' := by
  rcases ha with h | h
  · exact .inl h
  · by_cases h0 : u.ownBlock = none
    · exact .inl h0
    · refine .inr (fun e => ?_)
      obtain ⟨g, hg⟩ := Option.ne_none_iff_exists'.1 h0
      rcases hn g (by rw [← e, hg]) with h1 | h1
      · exact h (by rw [hg, h1])
      · have := hl g hg; omega
theorem Ap.new' {u v v' : Value} {W : World} (ha : Ap v u) (hl : Lt u W) (hn : ∀ g, v'.ownBlock = some g → v.ownBlock = some g ∨ W.heap.size ≤ g) : Ap v' u := by
  by_cases h0 : v'.ownBlock = none
  · exact .inl h0
  · refine .inr (fun e => ?_)
    obtain ⟨g, hg⟩ := Option.ne_none_iff_exists'.1 h0
    rcases hn g hg with h1 | h1
    · rcases ha with h | h
      · rw [h1] at h; cases h
      · exact h (by rw [h1, ← e, hg])
    · have := hl g (by rw [← e, hg]); omega
theorem own_ltS {B s n : Nat} {v : Value} {xs : List Value} {w : World} (h : Own B s v (n + 1) xs w) (hs : 0 < s) : Lt v w := by
  intro g e
  rcases h.2 with ⟨_, h0⟩ | ⟨g', off, cap, rfl, _, hn, _, _, hw⟩
  · omega
  · simp [Value.ownBlock] at e
    subst e
    have h1 : 0 < cap * s := Nat.mul_pos (by omega) hs
    exact isSome_lt (hw 0 h1).1
def pathOf (i : Nat) : ByteArray := ⟨#[UInt8.ofNat (97 + i / 3), 47, UInt8.ofNat (48 + i)]⟩
def somP (k : Nat) : List ByteArray := (List.range k).map pathOf
def somF (l : List ByteArray) (k : Nat) : List Int := (List.range k).map fun i => (pickD (((l.getD i ⟨#[]⟩).size : Int) * 7 + (i : Int)) 5 : Int)
def somS (l : List ByteArray) (k : Nat) : List ByteArray := (l.take k).map fun s => cutD s 40
theorem somP_step (k : Nat) : sC (somP (k + 1)) = sC (somP k) ++ [.string (pathOf k)] := by unfold somP sC; rw [List.range_succ]; simp
theorem somF_step {l : List ByteArray} {k : Nat} {x : ByteArray} (h : l[k]? = some x) : (somF l (k + 1)).flatMap inC = (somF l k).flatMap inC ++ [.int .i64 (pickD ((x.size : Int) * 7 + (k : Int)) 5 : Int)] := by
  unfold somF; rw [List.range_succ, List.map_append, List.flatMap_append]
  simp [inC, List.getD_eq_getElem?_getD, h]
theorem somS_step {l : List ByteArray} {k : Nat} {x : ByteArray} (h : l[k]? = some x) : sC (somS l (k + 1)) = sC (somS l k) ++ [.string (cutD x 40)] := by
  unfold somS sC; rw [List.take_add_one, h]; simp
def AP3 (p f s : Value) (W : World) : Prop := (Ap p f ∧ Ap f p ∧ Ap p s ∧ Ap s p ∧ Ap f s ∧ Ap s f) ∧ (Lt p W ∧ Lt f W ∧ Lt s W)
theorem AP3.rot {p f s : Value} {W : World} (h : AP3 p f s W) : AP3 f s p W := by
  obtain ⟨⟨a, b, c, d, e, g⟩, x, y, z⟩ := h
  exact ⟨⟨e, g, b, a, d, c⟩, y, z, x⟩
theorem AP3.gr {p f s : Value} {W X : World} (h : AP3 p f s W) (hg : Gr W X) : AP3 p f s X := by
  obtain ⟨h1, x, y, z⟩ := h
  exact ⟨h1, x.chg (Chg.of_gr (g := none) hg), y.chg (Chg.of_gr (g := none) hg), z.chg (Chg.of_gr (g := none) hg)⟩
theorem AP3.put {p f s p' : Value} {W X : World} {b : Option Nat} (h : AP3 p f s W) (hc : Chg b W X) (hn : ∀ g, p'.ownBlock = some g → p.ownBlock = some g ∨ W.heap.size ≤ g) (hl : Lt p' X) : AP3 p' f s X := by
  obtain ⟨⟨a, b, c, d, e, g⟩, x, y, z⟩ := h
  exact ⟨⟨a.new' y hn, b.new y hn, c.new' z hn, d.new z hn, e, g⟩, hl, y.chg hc, z.chg hc⟩
theorem AP3.nil (W : World) : AP3 (.slice none 0 0) (.slice none 0 0) (.slice none 0 0) W :=
  ⟨⟨.inl rfl, .inl rfl, .inl rfl, .inl rfl, .inl rfl, .inl rfl⟩, (fun g e => by cases e), (fun g e => by cases e), (fun g e => by cases e)⟩
def SmI (w : World) (l : List ByteArray) (k : Nat) (p f s : Value) (W : World) : Prop :=
  Own w.heap.size 1 p k (sC (somP k)) W ∧ Own w.heap.size 1 f k ((somF l k).flatMap inC) W ∧ Own w.heap.size 1 s k (sC (somS l k)) W ∧ AP3 p f s W ∧ Gr w W
theorem somP_len (k : Nat) : (somP k).length = k := by simp [somP]
theorem somF_len (l : List ByteArray) (k : Nat) : (somF l k).length = k := by simp [somF]
theorem somS_len {l : List ByteArray} {k : Nat} (h : k ≤ l.length) : (somS l k).length = k := by simp [somS]; omega
theorem SmI.fin {w : World} {l : List ByteArray} {p f s : Value} {W : World} (h : SmI w l (min l.length 12) p f s W) :
    ∃ p' f' s', Ending.returned (.tuple #[p, f, s]) = .returned (.tuple #[p', f', s']) ∧ OwnL w.heap.size (somP (min l.length 12)) p' W ∧ Rws 1 inC f' (somF l (min l.length 12)) W ∧ OwnL w.heap.size (somS l (min l.length 12)) s' W ∧ Gr w W ∧ AP3 p' f' s' W := by
  refine ⟨p, f, s, rfl, ?_, own_rws (s := 1) (enc := inC) (fun _ => rfl) (by rw [somF_len]; exact h.2.1), ?_, h.2.2.2.2, h.2.2.2.1⟩
  · unfold OwnL; rw [somP_len]; exact h.1
  · unfold OwnL; rw [somS_len (Nat.min_le_left _ _)]; exact h.2.2.1
theorem bytes_path (w : World) (k : Nat) (hk : k < 12) : Lib.Bytes (w.alloc (.cells #[.int .u8 (97 + (k / 3 : Nat) : Int), .int .u8 47, .int .u8 (48 + (k : Int))] 5)) w.heap.size 0 (pathOf k) := by
  have hr := heap_alloc_new w (.cells #[.int .u8 (97 + (k / 3 : Nat) : Int), .int .u8 47, .int .u8 (48 + (k : Int))] 5)
  intro i hi
  rw [cell_of_row _ _ _ _ _ _ hr]
  have hi : i < 3 := hi
  have h1 : (UInt8.ofNat (97 + k / 3)).toNat = 97 + k / 3 := UInt8.toNat_ofNat_of_lt' (show _ < 2 ^ 8 by omega)
  have h2 : (UInt8.ofNat (48 + k)).toNat = 48 + k := UInt8.toNat_ofNat_of_lt' (show _ < 2 ^ 8 by omega)
  match i, hi with
  | 0, _ => show some (Value.int .u8 _) = some (.int .u8 ((UInt8.ofNat (97 + k / 3)).toNat : Int)); rw [h1]; rfl
  | 1, _ => rfl
  | 2, _ => show some (Value.int .u8 _) = some (.int .u8 ((UInt8.ofNat (48 + k)).toNat : Int)); rw [h2]; rfl
set_option maxRecDepth 100000 in
set_option maxHeartbeats 2000000 in
theorem some_any (v : Value) (l : List ByteArray) (w : World) (hv : StrsAt v l w) (hl : l.length ≤ 9223372036854775806) (hs : ∀ x ∈ l, x.size ≤ 140737488355000) :
    Calls Tryz.prog 7 #[v] w fun e w' => ∃ p f s, e = .returned (.tuple #[p, f, s]) ∧ OwnL w.heap.size (somP (min l.length 12)) p w' ∧ Rws 1 inC f (somF l (min l.length 12)) w' ∧ OwnL w.heap.size (somS l (min l.length 12)) s w' ∧ Gr w w' ∧ AP3 p f s w' := by
  obtain ⟨q, c, rfl⟩ := hv.shape
  obtain ⟨iS, hiS, hS0, hS1, hS2⟩ := info_parts infoStr
  obtain ⟨iI, hiI, hI0, hI1, hI2⟩ := info_parts infoInt
  have HiS := Lib.hid hiS
  have HS0 := Lib.hid hS0
  have HS1 := Lib.hid hS1
  have HS2 := Lib.hid hS2
  have HiI := Lib.hid hiI
  have HI0 := Lib.hid hI0
  have HI1 := Lib.hid hI1
  have HI2 := Lib.hid hI2
  have HV := Lib.hid hv
  have HS := Lib.hid hs
  clear hv hs hiS hS0 hS1 hS2 hiI hI0 hI1 hI2
  go_enter Tryz.func7, Tryz.ntmps7
  go_wp2_with fail
  go_loopw [5, 6, 7, 8] (fun v5 v6 v7 v8 W => ∃ (k : Nat) (p f s : Value), k ≤ min l.length 12 ∧ p = v5 ∧ f = v6 ∧ s = v7 ∧ v8 = .int .i64 (k : Int) ∧ Hid (SmI w l k p f s W)) (fun _ _ _ v8 _ => l.length - (intOf v8).toNat)
  case atStart => exact ⟨0, _, _, _, Nat.zero_le _, rfl, rfl, rfl, rfl, Lib.hid ⟨Own.nil _ _ _, Own.nil _ _ _, Own.nil _ _ _, AP3.nil _, Gr.refl _⟩⟩
  case round =>
    obtain ⟨k, p, f, s, hk, rfl, rfl, rfl, rfl, HI⟩ := hrel
    by_cases hlt : k < l.length
    · have ht : decide (k < l.length) = true := decide_eq_true hlt
      have ht' : decide ((k : Int) < (l.length : Int)) = true := decide_eq_true (by omega)
      by_cases h12 : k < 12
      · have t12 : decide (k < 12) = true := decide_eq_true h12
        have t12' : decide ((k : Int) < 12) = true := decide_eq_true (by omega)
        obtain ⟨x, hx⟩ : ∃ x, l[k]? = some x := ⟨_, List.getElem?_eq_getElem hlt⟩
        obtain ⟨gq, oq, rfl, hcq⟩ : ∃ g off, q = some ⟨g, off, none⟩ ∧ wr.cell? ⟨g, off + k, none⟩ = some (.string x) := by
          rcases HV.out.gr HI.out.2.2.2.2 with ⟨he, h0⟩ | ⟨g, off, cap, he, _, _, hc⟩
          · rw [h0] at hx; exact absurd hx (by simp)
          · injection he with e1 e2 e3
            exact ⟨g, off, e1, hc k x hx⟩
        have hgq : gq < w.heap.size := by
          rcases HV.out with ⟨he, h0⟩ | ⟨g, off, cap, he, _, _, hc⟩
          · rw [h0] at hx; exact absurd hx (by simp)
          · injection he with e1 e2 e3
            injection e1 with e1; injection e1 with e1
            subst e1
            have := World.block_lt_of_cell? w _ (hc k x hx)
            simpa using this
        have hxs := HS.out x (List.mem_of_getElem? hx)
        have HFs := Lib.hid (somF_step hx)
        have HSs := Lib.hid (somS_step hx)
        have i0 : (0 : Int) ≤ (k : Int) := by omega
        have i1 : (k : Int) < (l.length : Int) := by omega
        obtain ⟨q3, hq3⟩ : ∃ q, k / 3 = q := ⟨_, rfl⟩
        have e0 : (k : Int) / 3 = (q3 : Int) := by omega
        have e0' : (k : Int).tdiv 3 = (q3 : Int) := by rw [Int.tdiv_eq_ediv_of_nonneg (by omega)]; exact e0
        have e1 : IntKind.u8.wrap (97 + (q3 : Int)) = 97 + (q3 : Int) := u8_wrap (by omega) (by omega)
        have e2 : IntKind.u8.wrap (48 + (k : Int)) = 48 + (k : Int) := u8_wrap (by omega) (by omega)
        have hby := bytes_path wr k h12
        rw [hq3] at hby
        have hconv := Go.Lib.run_convert_whole (P := Tryz.prog) (wr.alloc (.cells #[.int .u8 (97 + (q3 : Int)), .int .u8 47, .int .u8 (48 + (k : Int))] 5)) 73 5 9 Tryz.underlying73 Tryz.underlying5 Tryz.underlying9 wr.heap.size 0 (pathOf k) hby 3
        rw [show (pathOf k).size = 3 from rfl] at hconv
        have HCq := Lib.hid hcq
        have Hgq := Lib.hid hgq
        clear hx hby hq3 hcq hgq
        have e3 : IntKind.i64.wrap ((x.size : Int) * 7) = (x.size : Int) * 7 := IntWalk.i64_in _ (by omega)
        have e4 : IntKind.i64.wrap ((x.size : Int) * 7 + (k : Int)) = (x.size : Int) * 7 + (k : Int) := IntWalk.i64_in _ (by omega)
        have HPk := Lib.hid (fun y => pickR_any ((x.size : Int) * 7 + (k : Int)) 5 y ⟨by omega, by omega⟩ (by decide) (by decide))
        have HG1 : Hid (Gr wr ((wr.alloc (.cells #[.int .u8 (97 + (q3 : Int)), .int .u8 47, .int .u8 (48 + (k : Int))] 5)).alloc (.cells #[.string (pathOf k)] 9))) := Lib.hid ((Gr.alloc _ _).trans (Gr.alloc _ _))
        have HcA := cells_new_at (wr.alloc (.cells #[.int .u8 (97 + (q3 : Int)), .int .u8 47, .int .u8 (48 + (k : Int))] 5)) [.string (pathOf k)] 9
        rw [World.size_alloc] at HcA
        have HcA := Lib.hid HcA
        go_upto_region 7 with fail
        go_wp2_with ((with_reducible show wpList _ _ _ (⟨some 30, _, _, _, _, _⟩ :: _) _ _); refine wpList_append_Own rfl (.tmp 19) (.tmp 29) 27 rfl 9 iS (.string ⟨#[]⟩) 1 16 Tryz.underlying27 HiS.out HS0.out HS1.out HS2.out rfl (by decide) rfl (HI.out.1.gr HG1.out) ⟨wr.heap.size + 1, 0, none⟩ 1 1 [.string (pathOf k)] rfl rfl HcA.out ?h1 (by decide) ?b1 ?b2 ?hB ?_)
        case h1 => intro u hu; obtain rfl := List.mem_singleton.1 hu; rfl
        case b1 => unfold maxLen; omega
        case b2 => omega
        case hB => have := HI.out.2.2.2.2.size; have := HG1.out.size; omega
        intro vp w1 hown hchg hnew
        rw [← somP_step] at hown
        have HOp := Lib.hid hown
        have HOf := Lib.hid ((HI.out.2.1.gr HG1.out).keep hchg HI.out.2.2.2.1.1.2.1)
        have HOs := Lib.hid ((HI.out.2.2.1.gr HG1.out).keep hchg HI.out.2.2.2.1.1.2.2.2.1)
        have HAP := Lib.hid ((HI.out.2.2.2.1.gr HG1.out).put hchg (by simpa using hnew) (own_ltS hown (by decide)))
        have HGw : Hid (Gr w w1) := Lib.hid (gr_step (HI.out.2.2.2.2.trans HG1.out) (Gr.refl _) hchg (fun g e => HI.out.1.ge e))
        have HCq1 : Hid (w1.cell? ⟨gq, oq + k, none⟩ = some (.string x)) := Lib.hid (hchg.cell (HG1.out.cell HCq.out) (fun e => by have := HI.out.1.ge e.symm; have := Hgq.out; simp at *; omega))
        clear hown hchg hnew hconv HG1 HcA HI e0 e0' e1 e2 HCq
        have hcq := HCq1.out
        go_wp2_with fail
        refine (HPk.out w1).mono ?_
        rintro e w2 ⟨rfl, rfl⟩
        obtain ⟨pk, hpk⟩ : ∃ z : Int, (pickD ((x.size : Int) * 7 + (k : Int)) 5 : Int) = z := ⟨_, rfl⟩
        rw [hpk] at HFs ⊢
        clear hpk HPk e3 e4 hcq
        go_wp2_with ((with_reducible show wpList _ _ _ (⟨some 42, _, _, _, _, _⟩ :: _) _ _); refine wpList_append_Own rfl (.tmp 31) (.tmp 41) 37 rfl 3 iI (.int .i64 0) 1 8 Tryz.underlying37 HiI.out HI0.out HI1.out HI2.out rfl (by decide) rfl (HOf.out.gr (Gr.alloc w1 (.cells #[.int .i64 pk] 3))) ⟨w1.heap.size, 0, none⟩ 1 1 [.int .i64 pk] rfl rfl (cells_new_at w1 [.int .i64 pk] 3) ?h1 (by decide) ?b1 ?b2 ?hB ?_)
        case h1 => intro u hu; obtain rfl := List.mem_singleton.1 hu; rfl
        case b1 => unfold maxLen; omega
        case b2 => omega
        case hB => have := HGw.out.size; simp; omega
        intro vf w3 hown hchg hnew
        rw [← HFs.out] at hown
        have HG1 := Lib.hid (Gr.alloc w1 (.cells #[.int .i64 pk] 3))
        have HOp3 := Lib.hid ((HOp.out.gr HG1.out).keep hchg HAP.out.1.1)
        have HOs3 := Lib.hid ((HOs.out.gr HG1.out).keep hchg HAP.out.1.2.2.2.2.2)
        have HAP3 := Lib.hid (((HAP.out.gr HG1.out).rot.put hchg (by simpa using hnew) (own_ltS hown (by decide))).rot.rot)
        have HGw3 : Hid (Gr w w3) := Lib.hid (gr_step (HGw.out.trans HG1.out) (Gr.refl _) hchg (fun g e => HOf.out.ge e))
        have HCq3 : Hid (w3.cell? ⟨gq, oq + k, none⟩ = some (.string x)) := Lib.hid (hchg.cell (HG1.out.cell HCq1.out) (fun e => by have := HOf.out.ge e.symm; have := Hgq.out; simp at *; omega))
        have HOf3 := Lib.hid hown
        clear hown hchg hnew HG1 HOp HOf HOs HAP HGw HCq1 HFs
        obtain ⟨m, hm⟩ : ∃ m, min x.size 40 = m := ⟨_, rfl⟩
        have hmi : min (x.size : Int) 40 = (m : Int) := by omega
        have m0 : (0 : Int) ≤ (m : Int) := by omega
        have m1 : (m : Int) ≤ (x.size : Int) := by omega
        obtain ⟨xc, hxc⟩ : ∃ z, x.extract 0 m = z := ⟨_, rfl⟩
        have hcut : cutD x 40 = xc := by unfold cutD; rw [hm]; exact hxc
        rw [hcut] at HSs
        have Hxc := Lib.hid hxc
        have hS0 : (fun y : World => y.cell? ⟨gq, oq + k, none⟩ = some (.string x)) w3.drew := HCq3.out
        have HG4 := Lib.hid (Gr.drew w3)
        have HOp4 := Lib.hid (HOp3.out.gr HG4.out)
        have HOf4 := Lib.hid (HOf3.out.gr HG4.out)
        have HOs4 := Lib.hid (HOs3.out.gr HG4.out)
        have HAP4 := Lib.hid (HAP3.out.gr HG4.out)
        have HGw4 := Lib.hid (HGw3.out.trans HG4.out)
        clear hm hcut HG4 HOp3 HOf3 HOs3 HAP3 HGw3 HCq3
        go_upto_region 9 with fail
        refine u_begin (fun y : World => y.cell? ⟨gq, oq + k, none⟩ = some (.string x)) (fun _ => false) (by kernel_rfl) (by assumption) (fun hHeld => ?_)
        generalize w3.drew = w4 at *
        refine u_take 0 (v := ?_) rfl rfl (by kernel_rfl) (by kernel_rfl) (by kernel_rfl) (by kernel_rfl) (fun _ _ _ h => h) (by rfl) (by assumption) ?_ ?_
        rotate_left
        · (intro w hSw; (try dsimp only at hSw); go_simp; try with_reducible rfl)
        try simp only [Act.put, List.setIfInBounds_toArray, List.set_cons_zero, List.set_cons_succ]
        refine u_take 1 (v := ?_) rfl rfl (by kernel_rfl) (by kernel_rfl) (by kernel_rfl) (by kernel_rfl) (fun _ _ _ h => h) (by rfl) (by assumption) ?_ ?_
        rotate_left
        · (intro w hSw; (try dsimp only at hSw); go_simp; try with_reducible rfl)
        try simp only [Act.put, List.setIfInBounds_toArray, List.set_cons_zero, List.set_cons_succ]
        refine u_take 2 (v := ?_) rfl rfl (by kernel_rfl) (by kernel_rfl) (by kernel_rfl) (by kernel_rfl) (fun _ _ _ h => h) (by rfl) (by assumption) ?_ ?_
        rotate_left
        · (intro w hSw; (try dsimp only at hSw); go_simp; try with_reducible rfl)
        try simp only [Act.put, List.setIfInBounds_toArray, List.set_cons_zero, List.set_cons_succ]
        refine u_take 3 (v := ?_) rfl rfl (by kernel_rfl) (by kernel_rfl) (by kernel_rfl) (by kernel_rfl) (fun _ _ _ h => h) (by rfl) (by assumption) ?_ ?_
        rotate_left
        · (intro w hSw; (try dsimp only at hSw); go_simp; try with_reducible rfl)
        try simp only [Act.put, List.setIfInBounds_toArray, List.set_cons_zero, List.set_cons_succ]
        refine u_take 4 (v := ?_) rfl rfl (by kernel_rfl) (by kernel_rfl) (by kernel_rfl) (by kernel_rfl) (fun _ _ _ h => h) (by rfl) (by assumption) ?_ ?_
        rotate_left
        · (intro w hSw; (try dsimp only at hSw); go_simp; try with_reducible rfl)
        try simp only [Act.put, List.setIfInBounds_toArray, List.set_cons_zero, List.set_cons_succ]
        refine u_take 5 (v := ?_) rfl rfl (by kernel_rfl) (by kernel_rfl) (by kernel_rfl) (by kernel_rfl) (fun _ _ _ h => h) (by rfl) (by assumption) ?_ ?_
        rotate_left
        · (intro w hSw; (try dsimp only at hSw); go_simp; try with_reducible rfl)
        try simp only [Act.put, List.setIfInBounds_toArray, List.set_cons_zero, List.set_cons_succ]
        refine u_take 6 (v := ?_) rfl rfl (by kernel_rfl) (by kernel_rfl) (by kernel_rfl) (by kernel_rfl) (fun _ _ _ h => h) (by rfl) (by assumption) ?_ ?_
        rotate_left
        · (intro w hSw; (try dsimp only at hSw); go_simp; try with_reducible rfl)
        try simp only [Act.put, List.setIfInBounds_toArray, List.set_cons_zero, List.set_cons_succ]
        refine u_take 7 (v := ?_) rfl rfl (by kernel_rfl) (by kernel_rfl) (by kernel_rfl) (by kernel_rfl) (fun _ _ _ h => h) (by rfl) (by assumption) ?_ ?_
        rotate_left
        · (intro w hSw; (try dsimp only at hSw); go_simp; try with_reducible rfl)
        try simp only [Act.put, List.setIfInBounds_toArray, List.set_cons_zero, List.set_cons_succ]
        refine u_take 8 (v := ?_) rfl rfl (by kernel_rfl) (by kernel_rfl) (by kernel_rfl) (by kernel_rfl) (fun _ _ _ h => h) (by rfl) (by assumption) ?_ ?_
        rotate_left
        · (intro w hSw; (try dsimp only at hSw); go_simp; try with_reducible rfl)
        try simp only [Act.put, List.setIfInBounds_toArray, List.set_cons_zero, List.set_cons_succ]
        refine u_take 9 (v := ?_) rfl rfl (by kernel_rfl) (by kernel_rfl) (by kernel_rfl) (by kernel_rfl) (fun _ _ _ h => h) (by rfl) (by assumption) ?_ ?_
        rotate_left
        · (intro w hSw; (try dsimp only at hSw); go_simp; try with_reducible rfl)
        try simp only [Act.put, List.setIfInBounds_toArray, List.set_cons_zero, List.set_cons_succ]
        refine u_take 10 (v := ?_) rfl rfl (by kernel_rfl) (by kernel_rfl) (by kernel_rfl) (by kernel_rfl) (fun _ _ _ h => h) (by rfl) (by assumption) ?_ ?_
        rotate_left
        · (intro w hSw; (try dsimp only at hSw); go_simp; try with_reducible rfl)
        try simp only [Act.put, List.setIfInBounds_toArray, List.set_cons_zero, List.set_cons_succ]
        refine u_take 11 (v := ?_) rfl rfl (by kernel_rfl) (by kernel_rfl) (by kernel_rfl) (by kernel_rfl) (fun _ _ _ h => h) (by rfl) (by assumption) ?_ ?_
        rotate_left
        · (intro w hSw; (try dsimp only at hSw); go_simp; try with_reducible rfl)
        try simp only [Act.put, List.setIfInBounds_toArray, List.set_cons_zero, List.set_cons_succ]
        refine u_step 12 (by kernel_rfl) rfl (by rfl) ?_
        go_simp
        refine ⟨(Gr.alloc w4 _).cell hS0, ?_⟩
        clear hxc
        refine u_one 13 (by kernel_rfl) rfl ?_
        refine wpList_append_Own (v := s) rfl (.tmp 43) (.tmp 55) 27 rfl 9 iS (.string ⟨#[]⟩) 1 16 Tryz.underlying27 HiS.out HS0.out HS1.out HS2.out rfl (by decide) rfl (HOs4.out.gr (Gr.alloc w4 (.cells #[.string xc] 9))) ⟨w4.heap.size, 0, none⟩ 1 1 [.string xc] rfl rfl (cells_new_at w4 [.string xc] 9) ?h1 (by decide) ?b1 ?b2 ?hB ?_
        case h1 => intro u hu; obtain rfl := List.mem_singleton.1 hu; rfl
        case b1 => unfold maxLen; omega
        case b2 => omega
        case hB => have := HGw4.out.size; simp; omega
        intro vs w5 hown hchg hnew
        rw [← HSs.out] at hown
        have HG1 := Lib.hid (Gr.alloc w4 (.cells #[.string xc] 9))
        have hFin : SmI w l (k + 1) vp vf vs w5 := ⟨(HOp4.out.gr HG1.out).keep hchg HAP4.out.1.2.2.1, (HOf4.out.gr HG1.out).keep hchg HAP4.out.1.2.2.2.2.1, hown, ((HAP4.out.gr HG1.out).rot.rot.put hchg (by simpa using hnew) (own_ltS hown (by decide))).rot, gr_step (HGw4.out.trans HG1.out) (Gr.refl _) hchg (fun g e => HOs4.out.ge e)⟩
        have hS5 : (fun y : World => y.cell? ⟨gq, oq + k, none⟩ = some (.string x)) w5 := hchg.cell (HG1.out.cell hS0) (fun e => by have := HOs4.out.ge e.symm; have := Hgq.out; simp at *; omega)
        have HFin := Lib.hid hFin
        clear hFin hown hchg hnew HG1 HOp4 HOf4 HOs4 HAP4 HGw4 hS0
        refine ⟨fun _ => hS5, ?_⟩
        try simp only [Act.put, List.setIfInBounds_toArray]
        refine u_take 14 (v := ?_) rfl rfl (by kernel_rfl) (by kernel_rfl) (by kernel_rfl) (by kernel_rfl) (fun _ _ _ h => h) (by rfl) (by assumption) ?_ ?_
        rotate_left
        · (intro w hSw; (try dsimp only at hSw); go_simp; try with_reducible rfl)
        try simp only [Act.put]
        refine u_done (by kernel_rfl) ?_ _
        go_wp2_with fail
        go_roundw
        case rel => exact ⟨k + 1, _, _, _, by omega, rfl, rfl, rfl, by go_num, HFin⟩
        case measure => simp [intOf]; omega
      · have t12 : decide (k < 12) = false := decide_eq_false h12
        have t12' : decide ((k : Int) < 12) = false := decide_eq_false (by omega)
        obtain rfl : k = min l.length 12 := by omega
        go_wp2_with fail
        refine bodyPost_ret (results_tmp3 rfl _ _ _) rfl ?_
        exact SmI.fin HI.out
    · have ht : decide (k < l.length) = false := decide_eq_false hlt
      have ht' : decide ((k : Int) < (l.length : Int)) = false := decide_eq_false (by omega)
      obtain rfl : k = min l.length 12 := by omega
      go_wp2_with fail
      refine bodyPost_ret (results_tmp3 rfl _ _ _) rfl ?_
      exact SmI.fin HI.out
end
section
open Go Go.RowKit Go.Shelf
attribute [local go_sem] gAt gUpon
attribute [local simp] Gr.refl Gr.alloc

theorem path_good : ∀ i, i < 12 → goodB (pathOf i) = true := by decide +kernel
theorem path_lt : ∀ i, i < 11 → ltB (pathOf i) (pathOf (i + 1)) = true := by decide +kernel
/-- v is a slice of strings that came in and holds l -/
def StrsIn (v : Value) (l : List ByteArray) (w : World) : Prop := StrsAt v l w ∨ (l = [] ∧ ∃ p cap, v = .slice p 0 cap)
theorem StrsIn.gr {v : Value} {l : List ByteArray} {w x : World} (h : StrsIn v l w) (hg : Gr w x) : StrsIn v l x := by
  rcases h with h | h
  · exact .inl (h.gr hg)
  · exact .inr h
theorem StrsIn.shape {v : Value} {l : List ByteArray} {w : World} (h : StrsIn v l w) : ∃ p cap, v = .slice p l.length cap := by
  rcases h with h | ⟨rfl, p, cap, rfl⟩
  · exact h.shape
  · exact ⟨p, cap, rfl⟩
theorem StrsIn.strs {v : Value} {l : List ByteArray} {w : World} (h : StrsIn v l w) (hl : l.length ≠ 0) : StrsAt v l w := h.resolve_right (fun e => hl (by rw [e.1]; rfl))
theorem StrsIn.rws {v : Value} {l : List ByteArray} {w : World} (h : StrsIn v l w) : Rws 1 strC v l w := by
  rcases h with h | ⟨rfl, p, cap, rfl⟩
  · rcases h with ⟨rfl, rfl⟩ | ⟨g, off, cap, rfl, h1, -, h3⟩
    · exact .inl ⟨rfl, none, 0, rfl⟩
    · refine .inr ⟨g, off, cap, rfl, h1, fun i x j u hx hu => ?_⟩
      have hj : j = 0 := by
        have := (List.getElem?_eq_some_iff.1 hu).1
        simpa [strC] using this
      subst hj
      obtain rfl : Value.string x = u := by simpa [strC] using hu
      have := h3 i x hx
      rw [Nat.mul_one, Nat.add_zero]; exact this
  · exact .inl ⟨rfl, p, cap, rfl⟩
end
section
open Go Go.RowKit Go.Shelf
attribute [local go_sem] gAt gUpon
attribute [local simp] Gr.refl Gr.alloc

end
section
open Go Go.RowKit Go.Shelf
attribute [local go_sem] gAt gUpon
attribute [local simp] Gr.refl Gr.alloc

end
end Go.Proofs.YtaoggehdkddgeaaGreatDoor
