/- The contract of digest.Sum: it returns the digest of the string. -/
import Derived.Test.YtaoggehdkddgeaaGreatDoorShaE
namespace Go.Proofs.YtaoggehdkddgeaaGreatDoor
open Go.RowKit Go.Shelf
attribute [local go_sem] Oper.semAt_some

/-- bytes as cells -/
def bC (l : List UInt8) : List Value := l.map fun x => Value.int .u8 (x.toNat : Int)
theorem bC_length (l : List UInt8) : (bC l).length = l.length := by simp [bC]
theorem bC_one (l : List UInt8) (x : UInt8) : bC l ++ [.int .u8 (x.toNat : Int)] = bC (l ++ [x]) := by simp [bC]
theorem bC_128 (l : List UInt8) : bC l ++ [.int .u8 128] = bC (l ++ [128]) := bC_one l 128
theorem bC_0 (l : List UInt8) : bC l ++ [.int .u8 0] = bC (l ++ [0]) := bC_one l 0
theorem Own.shape {B s : Nat} {v : Value} {n : Nat} {xs : List Value} {w : World} (h : Own B s v n xs w) (hn : 0 < n) : ∃ g off cap, v = .slice (some ⟨g, off, none⟩) n cap ∧ B ≤ g ∧ n ≤ cap ∧ cap ≤ maxLen := by
  rcases h.2 with ⟨_, rfl⟩ | ⟨g, off, cap, rfl, hB, hc, hm, _⟩
  · omega
  · exact ⟨g, off, cap, rfl, hB, hc, hm⟩
theorem Own.cell {B : Nat} {g off n cap : Nat} {xs : List Value} {w : World} (h : Own B 1 (.slice (some ⟨g, off, none⟩) n cap) n xs w) (j : Nat) (u : Value) (hj : xs[j]? = some u) : w.cell? ⟨g, off + j, none⟩ = some u := by
  rcases h.2 with ⟨h, _⟩ | ⟨g', off', cap', he, _, _, _, hx, _⟩
  · simp at h
  · simp at he
    obtain ⟨⟨rfl, rfl⟩, rfl⟩ := he
    exact hx j u hj
theorem own_bytes (w : World) (s : ByteArray) (o : Obj) (hs : s.size ≤ maxLen) :
    Own w.heap.size 1 (.slice (some ⟨w.heap.size, 0, none⟩) s.size (grownCap w s.size 0 5)) s.size (bC s.data.toList)
      ((w.drew.alloc (.cells (bytesRow s (grownCap w s.size 0 5)) 5 ((bytesRow s (grownCap w s.size 0 5)).size, (bytesRow s (grownCap w s.size 0 5)).size + 1))).alloc o) := by
  have hge := grownCap_ge w s.size 0 5
  have hcm : grownCap w s.size 0 5 ≤ maxLen := grownCap_le_maxLen w s.size 0 5 hs
  generalize grownCap w s.size 0 5 = cap at hge hcm
  have hsz : (bytesRow s cap).size = cap := by simp [bytesRow]; omega
  rw [hsz]
  have hrow : (((w.drew.alloc (.cells (bytesRow s cap) 5 (cap, cap + 1))).alloc o).heap[w.heap.size]? = some (.cells (bytesRow s cap) 5 (cap, cap + 1))) := by
    rw [heap_alloc_old _ _ _ (by simp)]
    exact heap_alloc_new w.drew _
  refine ⟨by simp [bC_length], .inr ⟨_, 0, cap, rfl, Nat.le_refl _, hge, hcm, ?_, ?_⟩⟩
  · intro j u hj
    rw [cell_of_row _ _ _ _ _ _ hrow]
    have hjl : j < s.data.size := by have := (List.getElem?_eq_some_iff.1 hj).1; simpa [bC] using this
    simp only [Nat.zero_add, bytesRow]
    rw [Array.getElem?_append_left (by simpa using hjl)]
    simp only [bC, List.getElem?_map, Array.getElem?_toList] at hj
    simpa using hj
  · intro j hj
    rw [cell_of_row _ _ _ _ _ _ hrow]
    refine ⟨by simp [hsz]; omega, ?_⟩
    unfold World.frozen?
    rw [hrow]
    simp
    omega

theorem byte8 (x k : Nat) : (x : Int) / 2 ^ k % 256 = ((UInt8.ofNat (x / 2 ^ k)).toNat : Int) := byte_walk x k
theorem lenBytes_take (n k : Nat) (hk : k < 8) : (lenBytes n).take (k + 1) = (lenBytes n).take k ++ [UInt8.ofNat (8 * n / 2 ^ (8 * (7 - k)))] := by
  rw [List.take_succ_eq_append_getElem (by simp [lenBytes]; exact hk)]
  congr 2
  simp only [lenBytes, List.getElem_map, List.getElem_range]
  rw [show (256 : Nat) ^ (7 - k) = 2 ^ (8 * (7 - k)) by rw [show (256 : Nat) = 2 ^ 8 by decide, ← Nat.pow_mul]]
theorem one_new (w : World) (o : Obj) (v : Value) (t : TypeId) {n : Nat} (hn : n = w.heap.size + 1) : ∀ (j : Nat) (u : Value), [v][j]? = some u → (((w.alloc o).alloc (.cells #[v] t)).drew.cell? ((⟨n, 0, none⟩ : Addr).add j)) = some u := by
  intro j u hj
  match j, hj with
  | 0, hj =>
    simp at hj; subst hj hn
    exact cell_new_at (w.alloc o) #[v] t _ 0 v (by simp) rfl
theorem one_new' (w : World) (v : Value) (t : TypeId) {n : Nat} (hn : n = w.heap.size) : ∀ (j : Nat) (u : Value), [v][j]? = some u → ((w.alloc (.cells #[v] t)).cell? ((⟨n, 0, none⟩ : Addr).add j)) = some u := by
  intro j u hj
  match j, hj with
  | 0, hj =>
    simp at hj; subst hj hn
    exact cell_new_at w #[v] t _ 0 v rfl rfl
/-- the length of a slice value -/
def lenV : Value → Nat
  | .slice _ n _ => n
  | _ => 0
theorem info5 : (Tryz.prog.info? 5).map (fun i => (i.zero, i.size, i.bytes)) = some (some (.int .u8 0), 1, 1) := by kernel_rfl

/-- what holds between two blocks -/
def SumI (w : World) (n0 bh g off : Nat) (P : List UInt8) (m : Nat) (pre : List (_root_.Fin m)) (W : World) : Prop :=
  W.heap[bh]? = some (.cells (stC (stOf P (pre.map (·.1)))).toArray 158 (0, 0)) ∧ BytesAt W g off P ∧ Tab W ∧ Below w.heap.size w W ∧ n0 ≤ W.heap.size
theorem sumI_own (w x : World) (bh g off : Nat) (P : List UInt8) (m : Nat) (hbh : bh < x.heap.size) (hg : g < x.heap.size) (ht : 0 < x.heap.size) (hw : w.heap.size ≤ x.heap.size) : OwnFrom x.heap.size (SumI w x.heap.size bh g off P m) := by
  rintro s W W' row ⟨i1, i2, i3, i4, i5⟩ hgr hr
  have hc := Chg.of_grownBy hgr
  have hne : ∀ k, k < x.heap.size → some k ≠ row := fun k hk e => by have := (hr k e.symm).1; omega
  exact ⟨hc.block i1 (hne _ hbh), fun i hi => hc.cell (i2 i hi) (hne _ hg), i3.same (hc.at_ i3.lt (hne _ ht)), i4.trans (hc.below (fun k hk => Nat.le_trans hw (hr k hk).1) i4.size), Nat.le_trans i5 hc.size⟩
theorem Upd.chg {b : Nat} {w x : World} (h : Upd b w x) : Chg (some b) w x := ⟨h.1, h.2.1, h.2.2.1, h.2.2.2.1, fun k hk hg => h.2.2.2.2 k hk (fun e => hg (by rw [e]))⟩
theorem fin_range (n : Nat) : (List.finRange n).map (·.1) = List.range n := by
  apply List.ext_getElem
  · simp
  · intro i h1 h2
    simp
theorem bytes_sub {W : World} {g off : Nat} {P : List UInt8} (h : BytesAt W g off P) (k : Nat) (hk : 64 * k + 64 ≤ P.length) : BytesAt W g (off + 64 * k) ((P.drop (64 * k)).take 64) := by
  intro i hi
  have hi64 : i < 64 := by simp at hi; omega
  have h1 := h (64 * k + i) (by omega)
  rw [← Nat.add_assoc] at h1
  rw [h1]
  have : bt ((P.drop (64 * k)).take 64) i = bt P (64 * k + i) := by
    simp [bt, hi64, List.getElem?_drop]
  rw [this]

set_option maxRecDepth 100000 in
set_option maxHeartbeats 4000000 in
theorem sum_any (s : ByteArray) (w : World) (hs : s.size ≤ 140737488355000) (hT : Tab w) :
    Calls Tryz.prog 26 #[.string s] w fun e w' => e = .returned (.string (sha s)) ∧ Gr w w' := by
  refine (callsIn_wide (n := 6)).1 ?_
  refine callsIn_of_wp_marks Tryz.func26 rfl trivial ?_ rfl
  simp only [Tryz.ntmps26, List.size_toArray, List.length_cons, List.length_nil, Nat.reduceAdd, Nat.reduceSub, Array.replicate_succ, Array.replicate_zero, List.push_toArray, List.append_toArray, List.nil_append, List.cons_append]
  refine wpIn_wide.2 ?_
  obtain ⟨i5, hi5, hz5, hsz5, hb5⟩ := info_parts info5
  go_upto_region 2 with fail
  refine wp_gen (F := NewBlk w (stC start).toArray 158) (newBlk_alloc w (stC start).toArray 158) ?_
  rintro w1 ⟨hG1, hrow1, hsz1⟩
  have HR1 := Lib.hid hrow1
  have Hsz1 := Lib.hid hsz1
  have HT1 : Hid (Tab w1) := Lib.hid (hT.gr hG1)
  have Htl := Lib.hid hT.lt
  have HG1 := Lib.hid hG1
  clear hrow1 hsz1 hT hG1
  have hcv := run_bytes_of_string (P := Tryz.prog) w1 9 73 5 s Tryz.underlying9 Tryz.underlying73 Tryz.underlying5
  have hmx : s.size ≤ maxLen := by unfold maxLen; omega
  have hown0 := own_bytes w1 s (.cells #[.int .u8 128] 5) hmx
  have HO := Lib.hid hown0
  clear hown0
  go_upto_region 3 with ((with_reducible show wpList _ _ _ (⟨some 11, _, _, _, _, _⟩ :: _) _ _); refine wpList_append_Own rfl (.tmp 9) (.tmp 10) 73 rfl 5 i5 (.int .u8 0) 1 1 Tryz.underlying73 hi5 hz5 hsz5 hb5 rfl (by decide) rfl HO.out ⟨w1.heap.size + 1, 0, none⟩ 1 1 [.int .u8 128] rfl rfl ?hnews ?h1c (by decide) ?b1 ?b2 ?hB ?_)
  case hnews => exact one_new _ _ _ _ rfl
  case h1c => intro u hu; simp at hu; subst hu; rfl
  case b1 => unfold maxLen; omega
  case b2 => omega
  case hB => simp; omega
  intro v1 w2 hown2 hchg2 _
  have hb12 : Below w1.heap.size w1 w2 := (((Below.refl _ w1).alloc (Nat.le_refl _) _).alloc (by simp) _).drew.trans (hchg2.below (fun k hk => by simp [Value.ownBlock] at hk; omega) (by simp; omega))
  obtain ⟨g1, off1, cap1, rfl, hg1, hc1, hm1⟩ := hown2.shape (by omega)
  have HO2 := Lib.hid hown2
  have HB2 := Lib.hid hb12
  clear hown2 hchg2 hb12 hcv HO
  go_upto_region 3 with fail
  go_loopw [4] (fun v wr => ∃ j L g off cap : Nat, j ≤ zeros s.size ∧ Hid (L = s.size + 1 + j) ∧ v = .slice (some ⟨g, off, none⟩) L cap ∧ w1.heap.size ≤ g ∧ Hid (Own w1.heap.size 1 (.slice (some ⟨g, off, none⟩) L cap) L (bC (s.data.toList ++ 128 :: List.replicate j 0)) wr) ∧ Hid (Below w1.heap.size w1 wr)) (fun v _ => s.size + 1 + zeros s.size - lenV v)
  case atStart => exact ⟨0, s.size + 1, g1, off1, cap1, Nat.zero_le _, rfl, rfl, hg1, Lib.hid (by have := HO2.out; rw [bC_128] at this; exact this), HB2⟩
  clear HO2 HB2 hg1 hc1 hm1
  case round =>
    obtain ⟨j, L, g2, off2, cap2, hj, HL, rfl, hg2, HO2, HB2⟩ := hrel
    have hz64 : zeros s.size < 64 := Nat.mod_lt _ (by decide)
    have Hz : Hid ((s.size + 1 + zeros s.size) % 64 = 56) := Lib.hid (by unfold zeros; omega)
    by_cases hlt : j < zeros s.size
    · have ht : ((L : Int) % 64 != 56) = true := by have h1 := HL.out; have h2 := Hz.out; rw [bne_iff_ne]; omega
      have HOr : Hid (Own w1.heap.size 1 (.slice (some ⟨g2, off2, none⟩) L cap2) L (bC (s.data.toList ++ 128 :: List.replicate j 0)) (wr.alloc (.cells #[.int .u8 0] 5))) := Lib.hid (HO2.out.gr (Gr.alloc _ _))
      have hLb : L ≤ s.size + 65 := by have := HL.out; omega
      go_wp2_with ((with_reducible show wpList _ _ _ (⟨some 18, _, _, _, _, _⟩ :: _) _ _); refine wpList_append_Own rfl (.tmp 16) (.tmp 17) 73 rfl 5 i5 (.int .u8 0) 1 1 Tryz.underlying73 hi5 hz5 hsz5 hb5 rfl (by decide) rfl HOr.out ⟨wr.heap.size, 0, none⟩ 1 1 [.int .u8 0] rfl rfl ?hnewsA ?h1cA (by decide) ?b1A ?b2A ?hBA ?_)
      case hnewsA => exact one_new' _ _ _ rfl
      case h1cA => intro u hu; simp at hu; subst hu; rfl
      case b1A => unfold maxLen; omega
      case b2A => omega
      case hBA => have := HB2.out.size; simp; omega
      intro v2 w3 hown3 hchg3 _
      have hb3 : Below w1.heap.size w1 w3 := HB2.out.trans (((Below.refl _ wr).alloc HB2.out.size _).trans (hchg3.below (fun k hk => by simp [Value.ownBlock] at hk; omega) (by have := HB2.out.size; simp; omega)))
      obtain ⟨g3, off3, cap3, rfl, hg3, _, _⟩ := hown3.shape (by omega)
      have HO3 : Hid (Own w1.heap.size 1 (.slice (some ⟨g3, off3, none⟩) (L + 1) cap3) (L + 1) (bC (s.data.toList ++ 128 :: List.replicate (j + 1) 0)) w3) := Lib.hid (by
        have h := hown3
        rw [bC_0, List.append_assoc, List.cons_append, ← List.replicate_succ'] at h; exact h)
      have HB3 := Lib.hid hb3
      clear hown3 hchg3 hb3 HOr HO2 HB2
      go_wp2_with fail
      go_roundw
      case measure => have := HL.out; simp [lenV]; omega
      case rel => exact ⟨j + 1, L + 1, g3, off3, cap3, by omega, Lib.hid (by have := HL.out; omega), rfl, hg3, HO3, HB3⟩
    · have hjz : j = zeros s.size := by omega
      have ht : ((L : Int) % 64 != 56) = false := by have h1 := HL.out; have h2 := Hz.out; rw [bne_eq_false_iff_eq]; omega
      have HL2 : Hid (L = s.size + 1 + zeros s.size) := Lib.hid (by rw [HL.out, hjz])
      have HO3 : Hid (Own w1.heap.size 1 (.slice (some ⟨g2, off2, none⟩) L cap2) L (bC (s.data.toList ++ 128 :: List.replicate (zeros s.size) 0)) wr) := Lib.hid (by rw [← hjz]; exact HO2.out)
      clear HL HO2 hjz hlt hj
      go_wp2_with fail
      go_loopw [4, 5] (fun v i wr => ∃ (k L2 g off cap : Nat) (x : Int), k ≤ 8 ∧ Hid (L2 = L + k) ∧ Hid (x = 7 - (k : Int)) ∧ v = .slice (some ⟨g, off, none⟩) L2 cap ∧ i = .int .i64 x ∧ w1.heap.size ≤ g ∧ Hid (Own w1.heap.size 1 (.slice (some ⟨g, off, none⟩) L2 cap) L2 (bC ((s.data.toList ++ 128 :: List.replicate (zeros s.size) 0) ++ (lenBytes s.size).take k)) wr) ∧ Hid (Below w1.heap.size w1 wr)) (fun _ i _ => (intOf i + 1).toNat)
      case atStart => exact ⟨0, L, g2, off2, cap2, 7, by omega, rfl, rfl, rfl, rfl, hg2, Lib.hid (by rw [List.take_zero, List.append_nil]; exact HO3.out), HB2⟩
      clear HO3 HB2
      case round =>
        obtain ⟨k, L2, g3, off3, cap3, x, hk, HL3, Hx, rfl, rfl, hg3, HO3, HB3⟩ := hrel
        by_cases hlt8 : k < 8
        · have hx0 : (0 : Int) ≤ x := by have := Hx.out; omega
          have hx7 : x ≤ 7 := by have := Hx.out; omega
          have hLb : L2 ≤ s.size + 80 := by have h1 := HL2.out; have h2 := HL3.out; omega
          have hn8 : (8 : Int) * (s.size : Int) ≤ 9223372036854775807 := by omega
          have Hby : Hid (8 * (s.size : Int) / 2 ^ (8 * x).toNat % 256 = ((UInt8.ofNat (8 * s.size / 2 ^ (8 * (7 - k)))).toNat : Int)) := Lib.hid (by
            rw [← byte8, show (8 * x).toNat = 8 * (7 - k) by have := Hx.out; omega, Int.natCast_mul]; rfl)
          have HOr : Hid (Own w1.heap.size 1 (.slice (some ⟨g3, off3, none⟩) L2 cap3) L2 (bC ((s.data.toList ++ 128 :: List.replicate (zeros s.size) 0) ++ (lenBytes s.size).take k)) (wr.alloc (.cells #[.int .u8 (8 * (s.size : Int) / 2 ^ (8 * x).toNat % 256)] 5))) := Lib.hid (HO3.out.gr (Gr.alloc _ _))
          go_wp2_with ((with_reducible show wpList _ _ _ (⟨some 32, _, _, _, _, _⟩ :: _) _ _); refine wpList_append_Own rfl (.tmp 23) (.tmp 31) 73 rfl 5 i5 (.int .u8 0) 1 1 Tryz.underlying73 hi5 hz5 hsz5 hb5 rfl (by decide) rfl HOr.out ⟨wr.heap.size, 0, none⟩ 1 1 [.int .u8 (8 * (s.size : Int) / 2 ^ (8 * x).toNat % 256)] rfl rfl ?hnewsC ?h1cC (by decide) ?b1C ?b2C ?hBC ?_)
          case hnewsC => exact one_new' _ _ _ rfl
          case h1cC => intro u hu; simp at hu; subst hu; rfl
          case b1C => unfold maxLen; omega
          case b2C => omega
          case hBC => have := HB3.out.size; simp; omega
          intro v2 w3 hown3 hchg3 _
          have hb3 : Below w1.heap.size w1 w3 := HB3.out.trans (((Below.refl _ wr).alloc HB3.out.size _).trans (hchg3.below (fun k hk => by simp [Value.ownBlock] at hk; omega) (by have := HB3.out.size; simp; omega)))
          obtain ⟨g4, off4, cap4, rfl, hg4, _, _⟩ := hown3.shape (by omega)
          have HO4 : Hid (Own w1.heap.size 1 (.slice (some ⟨g4, off4, none⟩) (L2 + 1) cap4) (L2 + 1) (bC ((s.data.toList ++ 128 :: List.replicate (zeros s.size) 0) ++ (lenBytes s.size).take (k + 1))) w3) := Lib.hid (by
            have h := hown3
            rw [Hby.out, bC_one] at h; rw [lenBytes_take _ _ hlt8]; simp only [List.append_assoc, List.cons_append] at h ⊢; exact h)
          have HB4 := Lib.hid hb3
          clear hown3 hchg3 hb3 HOr HO3 HB3
          go_wp2_with fail
          go_roundw
          case measure => simp [intOf]; omega
          case rel => exact ⟨k + 1, L2 + 1, g4, off4, cap4, x - 1, by omega, Lib.hid (by have := HL3.out; omega), Lib.hid (by have := Hx.out; omega), rfl, rfl, hg4, HO4, HB4⟩
        · have Hk8 : Hid (k = 8) := Lib.hid (by omega)
          have hxm : x = -1 := by have h1 := Hx.out; have h2 := Hk8.out; omega
          subst hxm
          have Hpad : Hid (Own w1.heap.size 1 (.slice (some ⟨g3, off3, none⟩) L2 cap3) L2 (bC (padded s.data.toList)) wr) := Lib.hid (by
            have h := HO3.out
            rw [Hk8.out, List.take_of_length_le (by simp [lenBytes])] at h
            exact h)
          have HL4 : Hid (L2 = (padded s.data.toList).length) := Lib.hid (by
            have h := Hpad.out.1; rw [bC_length] at h; omega)
          clear HO3 Hx HL3 hk hlt8 Hk8 HL2 ht
          go_wp2_with fail
          refine (chunk_any _ _ _ _).mono ?_
          rintro e w' ⟨rfl, rfl⟩
          go_wp2_with fail
          refine wp_gen (F := fun x => Gr wr x ∧ x.heap[wr.heap.size]? = some (.cells #[.slice (some ⟨g3, off3, none⟩) L2 cap3] 73 (0, 0)) ∧ x.heap[wr.heap.size + 1]? = some (.cells #[.int .i64 64] 3 (0, 0)) ∧ wr.heap.size + 1 < x.heap.size) ⟨(Gr.alloc _ _).trans (Gr.alloc _ _), ?_, ?_, ?_⟩ ?_
          · rw [heap_alloc_old _ _ _ (by simp)]; exact heap_alloc_new _ _
          · have := heap_alloc_new (wr.alloc (.cells #[.slice (some ⟨g3, off3, none⟩) L2 cap3] 73)) (.cells #[.int .i64 64] 3)
            rw [World.size_alloc] at this; exact this
          · simp
          rintro x ⟨hGx, hx1, hx2, hxs⟩
          have hbel : Below w1.heap.size w1 x := HB3.out.trans ((show Below wr.heap.size wr x from hGx).mono HB3.out.size)
          have hP : BytesAt x g3 off3 (padded s.data.toList) := by
            intro i hi
            have hp := (Hpad.out.gr hGx).cell i (.int .u8 ((bt (padded s.data.toList) i : Nat) : Int)) (by simp [bC, bt, List.getElem?_eq_getElem hi])
            exact hp
          have hmod := padded_mod s.data.toList
          have hplen := HL4.out
          have hsz0 : s.data.toList.length = s.size := by simp
          have hpl := padded_length s.data.toList
          rw [hsz0] at hpl
          have hcapL : L2 ≤ cap3 ∧ cap3 ≤ maxLen := by
            obtain ⟨g', off', cap', he, _, h1, h2⟩ := Hpad.out.shape (by omega)
            simp at he
            obtain ⟨_, rfl⟩ := he
            exact ⟨h1, h2⟩
          have hsx : w1.heap.size ≤ x.heap.size := hbel.size
          have hsw := Hsz1.out
          have hI0 : SumI w x.heap.size w.heap.size g3 off3 (padded s.data.toList) (L2 / 64) [] x :=
            ⟨(hbel.block _ (by omega)).trans HR1.out, hP, Tab.below HT1.out hbel (by have := Htl.out; omega), (show Below w.heap.size w w1 from HG1.out).trans (hbel.mono (by omega)), Nat.le_refl _⟩
          have hg3x : g3 < x.heap.size := by
            have hp := hP 0 (by omega)
            exact World.block_lt_of_cell? _ _ hp
          refine (wpIn_wide (n := 6)).1 ?_
          refine wpIn_rangeFunc_ownG rfl (by decide) (gf := 140) (lb := #[.pointer (some ⟨wr.heap.size, 0, none⟩), .pointer (some ⟨wr.heap.size + 1, 0, none⟩)]) rfl trivial (enters_of Tryz.func140 (by kernel_rfl) rfl)
            (chunk_stops 5 (by decide) wr.heap.size (wr.heap.size + 1) g3 off3 L2 cap3 (L2 / 64) (by omega) hcapL.1 (by omega) x hx1 hx2)
            (fun h1 h2 => ⟨h2.1.trans h1.1, h2.2.trans h1.2⟩) (fun W l o o' hl _ _ _ => ⟨World.putObj_heap_other (by omega), World.putObj_heap_other (by omega)⟩) (Below.refl _ _) (fun _ => rfl)
            (SumI w x.heap.size w.heap.size g3 off3 (padded s.data.toList) (L2 / 64)) (fun _ _ _ => False)
            (sumI_own w x w.heap.size g3 off3 _ _ (by omega) hg3x (by have := Htl.out; omega) (by omega)) (fun _ _ _ _ _ h _ _ => h) hI0 ?a1 ?assign ?body ?done ?stop
          case assign =>
            intro l k W K hK
            gi_wp2
            exact hK
          case stop => intro D c pre W _ _ h _; exact h.elim
          case body =>
            rintro l pre k W ⟨i1, i2, i3, i4, i5⟩ hpl2
            have hk64 : 64 * k.1 + 64 ≤ (padded s.data.toList).length := by have := k.2; omega
            have hlt := stOf_lt (padded s.data.toList) (pre.map (·.1))
            have hsub := bytes_sub i2 k.1 hk64
            have hgW : g3 < W.heap.size := Nat.lt_of_lt_of_le hg3x i5
            have hlen64 : (((padded s.data.toList).drop (64 * k.1)).take 64).length = 64 := by simp; omega
            have HA := Lib.hid (add_any (stOf (padded s.data.toList) (pre.map (·.1))) hlt _ w.heap.size g3 (off3 + 64 * k.1) 64 W hlen64 hsub hgW i1 i3)
            have HI1 := Lib.hid i1
            have HI2 := Lib.hid i2
            have HI3 := Lib.hid i3
            have HI4 := Lib.hid i4
            clear hlt hsub hlen64 i1 i2 i3 i4 hP hI0 hx1 hx2
            gi_wp2_with (refine ⟨trivial, ?_⟩; gi_at_call 69; refine (CallsIn.inRound l (callsIn_wide.2 HA.out)).mono ?_; rintro e W' ⟨rfl, hU, hh'⟩)
            have hc := hU.chg
            have hbw : w.heap.size < w1.heap.size := by omega
            refine ⟨⟨hc.size, fun j o hj hjo _ => hc.block hjo (by simp; omega)⟩, ⟨hU.2.2.2.2 _ (by omega) (by have := HB3.out.size; omega), hU.2.2.2.2 _ (by omega) (by have := HB3.out.size; omega)⟩, ?_⟩
            refine ⟨?_, fun i hi => hc.cell (HI2.out i hi) (by simp; omega), HI3.out.same (hc.at_ HI3.out.lt (by have := Htl.out; simp; omega)), HI4.out.trans (hc.below (fun j hj => by simp at hj; omega) HI4.out.size), Nat.le_trans i5 hc.size⟩
            rw [hh', List.map_append, List.map_cons, List.map_nil, stOf_snoc]
          case done =>
            rintro D xs W hD rfl ⟨i1, i2, i3, i4, i5⟩ hK
            have hst : (List.finRange (L2 / 64)).map (·.1) = List.range (L2 / 64) := fin_range _
            rw [hst] at i1
            have HI1 := Lib.hid i1
            have HI4 := Lib.hid i4
            have HK := Lib.hid hK
            have hlt := stOf_lt (padded s.data.toList) (List.range (L2 / 64))
            have Hsha : Hid ((⟨(stBytes (stOf (padded s.data.toList) (List.range (L2 / 64)))).toArray⟩ : ByteArray) = sha s) := Lib.hid (by rw [hplen]; rfl)
            generalize stOf (padded s.data.toList) (List.range (L2 / 64)) = st at HI1 hlt Hsha
            have ht66 : Hid ((Tryz.prog.info? 158).map (·.size) = some (stC st).toArray.size) := Lib.hid (size66.trans rfl)
            clear i1 i2 i3 i4 hK hst hP hI0 hx1 hx2
            go_wp2_with (first | ((with_reducible show wpList _ _ _ (⟨some 38, _, _, _, _, _⟩ :: _) _ _); refine wpList_load_row rfl 158 (.tmp 3) rfl w.heap.size rfl 158 (stC st).toArray (0, 0) _ HI1.out Tryz.underlying158 rfl ht66.out ?_; simp only [Act.put, List.setIfInBounds_toArray, List.set_cons_zero, List.set_cons_succ]) | (go_at_call 70; refine (digest_any st _ hlt).mono ?_; rintro e W' ⟨rfl, hg⟩))
            have hK2 := hg.block HK.out
            refine ⟨by simp, .inl ⟨_, _, rfl, run_takeDeferred hK2, ?_⟩⟩
            refine ⟨_, results_tmp rfl _ _ _, ?_, ?_⟩
            · rw [← Hsha.out]; rfl
            · have h1 : Below w.heap.size w W' := HI4.out.trans ((show Below W.heap.size W W' from hg).mono HI4.out.size)
              exact h1.trans ((Chg.of_grownBy (grownBy_putObj' W' D _)).below (fun j hj => by simp at hj; omega) h1.size)
end Go.Proofs.YtaoggehdkddgeaaGreatDoor
