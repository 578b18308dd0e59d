/- The laws' helper step: a call on a disk and on the reference's. -/
import Derived.Test.YtmkdnfiiehgcaaaStA
namespace Go.Proofs.Ytmkdnfiiehgcaaa
open Go Go.RowKit
attribute [local go_sem] gAt gUpon hUpon
attribute [local simp] Gr.refl Gr.alloc

theorem cells5k {W : World} {g : Nat} {a b c d e : Value} {t : TypeId} (h : W.heap[g]? = some (.cells #[a, b, c, d, e] t (0, 0))) :
    W.cell? ⟨g, 0, none⟩ = some a ∧ W.cell? ⟨g, 1, none⟩ = some b ∧ W.cell? ⟨g, 2, none⟩ = some c ∧ W.cell? ⟨g, 3, none⟩ = some d ∧ W.cell? ⟨g, 4, none⟩ = some e :=
  ⟨by rw [cell_of_row _ _ _ _ _ _ h]; rfl, by rw [cell_of_row _ _ _ _ _ _ h]; rfl, by rw [cell_of_row _ _ _ _ _ _ h]; rfl, by rw [cell_of_row _ _ _ _ _ _ h]; rfl, by rw [cell_of_row _ _ _ _ _ _ h]; rfl⟩
theorem writeD_len (d : Dk) (n : Nat) (o : Int) (s : ByteArray) : (writeD d n o s).2.pend.length ≤ d.pend.length + 1 := by
  unfold writeD
  split
  · exact Nat.le_succ _
  · split
    · exact Nat.le_succ _
    · simp
theorem syncD_len (d : Dk) : (syncD d).2.pend.length ≤ d.pend.length + 1 := by
  unfold syncD
  split
  · exact Nat.le_succ _
  · exact Nat.zero_le _
theorem cutD_len (d : Dk) (m : Int) : (cutD d m).2.pend.length ≤ d.pend.length + 1 := by
  unfold cutD
  split
  · exact Nat.le_succ _
  · split <;> exact Nat.le_succ _
set_option maxRecDepth 100000 in
set_option maxHeartbeats 4000000 in
theorem step_any {w W : World} {gd gx n : Nat} {d : Dk} (call off m : Int) (s : ByteArray) (pk : Option Addr) (lk : List Int) (ck : Nat) (h : Both w (fun _ => False) gd gx n d d W) (hn1 : 1 ≤ n) (hn : n ≤ 4194304) (hp : d.pend.length ≤ 100000)
    (hcb : -9223372036854775808 ≤ call ∧ call ≤ 9223372036854775807) (hob : -9223372036854775808 ≤ off ∧ off ≤ 9223372036854775807) (hmb : -9223372036854775808 ≤ m ∧ m ≤ 9223372036854775807) (hs : s.size ≤ 9223372036854775807)
    (hz : IntsBelow w.heap.size (.slice pk lk.length ck) lk w) (hck : lk.length ≤ ck) (hlk : lk.length ≤ 9223372036854775807) :
    Calls Try.prog 19 #[.pointer (some ⟨gd, 0, none⟩), .pointer (some ⟨gx, 0, none⟩), .agg #[.int .i64 call, .int .i64 off, .int .i64 m, .string s, .slice pk lk.length ck]] W fun e V => e = .returned (.bool true) ∧ Hid (∃ d', Both w (fun _ => False) gd gx n d' d' V ∧ d'.pend.length ≤ d.pend.length + 1) := by
  have HP := Lib.hid (fun x => pick_any call 6 x hcb (by decide) (by decide))
  have hr6 := pickD_lt call (n := 6) (by decide)
  generalize pickD call 6 = r at HP hr6
  have hrs : r = 0 ∨ r = 1 ∨ r = 2 ∨ r = 3 ∨ r = 4 ∨ r = 5 := by omega
  obtain ⟨bb, hbb⟩ : ∃ bb, bb = W.heap.size := ⟨_, rfl⟩
  have hbox := heap_alloc_new W (.cells #[.int .i64 call, .int .i64 off, .int .i64 m, .string s, .slice pk lk.length ck] 39)
  have HB0 : Hid (Both w (fun j => j = bb) gd gx n d d (W.alloc (.cells #[.int .i64 call, .int .i64 off, .int .i64 m, .string s, .slice pk lk.length ck] 39)) ∧ Gr W (W.alloc (.cells #[.int .i64 call, .int .i64 off, .int .i64 m, .string s, .slice pk lk.length ck] 39))) := Lib.hid ⟨h.more (Gr.alloc _ _) (fun j hj => .inr (by rw [World.size_alloc]; omega)), Gr.alloc _ _⟩
  have HZ := Lib.hid hz
  have HLk := Lib.hid hlk
  rw [← hbb] at hbox
  have HX0 := Lib.hid hbox
  clear hcb hz h hbox
  go_enter Try.func19, Try.ntmps19
  go_upto_region 1 with fail
  rw [← hbb]
  refine wp_gen (F := fun y => (Both w (fun j => j = bb) gd gx n d d y ∧ Gr W y) ∧ y.heap[bb]? = some (.cells #[.int .i64 call, .int .i64 off, .int .i64 m, .string s, .slice pk lk.length ck] 39 (0, 0))) ⟨HB0.out, HX0.out⟩ ?_
  clear HB0 HX0 hbb
  rintro wB ⟨⟨hB, hgB⟩, hX⟩
  obtain ⟨c0, c1, c2, c3, c4⟩ := cells5k hX
  have HB := Lib.hid hB
  have HG := Lib.hid hgB
  have HX := Lib.hid hX
  have hbl : bb < wB.heap.size := World.block_lt_of_cell? wB ⟨bb, 0, none⟩ c0
  clear hB hgB hX
  rcases hrs with rfl | rfl | rfl | rfl | rfl | rfl
  · have HC := Lib.hid (fun x => cut_str s 300 x hs (by decide))
    obtain ⟨s', hs'⟩ : ∃ s', s.extract 0 (min s.size 300) = s' := ⟨_, rfl⟩
    have hsz : s'.size ≤ 300 := by rw [← hs', ByteArray.size_extract]; omega
    rw [hs'] at HC
    have hle := writeD_len d n off s'
    obtain ⟨⟨rv, d'⟩, hrv⟩ : ∃ x, writeD d n off s' = x := ⟨_, rfl⟩
    rw [hrv] at hle
    have HW1 := Lib.hid (fun V (hg : Gr wB V) => b_write hrv (HB.out.gr hg) hn (by omega) hob)
    have HW2 := Lib.hid (fun V (hT : Both w (fun j => j = bb) gd gx n d' d V) => br_write hrv hT hn1 hn (by omega) hob (by omega))
    clear hrv hs'
    go_wp2_with fail
    refine (HP.out _).mono ?_
    rintro e w2 ⟨rfl, rfl⟩
    go_wp2_with fail
    refine (HC.out _).mono ?_
    rintro e w2 ⟨rfl, rfl⟩
    clear HC
    go_upto_region 5 with fail
    refine wp_region_noPanic ?_
    refine wp_region_held_drew (S := (fun w' => w'.cell? ⟨bb, 1, none⟩ = some (.int .i64 off))) (by kernel_rfl) c1 (fun hHeld => ?_)
    refine held_take 0 (v := ?_) rfl rfl (by kernel_rfl) (by kernel_rfl) (by kernel_rfl) (fun _ _ _ h => h) (by rfl) ?_ (by assumption) ?_
    rotate_left
    · (intro w hSw; (try dsimp only at hSw); go_simp; try with_reducible rfl)
    try simp only [Act.put, List.setIfInBounds_toArray, List.set_cons_zero, List.set_cons_succ]
    refine held_take 1 (v := ?_) rfl rfl (by kernel_rfl) (by kernel_rfl) (by kernel_rfl) (fun _ _ _ h => h) (by rfl) ?_ (by assumption) ?_
    rotate_left
    · (intro w hSw; (try dsimp only at hSw); go_simp; try with_reducible rfl)
    try simp only [Act.put, List.setIfInBounds_toArray, List.set_cons_zero, List.set_cons_succ]
    refine held_take 2 (v := ?_) rfl rfl (by kernel_rfl) (by kernel_rfl) (by kernel_rfl) (fun _ _ _ h => h) (by rfl) ?_ (by assumption) ?_
    rotate_left
    · (intro w hSw; (try dsimp only at hSw); go_simp; try with_reducible rfl)
    try simp only [Act.put, List.setIfInBounds_toArray, List.set_cons_zero, List.set_cons_succ]
    refine held_take 3 (v := ?_) rfl rfl (by kernel_rfl) (by kernel_rfl) (by kernel_rfl) (fun _ _ _ h => h) (by rfl) ?_ (by assumption) ?_
    rotate_left
    · (intro w hSw; (try dsimp only at hSw); go_simp; try with_reducible rfl)
    try simp only [Act.put, List.setIfInBounds_toArray, List.set_cons_zero, List.set_cons_succ]
    refine held_take 5 (v := ?_) rfl rfl (by kernel_rfl) (by kernel_rfl) (by kernel_rfl) (fun _ _ _ h => h) (by rfl) ?_ (by assumption) ?_
    rotate_left
    · (intro w hSw; (try dsimp only at hSw); go_simp; try with_reducible rfl)
    try simp only [Act.put, List.setIfInBounds_toArray, List.set_cons_zero, List.set_cons_succ]
    refine held_take 6 (v := ?_) rfl rfl (by kernel_rfl) (by kernel_rfl) (by kernel_rfl) (fun _ _ _ h => h) (by rfl) ?_ (by assumption) ?_
    rotate_left
    · (intro w hSw; (try dsimp only at hSw); go_simp; try with_reducible rfl)
    try simp only [Act.put, List.setIfInBounds_toArray, List.set_cons_zero, List.set_cons_succ]
    refine held_take 7 (v := ?_) rfl rfl (by kernel_rfl) (by kernel_rfl) (by kernel_rfl) (fun _ _ _ h => h) (by rfl) ?_ (by assumption) ?_
    rotate_left
    · (intro w hSw; (try dsimp only at hSw); go_simp; try with_reducible rfl)
    try simp only [Act.put, List.setIfInBounds_toArray, List.set_cons_zero, List.set_cons_succ]
    refine held_take 8 (v := ?_) rfl rfl (by kernel_rfl) (by kernel_rfl) (by kernel_rfl) (fun _ _ _ h => h) (by rfl) ?_ (by assumption) ?_
    rotate_left
    · (intro w hSw; (try dsimp only at hSw); go_simp; try with_reducible rfl)
    try simp only [Act.put, List.setIfInBounds_toArray, List.set_cons_zero, List.set_cons_succ]
    refine held_step 4 (by kernel_rfl) rfl rfl (by rfl) ?_
    go_simp
    refine (HW1.out _ (Gr.drew _)).mono ?_
    rintro e wE ⟨rfl, hTE, hcE⟩
    have hxE := fre_row hcE (Gr.block (Gr.drew wB) HX.out) (.inl rfl)
    have hbE := (cells5k hxE).2.1
    have HTE := Lib.hid hTE
    have HxE := Lib.hid hxE
    clear hTE hcE hHeld hxE
    refine ⟨_, rfl, Thn.mk hbE (fun hHeld => ?_)⟩
    try simp only [Act.put, List.setIfInBounds_toArray, List.set_cons_zero, List.set_cons_succ]
    refine held_step 9 (by kernel_rfl) rfl rfl (by rfl) ?_
    go_simp
    refine (HW2.out _ HTE.out).mono ?_
    rintro e wF ⟨rfl, hTF, hcF⟩
    have hbF := (cells5k (fre_row hcF HxE.out (.inl rfl))).2.1
    have HTF := Lib.hid hTF
    clear hTF hcF hHeld
    refine ⟨_, rfl, Thn.mk hbF (fun hHeld => ?_)⟩
    try simp only [Act.put, List.setIfInBounds_toArray, List.set_cons_zero, List.set_cons_succ]
    refine held_take 10 (v := ?_) rfl rfl (by kernel_rfl) (by kernel_rfl) (by kernel_rfl) (fun _ _ _ h => h) (by rfl) ?_ (by assumption) ?_
    rotate_left
    · (intro w hSw; (try dsimp only at hSw); go_simp; try with_reducible rfl)
    try simp only [Act.put, List.setIfInBounds_toArray, List.set_cons_zero, List.set_cons_succ]
    refine held_take 11 (v := ?_) rfl rfl (by kernel_rfl) (by kernel_rfl) (by kernel_rfl) (fun _ _ _ h => h) (by rfl) ?_ (by assumption) ?_
    rotate_left
    · (intro w hSw; (try dsimp only at hSw); go_simp; try with_reducible rfl)
    try simp only [Act.put, List.setIfInBounds_toArray, List.set_cons_zero, List.set_cons_succ]
    refine wpAnyH_done (by kernel_rfl) ?_ _
    refine NoPanic.normal ?_
    have HF : Hid (∃ d', Both w (fun _ => False) gd gx n d' d' wF ∧ d'.pend.length ≤ d.pend.length + 1) := Lib.hid ⟨d', HTF.out.more (Gr.refl _) (fun k hk => hk.elim), hle⟩
    clear HTE HTF HxE hbE hbF
    go_wp2_with fail
    go_ret
    exact ⟨rfl, HF.out⟩
  · have HC := Lib.hid (fun x => cut_str s 300 x hs (by decide))
    obtain ⟨s', hs'⟩ : ∃ s', s.extract 0 (min s.size 300) = s' := ⟨_, rfl⟩
    have hsz : s'.size ≤ 300 := by rw [← hs', ByteArray.size_extract]; omega
    rw [hs'] at HC
    have hle := writeD_len d n off s'
    obtain ⟨⟨rv, d'⟩, hrv⟩ : ∃ x, writeD d n off s' = x := ⟨_, rfl⟩
    rw [hrv] at hle
    have HW1 := Lib.hid (fun V (hg : Gr wB V) => b_write hrv (HB.out.gr hg) hn (by omega) hob)
    have HW2 := Lib.hid (fun V (hT : Both w (fun j => j = bb) gd gx n d' d V) => br_write hrv hT hn1 hn (by omega) hob (by omega))
    clear hrv hs'
    go_wp2_with fail
    refine (HP.out _).mono ?_
    rintro e w2 ⟨rfl, rfl⟩
    go_wp2_with fail
    refine (HC.out _).mono ?_
    rintro e w2 ⟨rfl, rfl⟩
    clear HC
    go_upto_region 5 with fail
    refine wp_region_noPanic ?_
    refine wp_region_held_drew (S := (fun w' => w'.cell? ⟨bb, 1, none⟩ = some (.int .i64 off))) (by kernel_rfl) c1 (fun hHeld => ?_)
    refine held_take 0 (v := ?_) rfl rfl (by kernel_rfl) (by kernel_rfl) (by kernel_rfl) (fun _ _ _ h => h) (by rfl) ?_ (by assumption) ?_
    rotate_left
    · (intro w hSw; (try dsimp only at hSw); go_simp; try with_reducible rfl)
    try simp only [Act.put, List.setIfInBounds_toArray, List.set_cons_zero, List.set_cons_succ]
    refine held_take 1 (v := ?_) rfl rfl (by kernel_rfl) (by kernel_rfl) (by kernel_rfl) (fun _ _ _ h => h) (by rfl) ?_ (by assumption) ?_
    rotate_left
    · (intro w hSw; (try dsimp only at hSw); go_simp; try with_reducible rfl)
    try simp only [Act.put, List.setIfInBounds_toArray, List.set_cons_zero, List.set_cons_succ]
    refine held_take 2 (v := ?_) rfl rfl (by kernel_rfl) (by kernel_rfl) (by kernel_rfl) (fun _ _ _ h => h) (by rfl) ?_ (by assumption) ?_
    rotate_left
    · (intro w hSw; (try dsimp only at hSw); go_simp; try with_reducible rfl)
    try simp only [Act.put, List.setIfInBounds_toArray, List.set_cons_zero, List.set_cons_succ]
    refine held_take 3 (v := ?_) rfl rfl (by kernel_rfl) (by kernel_rfl) (by kernel_rfl) (fun _ _ _ h => h) (by rfl) ?_ (by assumption) ?_
    rotate_left
    · (intro w hSw; (try dsimp only at hSw); go_simp; try with_reducible rfl)
    try simp only [Act.put, List.setIfInBounds_toArray, List.set_cons_zero, List.set_cons_succ]
    refine held_take 5 (v := ?_) rfl rfl (by kernel_rfl) (by kernel_rfl) (by kernel_rfl) (fun _ _ _ h => h) (by rfl) ?_ (by assumption) ?_
    rotate_left
    · (intro w hSw; (try dsimp only at hSw); go_simp; try with_reducible rfl)
    try simp only [Act.put, List.setIfInBounds_toArray, List.set_cons_zero, List.set_cons_succ]
    refine held_take 6 (v := ?_) rfl rfl (by kernel_rfl) (by kernel_rfl) (by kernel_rfl) (fun _ _ _ h => h) (by rfl) ?_ (by assumption) ?_
    rotate_left
    · (intro w hSw; (try dsimp only at hSw); go_simp; try with_reducible rfl)
    try simp only [Act.put, List.setIfInBounds_toArray, List.set_cons_zero, List.set_cons_succ]
    refine held_take 7 (v := ?_) rfl rfl (by kernel_rfl) (by kernel_rfl) (by kernel_rfl) (fun _ _ _ h => h) (by rfl) ?_ (by assumption) ?_
    rotate_left
    · (intro w hSw; (try dsimp only at hSw); go_simp; try with_reducible rfl)
    try simp only [Act.put, List.setIfInBounds_toArray, List.set_cons_zero, List.set_cons_succ]
    refine held_take 8 (v := ?_) rfl rfl (by kernel_rfl) (by kernel_rfl) (by kernel_rfl) (fun _ _ _ h => h) (by rfl) ?_ (by assumption) ?_
    rotate_left
    · (intro w hSw; (try dsimp only at hSw); go_simp; try with_reducible rfl)
    try simp only [Act.put, List.setIfInBounds_toArray, List.set_cons_zero, List.set_cons_succ]
    refine held_step 4 (by kernel_rfl) rfl rfl (by rfl) ?_
    go_simp
    refine (HW1.out _ (Gr.drew _)).mono ?_
    rintro e wE ⟨rfl, hTE, hcE⟩
    have hxE := fre_row hcE (Gr.block (Gr.drew wB) HX.out) (.inl rfl)
    have hbE := (cells5k hxE).2.1
    have HTE := Lib.hid hTE
    have HxE := Lib.hid hxE
    clear hTE hcE hHeld hxE
    refine ⟨_, rfl, Thn.mk hbE (fun hHeld => ?_)⟩
    try simp only [Act.put, List.setIfInBounds_toArray, List.set_cons_zero, List.set_cons_succ]
    refine held_step 9 (by kernel_rfl) rfl rfl (by rfl) ?_
    go_simp
    refine (HW2.out _ HTE.out).mono ?_
    rintro e wF ⟨rfl, hTF, hcF⟩
    have hbF := (cells5k (fre_row hcF HxE.out (.inl rfl))).2.1
    have HTF := Lib.hid hTF
    clear hTF hcF hHeld
    refine ⟨_, rfl, Thn.mk hbF (fun hHeld => ?_)⟩
    try simp only [Act.put, List.setIfInBounds_toArray, List.set_cons_zero, List.set_cons_succ]
    refine held_take 10 (v := ?_) rfl rfl (by kernel_rfl) (by kernel_rfl) (by kernel_rfl) (fun _ _ _ h => h) (by rfl) ?_ (by assumption) ?_
    rotate_left
    · (intro w hSw; (try dsimp only at hSw); go_simp; try with_reducible rfl)
    try simp only [Act.put, List.setIfInBounds_toArray, List.set_cons_zero, List.set_cons_succ]
    refine held_take 11 (v := ?_) rfl rfl (by kernel_rfl) (by kernel_rfl) (by kernel_rfl) (fun _ _ _ h => h) (by rfl) ?_ (by assumption) ?_
    rotate_left
    · (intro w hSw; (try dsimp only at hSw); go_simp; try with_reducible rfl)
    try simp only [Act.put, List.setIfInBounds_toArray, List.set_cons_zero, List.set_cons_succ]
    refine wpAnyH_done (by kernel_rfl) ?_ _
    refine NoPanic.normal ?_
    have HF : Hid (∃ d', Both w (fun _ => False) gd gx n d' d' wF ∧ d'.pend.length ≤ d.pend.length + 1) := Lib.hid ⟨d', HTF.out.more (Gr.refl _) (fun k hk => hk.elim), hle⟩
    clear HTE HTF HxE hbE hbF
    go_wp2_with fail
    go_ret
    exact ⟨rfl, HF.out⟩
  · have hle := syncD_len d
    obtain ⟨⟨rv, d'⟩, hrv⟩ : ∃ x, syncD d = x := ⟨_, rfl⟩
    rw [hrv] at hle
    have HW1 := Lib.hid (b_sync hrv HB.out)
    have HW2 := Lib.hid (fun V (hT : Both w (fun j => j = bb) gd gx n d' d V) => br_sync hrv hT hn1 hn (by omega))
    clear hrv
    go_wp2_with fail
    refine (HP.out _).mono ?_
    rintro e w2 ⟨rfl, rfl⟩
    go_wp2_with fail
    refine HW1.out.mono ?_
    rintro e wE ⟨rfl, hTE, hcE⟩
    have HW3 := Lib.hid (HW2.out _ hTE)
    clear hTE hcE HW1 HW2
    go_wp2_with fail
    refine HW3.out.mono ?_
    rintro e wF ⟨rfl, hTF, hcF⟩
    have HF : Hid (∃ d', Both w (fun _ => False) gd gx n d' d' wF ∧ d'.pend.length ≤ d.pend.length + 1) := Lib.hid ⟨d', hTF.more (Gr.refl _) (fun k hk => hk.elim), hle⟩
    clear hTF hcF HW3
    go_wp2_with fail
    go_ret
    exact ⟨rfl, HF.out⟩
  · obtain ⟨⟨rt, rv⟩, hrv⟩ : ∃ x, readD d n off m = x := ⟨_, rfl⟩
    have HW1 := Lib.hid (b_read hrv HB.out hn hob)
    have HW2 := Lib.hid (br_read hrv HB.out hn1 hn (by omega) hob)
    clear hrv
    go_wp2_with fail
    refine (HP.out _).mono ?_
    rintro e w2 ⟨rfl, rfl⟩
    go_wp2_with fail
    refine HW1.out.mono ?_
    rintro e wE ⟨rfl, rfl⟩
    clear HW1
    go_wp2_with fail
    refine HW2.out.mono ?_
    rintro e wF ⟨rfl, hgF⟩
    have HF : Hid (∃ d', Both w (fun _ => False) gd gx n d' d' wF ∧ d'.pend.length ≤ d.pend.length + 1) := Lib.hid ⟨d, (HB.out.gr hgF).more (Gr.refl _) (fun k hk => hk.elim), Nat.le_succ _⟩
    clear hgF HW2
    go_wp2_with fail
    go_ret
    exact ⟨rfl, HF.out⟩
  · have hle := cutD_len d m
    obtain ⟨⟨rv, d'⟩, hrv⟩ : ∃ x, cutD d m = x := ⟨_, rfl⟩
    rw [hrv] at hle
    have HW1 := Lib.hid (fun V (hg : Gr wB V) => b_cut hrv (HB.out.gr hg) hmb.2)
    have HW2 := Lib.hid (fun V (hT : Both w (fun j => j = bb) gd gx n d' d V) => br_cut hrv hT hmb.2)
    clear hrv
    go_wp2_with fail
    refine (HP.out _).mono ?_
    rintro e w2 ⟨rfl, rfl⟩
    go_upto_region 13 with fail
    refine wp_region_noPanic ?_
    refine wp_region_held_drew (S := (fun w' => w'.cell? ⟨bb, 2, none⟩ = some (.int .i64 m))) (by kernel_rfl) c2 (fun hHeld => ?_)
    refine held_take 0 (v := ?_) rfl rfl (by kernel_rfl) (by kernel_rfl) (by kernel_rfl) (fun _ _ _ h => h) (by rfl) ?_ (by assumption) ?_
    rotate_left
    · (intro w hSw; (try dsimp only at hSw); go_simp; try with_reducible rfl)
    try simp only [Act.put, List.setIfInBounds_toArray, List.set_cons_zero, List.set_cons_succ]
    refine held_take 1 (v := ?_) rfl rfl (by kernel_rfl) (by kernel_rfl) (by kernel_rfl) (fun _ _ _ h => h) (by rfl) ?_ (by assumption) ?_
    rotate_left
    · (intro w hSw; (try dsimp only at hSw); go_simp; try with_reducible rfl)
    try simp only [Act.put, List.setIfInBounds_toArray, List.set_cons_zero, List.set_cons_succ]
    refine held_take 2 (v := ?_) rfl rfl (by kernel_rfl) (by kernel_rfl) (by kernel_rfl) (fun _ _ _ h => h) (by rfl) ?_ (by assumption) ?_
    rotate_left
    · (intro w hSw; (try dsimp only at hSw); go_simp; try with_reducible rfl)
    try simp only [Act.put, List.setIfInBounds_toArray, List.set_cons_zero, List.set_cons_succ]
    refine held_take 4 (v := ?_) rfl rfl (by kernel_rfl) (by kernel_rfl) (by kernel_rfl) (fun _ _ _ h => h) (by rfl) ?_ (by assumption) ?_
    rotate_left
    · (intro w hSw; (try dsimp only at hSw); go_simp; try with_reducible rfl)
    try simp only [Act.put, List.setIfInBounds_toArray, List.set_cons_zero, List.set_cons_succ]
    refine held_take 5 (v := ?_) rfl rfl (by kernel_rfl) (by kernel_rfl) (by kernel_rfl) (fun _ _ _ h => h) (by rfl) ?_ (by assumption) ?_
    rotate_left
    · (intro w hSw; (try dsimp only at hSw); go_simp; try with_reducible rfl)
    try simp only [Act.put, List.setIfInBounds_toArray, List.set_cons_zero, List.set_cons_succ]
    refine held_take 6 (v := ?_) rfl rfl (by kernel_rfl) (by kernel_rfl) (by kernel_rfl) (fun _ _ _ h => h) (by rfl) ?_ (by assumption) ?_
    rotate_left
    · (intro w hSw; (try dsimp only at hSw); go_simp; try with_reducible rfl)
    try simp only [Act.put, List.setIfInBounds_toArray, List.set_cons_zero, List.set_cons_succ]
    refine held_step 3 (by kernel_rfl) rfl rfl (by rfl) ?_
    go_simp
    refine (HW1.out _ (Gr.drew _)).mono ?_
    rintro e wE ⟨rfl, hTE, hcE⟩
    have hxE := fre_row hcE (Gr.block (Gr.drew wB) HX.out) (.inl rfl)
    have hbE := (cells5k hxE).2.2.1
    have HTE := Lib.hid hTE
    have HxE := Lib.hid hxE
    clear hTE hcE hHeld hxE
    refine ⟨_, rfl, Thn.mk hbE (fun hHeld => ?_)⟩
    try simp only [Act.put, List.setIfInBounds_toArray, List.set_cons_zero, List.set_cons_succ]
    refine held_step 7 (by kernel_rfl) rfl rfl (by rfl) ?_
    go_simp
    refine (HW2.out _ HTE.out).mono ?_
    rintro e wF ⟨rfl, hTF, hcF⟩
    have hbF := (cells5k (fre_row hcF HxE.out (.inl rfl))).2.2.1
    have HTF := Lib.hid hTF
    clear hTF hcF hHeld
    refine ⟨_, rfl, Thn.mk hbF (fun hHeld => ?_)⟩
    try simp only [Act.put, List.setIfInBounds_toArray, List.set_cons_zero, List.set_cons_succ]
    refine held_take 8 (v := ?_) rfl rfl (by kernel_rfl) (by kernel_rfl) (by kernel_rfl) (fun _ _ _ h => h) (by rfl) ?_ (by assumption) ?_
    rotate_left
    · (intro w hSw; (try dsimp only at hSw); go_simp; try with_reducible rfl)
    try simp only [Act.put, List.setIfInBounds_toArray, List.set_cons_zero, List.set_cons_succ]
    refine held_take 9 (v := ?_) rfl rfl (by kernel_rfl) (by kernel_rfl) (by kernel_rfl) (fun _ _ _ h => h) (by rfl) ?_ (by assumption) ?_
    rotate_left
    · (intro w hSw; (try dsimp only at hSw); go_simp; try with_reducible rfl)
    try simp only [Act.put, List.setIfInBounds_toArray, List.set_cons_zero, List.set_cons_succ]
    refine wpAnyH_done (by kernel_rfl) ?_ _
    refine NoPanic.normal ?_
    have HF : Hid (∃ d', Both w (fun _ => False) gd gx n d' d' wF ∧ d'.pend.length ≤ d.pend.length + 1) := Lib.hid ⟨d', HTF.out.more (Gr.refl _) (fun k hk => hk.elim), hle⟩
    clear HTE HTF HxE hbE hbF
    go_wp2_with fail
    go_ret
    exact ⟨rfl, HF.out⟩
  · have emn : min (lk.length : Int) 100 = ((min lk.length 100 : Nat) : Int) := by omega
    have hm1 : min lk.length 100 ≤ ck := by omega
    have hm2 : min lk.length 100 ≤ lk.length := Nat.min_le_left _ _
    have hlt : (lk.take 100).length = min lk.length 100 := by rw [List.length_take, Nat.min_comm]
    have hzt : ∀ V, Gr w V → IntsBelow V.heap.size (.slice pk (min lk.length 100) ck) (lk.take 100) V := fun V hg => by
      rcases HZ.out with ⟨h0, p, cap, he⟩ | ⟨b, o, cap, he, hlt', hc⟩
      · subst h0
        exact .inl ⟨rfl, pk, ck, rfl⟩
      · injection he with e1 e2 e3
        subst e1 e3
        refine .inr ⟨b, o, ck, by rw [hlt], Nat.lt_of_lt_of_le hlt' hg.size, fun j x hj => ?_⟩
        rw [List.getElem?_take] at hj
        split at hj
        · exact hg.cell (hc j x hj)
        · cases hj
    have HW1 := Lib.hid (br_crash (.slice pk (min lk.length 100) ck) (lk.take 100) m rfl HB.out hn1 hn (by omega) (by rw [hlt]; omega) (hzt wB HB.out.g) hmb)
    have HW2 : Hid (∀ V, Both w (fun j => j = bb) gd gx n d (crashD d (lk.take 100) m) V → True → Calls Try.prog 25 #[.pointer (some ⟨gd, 0, none⟩), .slice pk (min lk.length 100) ck, .int .i64 m] V fun u V' => u = .returned (.int .i64 0) ∧ Both w (fun j => j = bb) gd gx n (crashD d (lk.take 100) m) (crashD d (lk.take 100) m) V' ∧ Chs (Fre w (fun j => j = bb)) V V') :=
      Lib.hid (fun V hV _ => b_crash (.slice pk (min lk.length 100) ck) (lk.take 100) m rfl hV hn (by omega) (by rw [hlt]; omega) (hzt V hV.g) hmb)
    have hd5 : (crashD d (lk.take 100) m).pend.length ≤ d.pend.length + 1 := Nat.zero_le _
    generalize crashD d (lk.take 100) m = d' at HW1 HW2 hd5
    generalize min lk.length 100 = mk at *
    clear hzt hlt
    go_wp2_with fail
    refine (HP.out _).mono ?_
    rintro e w2 ⟨rfl, rfl⟩
    go_wp2_with fail
    refine HW1.out.mono ?_
    rintro e wE ⟨rfl, hTE, hcE⟩
    have HW3 := Lib.hid (HW2.out _ hTE trivial)
    have hxE := fre_row hcE HX.out (.inl rfl)
    obtain ⟨-, -, c2, -⟩ := cells5k hxE
    clear hTE hcE HW1 HW2 hxE
    go_wp2_with fail
    refine HW3.out.mono ?_
    rintro e wF ⟨rfl, hTF, hcF⟩
    have HF : Hid (∃ d', Both w (fun _ => False) gd gx n d' d' wF ∧ d'.pend.length ≤ d.pend.length + 1) := Lib.hid ⟨d', hTF.more (Gr.refl _) (fun k hk => hk.elim), hd5⟩
    clear hTF hcF HW3
    go_wp2_with fail
    go_ret
    exact ⟨rfl, HF.out⟩
end Go.Proofs.Ytmkdnfiiehgcaaa
