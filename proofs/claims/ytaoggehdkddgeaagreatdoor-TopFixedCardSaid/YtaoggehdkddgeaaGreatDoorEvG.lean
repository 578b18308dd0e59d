/- Package evidence: Since, of a first stamp. -/
import Derived.Test.YtaoggehdkddgeaaGreatDoorGEvE
import Derived.Test.YtaoggehdkddgeaaGreatDoorMF
import Derived.Test.YtaoggehdkddgeaaGreatDoorGBack
namespace Go.Proofs.YtaoggehdkddgeaaGreatDoor
open Go Go.RowKit Go.Shelf
attribute [local go_sem] gAt gUpon hUpon Oper.semAt_some
attribute [local simp] Gr.refl Gr.alloc

/-- a range over a function whose loop variables lie where mk says -/
theorem wpIn_rangeFunc_mk {F : Fence} {n : Nat} {P : Program} {α : Type} {g : Operand} {ps : Array Tmp} {assign body : Code} {Q : Exit → Act → World → Prop} {a : Act} {w : World} (mk : Act → α → Nat → Act) (el : α → Array Value) (t : TypeId)
    (hro : F.round = none) (h1 : 1 ≤ n) {gf : Nat} {lb : Array Value} (hg : a.eval g = .func (.func gf) #[] lb) (hFg : F.fn gf) (eg : ∀ args w, (callFunc gf args).run P w = .ok (.enter gf args) w)
    {encs : α → Array Value} {Kp : World → World → Prop} {S Sp : List α → Prop} {N : Nat} {w0 : World} (hseq : SeqStopsK F (n - 1) P gf lb encs Kp S Sp N w0)
    (hKt : ∀ {A B C : World}, Kp A B → Kp B C → Kp A C) (hKb : ∀ (W : World) (l : Nat) (o o' : Obj), w.heap.size ≤ l → W.heap[l]? = some o → o.isCells = false → o.isWalk = false → Kp W (W.putObj l o')) (hb0 : Below w0.heap.size w0 w) (hps : ∀ x, (encs x).size = ps.size)
    (I : List α → World → Prop) (Ix : Code → List α → World → Prop) (hI : OwnFrom w.heap.size I) (hIx : ∀ c, OwnFrom w.heap.size (Ix c)) (h0 : I [] w)
    (hIn : ∀ pre W, I pre W → w.heap.size ≤ W.heap.size) (hIa : ∀ pre W o, I pre W → I pre (W.alloc o)) (hKa : ∀ pre W o, I pre W → Kp W (W.alloc o))
    (hassign : ∀ (l : Nat) (x : α) (W : World) (K : Act → World → Prop), K (mk a x W.heap.size) (W.alloc (.cells (el x) t)) →
      assign.wpIn (F.inRound l) (n - 1 - 1) P (Exit.then K (fun _ _ _ => False)) { tmps := (ps.zip (encs x)).foldl (fun t (p, v) => t.setIfInBounds p v) a.tmps, defers := [] } W)
    (hbody : ∀ (l : Nat) (pre : List α) (x : α) (Bx : Nat) (W : World), w.heap.size ≤ Bx → I pre W → W.heap[Bx]? = some (.cells (el x) t (0, 0)) → pre.length < N →
      body.wpIn (F.inRound l) (n - 1 - 1) P (ownPostG w.heap.size Kp I Ix (pre ++ [x]) W) (mk a x Bx) W)
    (hdone : ∀ (D : Nat) (xs : List α) (W : World), w.heap.size ≤ D → S xs → I xs W → W.heap[D]? = some (.deferred (some [])) → Q .normal { a with defers := { target := .collected D, args := #[] } :: a.defers } W)
    (hstop : ∀ (D : Nat) (c : Code) (pre : List α) (W : World), w.heap.size ≤ D → Sp pre → Ix c pre W → W.heap[D]? = some (.deferred (some [])) → c.wpIn F n P Q { a with defers := { target := .collected D, args := #[] } :: a.defers } W) :
    (Code.rangeFunc g ps assign body).wpIn F n P Q a w := by
  refine wpIn_rangeFunc_ownH hro h1 hg hFg eg hseq hKt hKb hb0 hps I Ix hI hIx h0
    (fun x a' W => ∃ Bx, w.heap.size ≤ Bx ∧ W.heap[Bx]? = some (.cells (el x) t (0, 0)) ∧ a' = mk a x Bx) ?_ ?_ ?_ hdone hstop
  · intro k a' _ X Y row hs hg hr
    obtain ⟨Bx, h1, h2, h3⟩ := hs
    exact ⟨Bx, h1, (Chg.of_grownBy hg).block h2 (fun e => by
      obtain ⟨_, o, ho, hc⟩ := hr Bx e.symm
      rw [h2] at ho; cases ho; cases hc), h3⟩
  · intro l pre x W K hi hK
    exact hassign l x W K (hK _ _ (keepsFrom_chg (Chg.of_gr (g := none) (Gr.alloc W _)) (fun _ e => by cases e)) (hKa _ _ _ hi) (hIa _ _ _ hi) ⟨_, hIn _ _ hi, heap_alloc_new _ _, rfl⟩)
  · rintro l pre x a' W hl hr hi ⟨Bx, hBx, hX, rfl⟩ hlt
    exact hbody l pre x Bx W hBx hi hX hlt
/-- the frame of a round: index and stamp, and the pointer to the stamp's box -/
def mkT (d : Nat) (V : ByteArray) (a : Act) (_ : Unit) (Bx : Nat) : Act :=
  { tmps := ((((#[43, 44] : Array Tmp).zip #[.int .i64 0, .agg #[.int .i64 (d : Int), .int .i64 1, .int .i64 7, .string V]]).foldl (fun t (p, v) => t.setIfInBounds p v) a.tmps).setIfInBounds 15 (.int .i64 0)).setIfInBounds 16 (.pointer (some ⟨Bx, 0, none⟩)), defers := [] }
set_option maxRecDepth 100000 in
set_option maxHeartbeats 2000000 in
theorem backT_in (n : Nat) (hn : 1 ≤ n) (l b1 g o c d : Nat) (V : ByteArray) (J Jx : Nat → World → Prop)
    (hY : ∀ W, J 0 W → YieldAt Fence.wide (n - 1) Tryz.prog l #[.int .i64 0, .agg #[.int .i64 (d : Int), .int .i64 1, .int .i64 7, .string V]] W fun e W' =>
      (e = .returned (.bool true) ∧ J 1 W' ∧ KpB b1 (some g) W W') ∨ (e = .returned (.bool false) ∧ Jx 1 W'))
    (W : World) (h1 : W.heap[b1]? = some (.cells #[.slice (some ⟨g, o, none⟩) 1 c] 46 (0, 0))) (h2 : St1 g o d V W) (h0 : J 0 W) :
    CallsIn Fence.wide n Tryz.prog 90 #[.func (.yield l) #[] #[], .pointer (some ⟨b1, 0, none⟩)] W fun e W' => (∃ v, e = .returned v) ∧
      (J 1 W' ∨ (∃ k, k ≤ 1 ∧ Jx k W')) := by
  have c0 : W.cell? ⟨b1, 0, none⟩ = some (.slice (some ⟨g, o, none⟩) 1 c) := cell_of_row _ _ _ _ _ _ h1
  have H1 := Lib.hid h1
  have H2 := Lib.hid h2
  clear h1 h2
  refine callsIn_of_wp Tryz.func90 rfl trivial ?_ rfl
  simp only [Tryz.ntmps90, List.size_toArray, List.length_cons, List.length_nil, Nat.reduceAdd, Nat.reduceSub, Array.replicate_succ, Array.replicate_zero, List.push_toArray, List.append_toArray, List.nil_append, List.cons_append]
  gi_wp2
  clear c0
  gi_loopw [3] (fun t wr => ∃ (k : Nat), k ≤ 1 ∧ t = .int .i64 (0 - (k : Int)) ∧ J k wr ∧ Hid (k = 0 → wr.heap[b1]? = some (.cells #[.slice (some ⟨g, o, none⟩) 1 c] 46 (0, 0)) ∧ St1 g o d V wr))
    (fun t _ => (intOf t + 1).toNat)
  case atStart => exact ⟨0, Nat.zero_le _, rfl, h0, Lib.hid (fun _ => ⟨H1.out, H2.out⟩)⟩
  clear H1 H2 h0
  case round =>
    obtain ⟨k, hk, rfl, hJs, H12⟩ := hrel
    rcases (show k = 0 ∨ k = 1 by omega) with rfl | rfl
    · have c1 : wr.cell? ⟨b1, 0, none⟩ = some (.slice (some ⟨g, o, none⟩) 1 c) := cell_of_row _ _ _ _ _ _ (H12.out rfl).1
      obtain ⟨k0, k1, k2, k3⟩ := (H12.out rfl).2
      obtain ⟨fn, tmps, assign, body, hy, hR⟩ := hY wr hJs
      gi_wp2
      refine hR.mono ?_
      rintro e W3 (⟨rfl, hJ3, hk3⟩ | ⟨rfl, hJx3⟩)
      · have HJ3 : Hid (J 1 W3) := Lib.hid hJ3
        clear hk3 hJ3 hy hR c1 k0 k1 k2 k3
        gi_wp2
        go_roundw
        case rel => exact ⟨1, by omega, by go_num, HJ3.out, Lib.hid (fun h => by omega)⟩
        case measure => simp [intOf]
      · gi_wp2
        refine bodyPost_ret (results_none rfl _ _ _) rfl ?_
        exact ⟨⟨_, rfl⟩, .inr ⟨1, by omega, hJx3⟩⟩
    · gi_wp2
      go_end0
      exact ⟨⟨_, rfl⟩, .inl hJs⟩
theorem backT_stops (n : Nat) (hn : 1 ≤ n) (b1 g o c d : Nat) (V : ByteArray) (w : World) (hv : St1 g o d V w)
    (h1 : w.heap[b1]? = some (.cells #[.slice (some ⟨g, o, none⟩) 1 c] 46 (0, 0))) :
    SeqStopsK Fence.wide n Tryz.prog 90 #[.pointer (some ⟨b1, 0, none⟩)] (fun _ : Unit => #[.int .i64 0, .agg #[.int .i64 (d : Int), .int .i64 1, .int .i64 7, .string V]]) (KpB b1 (some g)) (fun xs => xs = [()]) (fun _ => True) 1 w := by
  intro l J Jx W hW hJ hJx hY h0
  have g1 := (hW.block b1 (Array.getElem?_eq_some_iff.1 h1).1).trans h1
  refine (backT_in n hn l b1 g o c d V (fun k => J (List.replicate k ())) (fun k => Jx (List.replicate k ())) ?_ W g1 (hv.gr (show Gr w W from hW)) h0).mono ?_
  · intro W' hj
    exact hY [] () W' hj (by decide)
  · rintro e W' ⟨he, hj | ⟨k, _, hj⟩⟩
    · exact ⟨he, .inl ⟨_, rfl, hj⟩⟩
    · exact ⟨he, .inr ⟨_, trivial, hj⟩⟩
theorem backT_any (p : Option Addr) (len cap : Nat) (w : World) :
    Calls Tryz.prog 41 #[.slice p len cap] w fun e w' => e = .returned (.func (.func 90) #[] #[.pointer (some ⟨w.heap.size, 0, none⟩)]) ∧ w.alloc (.cells #[.slice p len cap] 46) = w' := by
  go_enter Tryz.func41, Tryz.ntmps41
  go_wp2
  go_ret
  exact ⟨rfl, rfl⟩
/-- what lies in memory through the rounds -/
structure SinI (w x : World) (b12 bt b13 b14 : Nat) (day : Int) (d : Nat) (pre : List Unit) (W : World) : Prop where
  g : Gr w W
  n : x.heap.size ≤ W.heap.size
  p : W.heap[b12]? = some (.cells #[.pointer (some ⟨bt, 0, none⟩)] 104 (0, 0))
  t : W.heap[bt]? = x.heap[bt]?
  a : W.heap[b13]? = some (.cells #[.int .i64 (if pre.length = 0 then -1 else 0)] 3 (0, 0))
  b : W.heap[b14]? = some (.cells #[.int .i64 (if pre.length = 0 then day else (d : Int))] 3 (0, 0))
theorem sinI_own (w x : World) {b12 bt b13 b14 : Nat} {day : Int} {d : Nat} (h12 : b12 < x.heap.size) (ht : bt < x.heap.size) (h13 : b13 < x.heap.size) (h14 : b14 < x.heap.size) (hw : w.heap.size ≤ x.heap.size) : OwnFrom x.heap.size (SinI w x b12 bt b13 b14 day d) := by
  rintro s W W' row h hgr hr
  have hc := Chg.of_grownBy hgr
  have hne : ∀ k, k < x.heap.size → some k ≠ row := fun k hk e => by have := (hr k e.symm).1; omega
  exact ⟨(show Below w.heap.size w W from h.g).trans (hc.below (fun k hk => Nat.le_trans hw (hr k hk).1) h.g.size), Nat.le_trans h.n hc.size, hc.block h.p (hne _ h12), (hc.at_ (Nat.lt_of_lt_of_le ht h.n) (hne _ ht)).trans h.t, hc.block h.a (hne _ h13), hc.block h.b (hne _ h14)⟩
theorem SinI.gr {w x : World} {b12 bt b13 b14 : Nat} {day : Int} {d : Nat} {pre : List Unit} {W W' : World} (h : SinI w x b12 bt b13 b14 day d pre W) (hG : Gr W W') (ht : bt < x.heap.size) : SinI w x b12 bt b13 b14 day d pre W' :=
  ⟨h.g.trans hG, Nat.le_trans h.n hG.size, hG.block h.p, ((show Below W.heap.size W W' from hG).block bt (Nat.lt_of_lt_of_le ht h.n)).trans h.t, hG.block h.a, hG.block h.b⟩
/-- the two boxes ahead of the range -/
def SinCut (w0 : World) (day : Int) (v13 v14 : Value) (W : World) : Prop :=
  ∃ b13 b14, v13 = .pointer (some ⟨b13, 0, none⟩) ∧ v14 = .pointer (some ⟨b14, 0, none⟩) ∧ w0.heap.size ≤ b13 ∧ w0.heap.size ≤ b14 ∧ b13 ≠ b14 ∧ Gr w0 W ∧ W.heap[b13]? = some (.cells #[.int .i64 (-1)] 3 (0, 0)) ∧ W.heap[b14]? = some (.cells #[.int .i64 day] 3 (0, 0))
theorem sinCut1 (w : World) (day : Int) : SinCut w day (.pointer (some ⟨w.heap.size, 0, none⟩)) (.pointer (some ⟨w.heap.size + 1, 0, none⟩)) (((w.alloc (.cells #[.int .i64 (-1)] 3)).alloc (.cells #[.int .i64 day] 3)).drew) := by
  have h2 := heap_alloc_new (w.alloc (.cells #[.int .i64 (-1)] 3)) (.cells #[.int .i64 day] 3)
  rw [World.size_alloc] at h2
  exact ⟨_, _, rfl, rfl, Nat.le_refl _, by omega, by omega, ((Gr.alloc _ _).trans (Gr.alloc _ _)).trans (Gr.drew _), (Gr.drew _).block ((Gr.alloc _ _).block (heap_alloc_new _ _)), (Gr.drew _).block h2⟩
theorem sinCut2 (w : World) (day : Int) : SinCut w day (.pointer (some ⟨w.heap.size + 1, 0, none⟩)) (.pointer (some ⟨w.heap.size, 0, none⟩)) (((w.alloc (.cells #[.int .i64 day] 3)).alloc (.cells #[.int .i64 (-1)] 3)).drew) := by
  have h2 := heap_alloc_new (w.alloc (.cells #[.int .i64 day] 3)) (.cells #[.int .i64 (-1)] 3)
  rw [World.size_alloc] at h2
  exact ⟨_, _, rfl, rfl, by omega, Nat.le_refl _, by omega, ((Gr.alloc _ _).trans (Gr.alloc _ _)).trans (Gr.drew _), (Gr.drew _).block h2, (Gr.drew _).block ((Gr.alloc _ _).block (heap_alloc_new _ _))⟩
set_option maxRecDepth 100000 in
set_option maxHeartbeats 2000000 in
theorem since_any (g o c d : Nat) (day : Int) (V s : ByteArray) (w : World) (hd : d ≤ 100000) (hs : s.size ≤ 65536) (hV : firstE s d = V) (h : St1 g o d V w) (hT : Tab w) (hle : (d : Int) ≤ day) :
    Calls Tryz.prog 14 #[.slice (some ⟨g, o, none⟩) 1 c, .string s, .slice none 0 0, .int .i64 day] w fun e w' => e = .returned (.tuple #[.int .i64 (d : Int), .bool true]) ∧ Gr w w' := by
  have HCk := Lib.hid (fun y (hg : Gr w y) => checkE_any g o c d V s y hd hs hV (h.gr hg) (hT.gr hg))
  have HLt := Lib.hid (fun (b : Nat) (y : World) (hb : y.cell? ⟨b, 0, none⟩ = some (.int .i64 day)) => later_any d day V b y hb hle)
  have HIx := Lib.hid (fun (b : Nat) (y : World) (hg : Gr w y) (hb : y.cell? ⟨b, 0, none⟩ = some (.int .i64 day)) => idx_later g o c d day V b y hb hle (h.gr hg))
  have HNt := Lib.hid (fun y => newTrust_any day y)
  have HGd := Lib.hid (fun (bt : Nat) (y : World) (ht : TrustAt bt y) => good_any bt d day V y hd ht)
  have HSt := Lib.hid h
  clear h hT hV hs
  refine (callsIn_wide (n := 6)).1 ?_
  refine callsIn_of_wp_marks Tryz.func14 rfl trivial ?_ rfl
  simp only [Tryz.ntmps14, List.size_toArray, List.length_cons, List.length_nil, Nat.reduceAdd, Nat.reduceSub, Array.replicate_succ, Array.replicate_zero, List.push_toArray, List.append_toArray, List.nil_append, List.cons_append]
  refine wpIn_wide.2 ?_
  go_upto_region 1 with fail
  refine wp_gen (F := fun z => Gr w z ∧ z.heap[w.heap.size]? = some (.cells #[.int .i64 day] 3 (0, 0))) ⟨Gr.alloc _ _, heap_alloc_new _ _⟩ ?_
  rintro w1 ⟨hg1, hr1⟩
  obtain ⟨b7, hb7⟩ : ∃ z, w.heap.size = z := ⟨_, rfl⟩
  have Hb7 : Hid (w.heap.size = b7) := Lib.hid hb7
  rw [hb7] at hr1
  simp only [hb7]
  have HG1 := Lib.hid hg1
  have HR1 := Lib.hid hr1
  clear hg1 hr1 hb7
  go_wp2_with fail
  refine (HCk.out w1 HG1.out).mono ?_
  rintro e w2 ⟨rfl, hg⟩
  have HG2 := Lib.hid (HG1.out.trans hg)
  have HR2 := Lib.hid (hg.block HR1.out)
  clear hg HG1 HR1 HCk
  obtain ⟨k0, k1, k2, k3⟩ := HSt.out.gr HG2.out
  go_wp2_with fail
  clear k0 k1 k2 k3
  refine (HLt.out b7 w2 (cell_of_row _ _ _ _ _ _ HR2.out)).mono ?_
  rintro e w3 ⟨rfl, hg⟩
  have HG3 := Lib.hid (HG2.out.trans hg)
  have HR3 := Lib.hid (hg.block HR2.out)
  clear hg HG2 HR2 HLt
  go_wp2_with fail
  refine (HIx.out b7 w3 HG3.out (cell_of_row _ _ _ _ _ _ HR3.out)).mono ?_
  rintro e w4 ⟨rfl, hg⟩
  have HG4 := Lib.hid (HG3.out.trans hg)
  have HR4 := Lib.hid (hg.block HR3.out)
  have k7 : w4.cell? ⟨b7, 0, none⟩ = some (.int .i64 day) := cell_of_row _ _ _ _ _ _ HR4.out
  clear hg HG3 HR3 HIx
  go_wp2_with fail
  clear k7
  refine (HNt.out w4).mono ?_
  rintro e w5 ⟨bt, rfl, hbt, ht5, hg⟩
  have HG5 := Lib.hid (HG4.out.trans hg)
  have HR5 := Lib.hid (hg.block HR4.out)
  have HT5 := Lib.hid ht5
  clear hg hbt ht5 HG4 HR4 HNt
  go_upto_region 8 with fail
  have hra := heap_alloc_new w5 (.cells #[.pointer (some ⟨bt, 0, none⟩)] 104)
  have hga := Gr.alloc w5 (.cells #[.pointer (some ⟨bt, 0, none⟩)] 104)
  obtain ⟨b12, hb12⟩ : ∃ z, w5.heap.size = z := ⟨_, rfl⟩
  rw [hb12] at hra
  simp only [hb12]
  have HG6 := Lib.hid (HG5.out.trans hga)
  have HR6 := Lib.hid (hga.block HR5.out)
  have HT6 := Lib.hid (HT5.out.gr hga)
  have HP6 := Lib.hid hra
  have Hb12 : Hid (w.heap.size ≤ b12) := Lib.hid (by rw [← hb12]; exact HG5.out.size)
  clear hra hga hb12 HG5 HR5 HT5
  generalize w5.alloc (.cells #[.pointer (some ⟨bt, 0, none⟩)] 104) = w6 at HG6 HR6 HT6 HP6 ⊢
  go_cut [13, 14] from 40 to 40 (fun v13 v14 wx => Hid (SinCut w6 day v13 v14 wx))
  case first =>
    rename_i JJ KK hJ hK
    have k7 : w6.drew.cell? ⟨b7, 0, none⟩ = some (.int .i64 day) := cell_of_row _ _ _ _ _ _ ((Gr.drew w6).block HR6.out)
    have e1 : ∀ o, (w6.alloc o).cell? ⟨b7, 0, none⟩ = some (.int .i64 day) := fun o => cell_of_row _ _ _ _ _ _ ((Gr.alloc w6 o).block HR6.out)
    have e2 : ∀ o o', ((w6.alloc o).alloc o').cell? ⟨b7, 0, none⟩ = some (.int .i64 day) := fun o o' => cell_of_row _ _ _ _ _ _ (((Gr.alloc w6 o).trans (Gr.alloc _ o')).block HR6.out)
    go_region
    · refine hK _ _ (Met.intro (hJ _ _ ?_))
      repeat apply Exists.intro
      exact ⟨Lib.hid (sinCut1 w6 day), rfl⟩
    · refine hK _ _ (Met.intro (hJ _ _ ?_))
      repeat apply Exists.intro
      exact ⟨Lib.hid (sinCut2 w6 day), rfl⟩
  obtain ⟨b13, b14, rfl, rfl, h13, h14, hne, hgc, ha, hb⟩ := hcut.out
  have HG7 := Lib.hid (HG6.out.trans hgc)
  have HP7 := Lib.hid (hgc.block HP6.out)
  have HT7 := Lib.hid (HT6.out.gr hgc)
  have HA7 := Lib.hid ha
  have HB7 := Lib.hid hb
  have Hbs : Hid (w6.heap.size ≤ b13 ∧ w6.heap.size ≤ b14 ∧ b13 ≠ b14) := Lib.hid ⟨h13, h14, hne⟩
  have Hw6 : Hid (w.heap.size ≤ w6.heap.size ∧ b12 < w6.heap.size ∧ bt < w6.heap.size) := Lib.hid ⟨HG6.out.size, (Array.getElem?_eq_some_iff.1 HP6.out).1, World.block_lt_of_cell? _ _ (HT6.out 0 (by decide))⟩
  clear hcut hgc ha hb h13 h14 hne HG6 HR6 HT6 HP6
  go_wp2_with fail
  refine (backT_any (some ⟨g, o, none⟩) 1 c wc).mono ?_
  rintro e x ⟨rfl, hx⟩
  have hgx : Gr wc x := by rw [← hx]; exact Gr.alloc _ _
  have hrx : x.heap[wc.heap.size]? = some (.cells #[.slice (some ⟨g, o, none⟩) 1 c] 46 (0, 0)) := by rw [← hx]; exact heap_alloc_new _ _
  have hxs : wc.heap.size < x.heap.size := by rw [← hx]; simp
  obtain ⟨bk, hbk⟩ : ∃ z, wc.heap.size = z := ⟨_, rfl⟩
  rw [hbk] at hrx hxs
  simp only [hbk]
  have ht13 : b13 < bk := by rw [← hbk]; exact (Array.getElem?_eq_some_iff.1 HA7.out).1
  have ht14 : b14 < bk := by rw [← hbk]; exact (Array.getElem?_eq_some_iff.1 HB7.out).1
  have ht12 : b12 < bk := by rw [← hbk]; exact (Array.getElem?_eq_some_iff.1 HP7.out).1
  have htbt : bt < bk := by rw [← hbk]; exact World.block_lt_of_cell? _ _ (HT7.out 0 (by decide))
  have htg : g < w.heap.size := World.block_lt_of_cell? _ _ HSt.out.1
  have hI0 : SinI w x b12 bt b13 b14 day d [] x := ⟨HG7.out.trans hgx, Nat.le_refl _, hgx.block HP7.out, rfl, hgx.block HA7.out, hgx.block HB7.out⟩
  have HTx := Lib.hid (HT7.out.gr hgx)
  have HSx := Lib.hid ((HSt.out.gr HG7.out).gr hgx)
  have HGx := Lib.hid (HG7.out.trans hgx)
  clear hx hgx hbk HG7 HP7 HT7 HA7 HB7
  have hne := Hbs.out
  have hw6 := Hw6.out
  go_wp2_with fail
  refine (wpIn_wide (n := 6)).1 ?_
  refine wpIn_rangeFunc_mk (mkT d V) (fun _ => #[.int .i64 (d : Int), .int .i64 1, .int .i64 7, .string V]) 85 rfl (by decide) (gf := 90) (lb := #[.pointer (some ⟨bk, 0, none⟩)]) rfl trivial (enters_of Tryz.func90 (by kernel_rfl) rfl)
    (backT_stops 5 (by decide) bk g o c d V x HSx.out hrx)
    KpB.t (KpB.put hxs (fun k e => by cases e; omega)) (Below.refl _ _) (fun _ => rfl)
    (SinI w x b12 bt b13 b14 day d) (fun _ _ _ => False)
    (sinI_own w x (by omega) (by omega) (by omega) (by omega) HGx.out.size) (fun _ _ _ _ _ h _ _ => h) hI0
    (fun pre W h => h.n) (fun pre W o h => h.gr (Gr.alloc W o) (by omega)) (fun pre W o h => KpB.chg (Chg.of_gr (g := none) (Gr.alloc W o)) (by have := h.n; omega) (by simp) (fun k e => by have := h.n; cases e; exact ⟨by omega, by simp⟩))
    ?assign ?body ?done ?stop
  case stop => intro D c pre W _ _ h _; exact h.elim
  case assign =>
    intro l' k W K hK
    simp [mkT] at hK
    gi_wp2
    exact hK
  case body =>
    intro l' pre k Bx W hBx HI hX hpl2
    unfold mkT
    obtain rfl : pre = [] := List.eq_nil_of_length_eq_zero (by omega)
    have q12 : W.cell? ⟨b12, 0, none⟩ = some (.pointer (some ⟨bt, 0, none⟩)) := cell_of_row _ _ _ _ _ _ HI.p
    have hB0 : W.heap[b14]? = some (.cells #[.int .i64 day] 3 (0, 0)) := HI.b
    have hA0 : W.heap[b13]? = some (.cells #[.int .i64 (-1)] 3 (0, 0)) := HI.a
    have q14 : W.cell? ⟨b14, 0, none⟩ = some (.int .i64 day) := cell_of_row _ _ _ _ _ _ hB0
    obtain ⟨x0, x1, x2, x3⟩ := row4 hX
    have HN := Lib.hid (HGd.out bt W (fun j hj => (World.cell?_of_block (w := x) HI.t).trans (HTx.out j hj)))
    have HJ := Lib.hid HI
    have HXr := Lib.hid hX
    have HA0 := Lib.hid hA0
    have HB0 := Lib.hid hB0
    clear hI0 hrx hX HI hA0 hB0
    gi_wp2_with (refine ⟨trivial, ?_⟩; gi_at_call 42; refine (CallsIn.inRound l' (callsIn_wide.2 HN.out)).mono ?_; rintro e W' ⟨rfl, hg⟩)
    clear x0 x1 x2 x3 q12 q14
    have hXd : W'.drew.cell? ⟨Bx, 0, none⟩ = some (.int .i64 (d : Int)) := (row4 ((Gr.drew W').block (hg.block HXr.out))).1
    have hAd : W'.drew.cell? ⟨b13, 0, none⟩ = some (.int .i64 (-1)) := cell_of_row _ _ _ _ _ _ ((Gr.drew W').block (hg.block HA0.out))
    have hBd : W'.drew.cell? ⟨b14, 0, none⟩ = some (.int .i64 day) := cell_of_row _ _ _ _ _ _ ((Gr.drew W').block (hg.block HB0.out))
    have fA : W'.drew.frozen? ⟨b13, 0, none⟩ = false := frozen_of_row _ _ _ _ _ ((Gr.drew W').block (hg.block HA0.out))
    have fB : W'.drew.frozen? ⟨b14, 0, none⟩ = false := frozen_of_row _ _ _ _ _ ((Gr.drew W').block (hg.block HB0.out))
    have hgd := hg.trans (Gr.drew W')
    generalize hWd : W'.drew = Wd at hXd hAd hBd fA fB hgd
    have hJd := HJ.out.gr hgd (by omega)
    have hc1 : Chg (some b13) Wd (Wd.setCell ⟨b13, 0, none⟩ (.int .i64 0)) := setCells_chg b13 [.int .i64 0] 0 Wd
    have hc2 : Chg (some b14) (Wd.setCell ⟨b13, 0, none⟩ (.int .i64 0)) ((Wd.setCell ⟨b13, 0, none⟩ (.int .i64 0)).setCell ⟨b14, 0, none⟩ (.int .i64 (d : Int))) := setCells_chg b14 [.int .i64 (d : Int)] 0 _
    have r13 : (Wd.setCell ⟨b13, 0, none⟩ (.int .i64 0)).heap[b13]? = some (.cells #[.int .i64 0] 3 (0, 0)) := by
      rw [heap_setCell_same Wd b13 0 _ _ (.int .i64 0) hJd.a]; rfl
    have r14 : ((Wd.setCell ⟨b13, 0, none⟩ (.int .i64 0)).setCell ⟨b14, 0, none⟩ (.int .i64 (d : Int))).heap[b14]? = some (.cells #[.int .i64 (d : Int)] 3 (0, 0)) := by
      rw [heap_setCell_same _ b14 0 _ _ (.int .i64 (d : Int)) (hc1.block hJd.b (by simp; omega))]; rfl
    have HFin : Hid (KeepsFrom x.heap.size W ((Wd.setCell ⟨b13, 0, none⟩ (.int .i64 0)).setCell ⟨b14, 0, none⟩ (.int .i64 (d : Int))) ∧ KpB bk (some g) W ((Wd.setCell ⟨b13, 0, none⟩ (.int .i64 0)).setCell ⟨b14, 0, none⟩ (.int .i64 (d : Int))) ∧ SinI w x b12 bt b13 b14 day d [()] ((Wd.setCell ⟨b13, 0, none⟩ (.int .i64 0)).setCell ⟨b14, 0, none⟩ (.int .i64 (d : Int)))) := Lib.hid (by
      have hn0 := HJ.out.n
      have hnd := hJd.n
      refine ⟨((keepsFrom_chg (Chg.of_gr (g := none) hgd) (fun _ e => by cases e)).trans (keepsFrom_chg hc1 (fun j e => by cases e; omega))).trans (keepsFrom_chg hc2 (fun j e => by cases e; omega)), ?_, ?_⟩
      · refine KpB.t (KpB.chg (Chg.of_gr (g := none) hgd) (by omega) (by simp) (fun k e => by cases e; exact ⟨by omega, by simp⟩)) (KpB.t (KpB.chg hc1 (by omega) (by simp; omega) (fun k e => by cases e; exact ⟨by omega, by simp; omega⟩)) (KpB.chg hc2 (by have := hc1.size; omega) (by simp; omega) (fun k e => by cases e; exact ⟨by have := hc1.size; omega, by simp; omega⟩)))
      · refine ⟨gr_step (gr_step hJd.g (Gr.refl _) hc1 (fun j e => by cases e; omega)) (Gr.refl _) hc2 (fun j e => by cases e; omega), Nat.le_trans hnd (Nat.le_trans hc1.size hc2.size), hc2.block (hc1.block hJd.p (by simp; omega)) (by simp; omega), ?_, hc2.block r13 (by simp; omega), r14⟩
        exact ((hc2.at_ (by have := hc1.size; omega) (by simp; omega)).trans (hc1.at_ (by omega) (by simp; omega))).trans hJd.t)
    have hX2 : (Wd.setCell ⟨b13, 0, none⟩ (.int .i64 0)).cell? ⟨Bx, 0, none⟩ = some (.int .i64 (d : Int)) := hc1.cell hXd (by simp; omega)
    have hB2 : (Wd.setCell ⟨b13, 0, none⟩ (.int .i64 0)).cell? ⟨b14, 0, none⟩ = some (.int .i64 day) := hc1.cell hBd (by simp; omega)
    have fB2 : (Wd.setCell ⟨b13, 0, none⟩ (.int .i64 0)).frozen? ⟨b14, 0, none⟩ = false := frozen_of_row _ _ _ _ _ (hc1.block hJd.b (by simp; omega))
    clear hc1 hc2 r13 r14 hJd hgd hg HJ HA0 HB0 HXr HN
    gi_region
    all_goals exact HFin.out
  case done =>
    rintro D xs W hD rfl HI hK
    have hA1 : W.heap[b13]? = some (.cells #[.int .i64 0] 3 (0, 0)) := HI.a
    have hc13 : W.cell? ⟨b13, 0, none⟩ = some (.int .i64 0) := cell_of_row _ _ _ _ _ _ hA1
    obtain ⟨k0, k1, k2, k3⟩ := HSt.out.gr HI.g
    have HJ := Lib.hid HI.g
    have HK := Lib.hid hK
    clear hI0 hrx HI hK hA1
    go_wp2_with fail
    refine ⟨by simp, .inl ⟨_, _, rfl, run_takeDeferred HK.out, ?_⟩⟩
    refine ⟨_, results_tmp2 rfl _ _ _, rfl, ?_⟩
    have h1 := HJ.out
    exact (show Below w.heap.size w W from h1).trans ((Chg.of_grownBy (grownBy_putObj' W D _)).below (fun j hj => by simp at hj; omega) h1.size)
end Go.Proofs.YtaoggehdkddgeaaGreatDoor
