/- The reference's disk: Write, Sync, Read. -/
import Derived.Test.YtmkdnfiiehgcaaaRfB
namespace Go.Proofs.Ytmkdnfiiehgcaaa
open Go Go.RowKit
attribute [local go_sem] gAt gUpon
attribute [local simp] Gr.refl Gr.alloc

theorem info80 : (Try.prog.info? 80).map (fun i => (i.zero, i.size, i.bytes)) = some (some (.agg #[.int .i64 0, .string ⟨#[]⟩]), 2, 24) := by kernel_rfl
/-- a write pushed onto the reference's list -/
theorem push_wr {ops : Array Oper} {rest : List Oper} {o : Oper} {a : Act} {W : World} {Q : Exit → Act → World → Prop} {i : TypeInfo} {v : Value} {m : Nat} {xs : List Value} {dt st : Tmp} {u0 u1 : Value} (hg : o.guard = none)
    (hop : o.op = Op.call { callee := Callee.builtin Builtin.append, args := #[.tmp dt, .tmp st], argTypes := #[41, 41] }) (h2 : Try.prog.info? 80 = some i) (h3 : i.zero = some (.agg #[.int .i64 0, .string ⟨#[]⟩])) (h4 : i.size = 2) (h5 : i.bytes = 24)
    (hs : a.eval (.tmp dt) = v) (hO : Own 0 2 v m xs W) (hj : m ≤ 1000000) (c0 : u0.oneCell' = true) (c1 : u1.oneCell' = true)
    (hx : a.eval (.tmp st) = .slice (some ⟨W.heap.size, 0, none⟩) 1 1)
    (h : ∀ v' w', Own 0 2 v' (m + 1) (xs ++ [u0, u1]) w' → Chs (fun k => v.ownBlock = some k) W w' → (∀ g, v'.ownBlock = some g → (v.ownBlock = some g ∨ W.heap.size ≤ g) ∧ g < w'.heap.size) → wpList Try.prog ops Q rest (a.put o.dst v') w') :
    wpList Try.prog ops Q (o :: rest) a (W.alloc (.cells #[u0, u1] 80)) := by
  have hrow := heap_alloc_new W (.cells #[u0, u1] 80)
  refine wpList_append_Own hg (.tmp dt) (.tmp st) 41 hop 80 i _ 2 24 Try.underlying41 h2 h3 h4 h5 rfl (by decide) hs (hO.gr (Gr.alloc W (.cells #[u0, u1] 80))) ⟨W.heap.size, 0, none⟩ 1 1 [u0, u1] hx rfl ?_ ?_ (by decide) (by unfold maxLen; omega) (by omega) (Nat.zero_le _) ?_
  · intro k u hk
    rw [Addr.add_mid, cell_of_row _ _ _ _ _ _ hrow, Nat.zero_add]; simpa using hk
  · intro u hu; simp at hu; rcases hu with rfl | rfl <;> assumption
  · intro v' w' k1 k2 k3
    refine h v' w' k1 (chs_push (Gr.alloc W _) k2) (fun g hg => ⟨(k3 g hg).imp id (fun h => by rw [World.size_alloc] at h; omega), ?_⟩)
    exact own_lt2 k1 hg
/-- what holds behind the append and the store -/
def RwF (S : Nat → Prop) (gx n : Nat) (d : Dk) (o : Nat) (s : ByteArray) (w : World) (v0 v1 : Value) (x : World) : Prop :=
  x.heap[gx]? = some (.cells #[v0, v1, .bool d.off, .int .i64 (d.left : Int)] 43 (0, 0)) ∧ Own 0 1 v0 n (byC d.dur) x ∧ Own 0 2 v1 (d.pend ++ [(o, s)]).length (pC (d.pend ++ [(o, s)])) x ∧ Chs S w x ∧
    (∀ g, v0.ownBlock = some g → S g ∧ g ≠ gx) ∧ ∀ g, v1.ownBlock = some g → (S g ∨ (w.heap.size ≤ g ∧ g < x.heap.size)) ∧ g ≠ gx ∧ v0.ownBlock ≠ some g
set_option maxHeartbeats 1000000 in
theorem rwrite_any {S : Nat → Prop} {gx n : Nat} {d : Dk} {w : World} (o : Int) (s : ByteArray) (h : RefAt S gx n d w) (hi : d.inv n) (hn1 : 1 ≤ n) (hn : n ≤ 4194304) (hp : d.pend.length ≤ 1000000) (hob : -9223372036854775808 ≤ o ∧ o ≤ 9223372036854775807) (hsz : s.size ≤ 9223372036854775807) (hS : ∀ k, S k → k < w.heap.size) :
    Calls Try.prog 30 #[.pointer (some ⟨gx, 0, none⟩), .int .i64 o, .string s] w fun e w' => e = .returned (.int .i64 (writeD d n o s).1) ∧ RefAt (Sx S w w') gx n (writeD d n o s).2 w' ∧ Chs S w w' := by
  have HD := Lib.hid h
  obtain ⟨v0, v1, s0, h0, h1, hrow, o0, o1⟩ := h
  obtain ⟨p0, c0, rfl⟩ := o0.slice2
  obtain ⟨p1, c1, rfl⟩ := o1.slice2
  obtain ⟨q0, q1, q2, q3, qf⟩ := cells4 hrow
  have hgx : gx < w.heap.size := hS _ s0
  by_cases hoff : d.off = true
  · have e1 : writeD d n o s = (251, d) := write_off hoff
    rw [e1]
    rw [hoff] at q2
    clear h0 h1 hrow o0 o1 e1 hoff qf q0 q1 q3
    go_enter Try.func30, Try.ntmps30
    go_wp2_with fail
    go_ret
    exact ⟨rfl, HD.out.mono (fun k hk => .inl hk), Chs.refl _ _⟩
  · have hoff' : d.off = false := by simpa using hoff
    by_cases hins : insideD n o (s.size : Int) = false
    · have e1 : writeD d n o s = (250, d) := by unfold writeD; rw [if_neg hoff, if_pos hins]
      have hno : o < 0 ∨ (0 ≤ o ∧ (n : Int) < o) ∨ (0 ≤ o ∧ o ≤ n ∧ (n : Int) - o < s.size) := by
        unfold insideD at hins
        simp only [Bool.and_eq_false_iff, decide_eq_false_iff_not] at hins
        omega
      rw [e1]
      rw [hoff'] at q2
      clear h0 h1 hrow o0 o1 e1 hoff hoff' qf q1 q3 hins
      rcases hno with h | ⟨ha, h⟩ | ⟨ha, hb, h⟩
      · have t1 : decide (o < 0) = true := decide_eq_true h
        clear h
        go_enter Try.func30, Try.ntmps30
        go_wp2_with fail
        go_ret
        exact ⟨rfl, HD.out.mono (fun k hk => .inl hk), Chs.refl _ _⟩
      · have t1 : decide (o < 0) = false := decide_eq_false (by omega)
        have t2 : decide ((n : Int) < o) = true := decide_eq_true h
        clear h ha
        go_enter Try.func30, Try.ntmps30
        go_wp2_with fail
        go_ret
        exact ⟨rfl, HD.out.mono (fun k hk => .inl hk), Chs.refl _ _⟩
      · have t1 : decide (o < 0) = false := decide_eq_false (by omega)
        have t2 : decide ((n : Int) < o) = false := decide_eq_false (by omega)
        have ew : IntKind.i64.wrap ((n : Int) - o) = (n : Int) - o := IntWalk.i64_in _ (by omega)
        have t3 : decide ((n : Int) - o < (s.size : Int)) = true := decide_eq_true h
        clear h ha hb
        go_enter Try.func30, Try.ntmps30
        go_wp2_with fail
        go_ret
        exact ⟨rfl, HD.out.mono (fun k hk => .inl hk), Chs.refl _ _⟩
    · have hins' : insideD n o (s.size : Int) = true := by simpa using hins
      obtain ⟨ho1, -, ho2, ho3⟩ := insideD_out hins'
      obtain ⟨oN, rfl⟩ := Int.eq_ofNat_of_zero_le ho1
      have e1 : writeD d n (oN : Int) s = (0, d.wrote oN s) := writeD_ok hoff' (by omega)
      rw [e1]
      rw [hoff'] at q2
      obtain ⟨i80, hi80, hz80, hs80, hb80⟩ := info_parts info80
      have Hi := Lib.hid hi80
      have Hz := Lib.hid hz80
      have Hs := Lib.hid hs80
      have Hb := Lib.hid hb80
      have t1 : decide ((oN : Int) < 0) = false := decide_eq_false (by omega)
      have t2 : decide ((n : Int) < (oN : Int)) = false := decide_eq_false (by omega)
      have t2' : decide (n < oN) = false := decide_eq_false (by omega)
      have ew : IntKind.i64.wrap ((n : Int) - (oN : Int)) = (n : Int) - (oN : Int) := IntWalk.i64_in _ (by omega)
      have t3 : decide ((n : Int) - (oN : Int) < (s.size : Int)) = false := decide_eq_false (by omega)
      have HB := Lib.hid hrow
      have H0 := Lib.hid h0
      have H1 := Lib.hid h1
      have HO0 := Lib.hid o0
      have HO1 := Lib.hid o1
      have HS := Lib.hid hS
      have Hoff := Lib.hid hoff'
      clear h0 h1 hrow o0 o1 e1 hoff hoff' qf q3 hins hins' hi80 hz80 hs80 hb80 hS ho1 ho2 ho3 hob
      go_enter Try.func30, Try.ntmps30
      go_upto_region 6 with ((with_reducible show wpList _ _ _ (⟨some 43, _, _, _, _, _⟩ :: _) _ _); refine push_wr (dt := 38) (st := 42) (v := .slice p1 d.pend.length c1) rfl rfl Hi.out Hz.out Hs.out Hb.out rfl HO1.out hp rfl rfl rfl ?_; intro v6 w6 hown6 hch6 hnew6; obtain ⟨p6, c6, rfl⟩ := hown6.slice2; have hr6 := hch6.block HB.out (fun e => (H1.out gx e).2.1 rfl); obtain ⟨-, r1, -, -, rf⟩ := cells4 hr6; have rf1 := rf 1)
      have HW6 : Hid (∀ v' w', Own 0 2 v' (d.pend.length + 1) (pC d.pend ++ [.int .i64 (oN : Int), .string s]) w' → Chs (fun k => (Value.slice p1 d.pend.length c1).ownBlock = some k) w w' → (∀ g, v'.ownBlock = some g → ((Value.slice p1 d.pend.length c1).ownBlock = some g ∨ w.heap.size ≤ g) ∧ g < w'.heap.size) →
          RwF S gx n d oN s w (.slice p0 n c0) v' (w'.setCell ⟨gx, 1, none⟩ v')) := Lib.hid (fun v' w' ho hc hn => by
        have hr := row4_set w' (i := 1) (hc.block HB.out (fun e => (H1.out gx e).2.1 rfl)) v'
        have hcs : Chs (fun j => j = gx) w' (w'.setCell ⟨gx, 1, none⟩ v') := chs_setCell (S := fun j => j = gx) w' rfl 1 v'
        have hne : ∀ g, v'.ownBlock = some g → g ≠ gx := fun g hg => by
          rcases (hn g hg).1 with h | h
          · exact (H1.out g h).2.1
          · omega
        refine ⟨hr, (HO0.out.keepS hc (fun g hg e => (H1.out g e).2.2 hg)).keepS hcs (fun g hg e => (H0.out g hg).2 e), ?_, ?_, H0.out, fun g hg => ⟨?_, hne g hg, ?_⟩⟩
        · have e := pC_push d.pend (oN, s)
          rw [← e, List.length_append]
          exact ho.keepS hcs (fun g hg e => hne g hg e)
        · exact (hc.mono (fun k e => (H1.out k e).1)).trans (hcs.mono (S' := S) (fun j e => e ▸ s0)) (fun _ _ h => h)
        · rcases (hn g hg).1 with h | h
          · exact .inl (H1.out g h).1
          · refine .inr ⟨h, ?_⟩
            rw [World.size_setCell]; exact (hn g hg).2
        · intro e
          rcases (hn g hg).1 with h | h
          · exact (H1.out g h).2.2 e
          · have := HS.out g (H0.out g e).1; omega)
      refine wp_gen (HW6.out _ _ hown6 hch6 hnew6) ?_
      clear HW6 hown6 hch6 hnew6 hr6 r1 rf1 rf q0 q1 q2 HB HO1 H0 H1
      rintro wB ⟨hb, ho0, ho1, hC, hv0, hv1⟩
      obtain ⟨q0, q1, q2, q3, qf⟩ := cells4 hb
      have qf3 := qf 3
      have qf2 := qf 2
      have hgB : gx < wB.heap.size := World.block_lt_of_cell? wB ⟨gx, 0, none⟩ q0
      have HFin : Hid (∀ (off : Bool) (left : Nat) (W : World), usedP d.off d.left = (off, left) → W.heap[gx]? = some (.cells #[.slice p0 n c0, .slice p6 (d.pend.length + 1) c6, .bool off, .int .i64 (left : Int)] 43 (0, 0)) → Chs (fun j => j = gx) wB W → RefAt (Sx S w W) gx n (d.wrote oN s) W ∧ Chs S w W) := Lib.hid (fun off left W hu hr hc => by
        have e1 : (usedP d.off d.left).1 = off := by rw [hu]
        have e2 : (usedP d.off d.left).2 = left := by rw [hu]
        refine ⟨⟨_, _, .inl s0, fun g hg => ⟨.inl (hv0 g hg).1, (hv0 g hg).2⟩, fun g hg => ⟨?_, (hv1 g hg).2.1, (hv1 g hg).2.2⟩, ?_, ho0.keepS hc (fun g hg e => (hv0 g hg).2 e), ho1.keepS hc (fun g hg e => (hv1 g hg).2.1 e)⟩, hC.trans (hc.mono (S' := S) (fun j e => e ▸ s0)) (fun _ _ h => h)⟩
        · rcases (hv1 g hg).1 with h | h
          · exact .inl h
          · exact .inr ⟨h.1, Nat.lt_of_lt_of_le h.2 hc.size⟩
        · unfold Dk.wrote
          simp only [e1, e2]; exact hr)
      have hle := hi.2.2.2.2
      have HB := Lib.hid hb
      have hdo := Hoff.out
      generalize hlft : d.left = lf at q3 hle HFin HB
      clear hb ho0 ho1 hC hv0 hv1 qf HD hi
      by_cases hz : lf = 0
      · subst hz
        have t5 : decide ((0 : Int) < 0) = false := by decide
        have HE := Lib.hid (HFin.out d.off 0 wB (usedP_zero _) HB.out (Chs.refl _ _))
        clear HFin
        go_wp2_with fail
        go_ret
        exact ⟨rfl, HE.out⟩
      · have t5 : decide (0 < lf) = true := decide_eq_true (by omega)
        have ew2 : IntKind.i64.wrap ((lf : Int) - 1) = ((lf - 1 : Nat) : Int) := by rw [IntWalk.i64_in _ (by omega)]; omega
        by_cases hone : lf = 1
        · subst hone
          have HE := Lib.hid (HFin.out true 0 ((wB.setCell ⟨gx, 3, none⟩ (.int .i64 0)).setCell ⟨gx, 2, none⟩ (.bool true)) rfl (by have := row4_set _ (row4_set wB (i := 3) HB.out (.int .i64 0)) (i := 2) (.bool true); exact this) ((chs_setCell (S := fun j => j = gx) wB rfl 3 _).trans (chs_setCell (S := fun j => j = gx) _ rfl 2 _) (fun _ _ h => h)))
          clear HFin
          go_wp2_with fail
          go_ret
          exact ⟨rfl, HE.out⟩
        · have t6 : (((lf - 1 : Nat) : Int) == 0) = false := by rw [beq_eq_false_iff_ne]; omega
          have t7 : (lf - 1 == 0) = false := by rw [beq_eq_false_iff_ne]; omega
          have HE := Lib.hid (HFin.out false (lf - 1) (wB.setCell ⟨gx, 3, none⟩ (.int .i64 ((lf - 1 : Nat) : Int))) (by unfold usedP; rw [if_neg hz, decide_eq_false hone]) (by have := row4_set wB (i := 3) HB.out (.int .i64 ((lf - 1 : Nat) : Int)); rw [hdo] at this; exact this) (chs_setCell (S := fun j => j = gx) wB rfl 3 _))
          generalize lf - 1 = lg at ew2 t6 t7 HE
          clear HFin
          go_wp2_with fail
          go_ret
          exact ⟨rfl, HE.out⟩
end Go.Proofs.Ytmkdnfiiehgcaaa
