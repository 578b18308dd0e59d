/- What collects strings that an iterator gives. -/
import Derived.OwnWalkIn
import Derived.Maps.AppendAt
import Derived.Test.YtakhomofckcckaaGreatDoorML
namespace Go.Proofs.YtakhomofckcckaaGreatDoor
section
open Go Go.RowKit Go.Shelf
attribute [local go_sem] Oper.semAt_some

theorem infoStr : (Tryz.prog.info? 9).map (fun i => (i.zero, i.size, i.bytes)) = some (some (.string ⟨#[]⟩), 1, 16) := by kernel_rfl
set_option maxRecDepth 100000 in
set_option maxHeartbeats 2000000 in
theorem appendSeqS_any (gf : Nat) (lb : Array Value) (eg : ∀ args w, (callFunc gf args).run Tryz.prog w = .ok (.enter gf args) w) (o : Lf → ByteArray) (L : List Lf) (N : Nat) (hN : N ≤ 1000000) (w0 w : World)
    (hseq : SeqStopsK Fence.wide 5 Tryz.prog gf lb (fun x : Lf => #[.string (o x)]) (Below w0.heap.size) (fun xs => xs = L) (fun _ => True) N w0) (hb0 : Below w0.heap.size w0 w) :
    Calls Tryz.prog 73 #[.slice none 0 0, .func (.func gf) #[] lb] w fun e W' => ∃ u, e = .returned u ∧ W'.ownsRow w.heap.size 9 1 u L.length (L.map fun x => Value.string (o x)) ∧ Below w.heap.size w W' := by
  obtain ⟨i0, hi, hz0, hz1, hz2⟩ := info_parts infoStr
  refine (callsIn_wide (n := 6)).1 ?_
  refine callsIn_of_wp_marks Tryz.func73 rfl trivial ?_ rfl
  simp only [Tryz.ntmps73, List.size_toArray, List.length_cons, List.length_nil, Nat.reduceAdd, Nat.reduceSub, Array.replicate_succ, Array.replicate_zero, List.push_toArray, List.append_toArray, List.nil_append, List.cons_append]
  have hB0 : Below w.heap.size w (w.alloc (.cells #[.slice none 0 0] 58)) := (Below.refl _ w).alloc (Nat.le_refl _) _
  have bO := Boxed.new w 58 (.slice none 0 0)
  gi_wp2
  refine wpIn_rangeFunc_ownG rfl (by decide) (gf := gf) (lb := lb) rfl trivial eg hseq belowK_t (belowK_b (by have := hb0.size; simp; omega)) (hb0.trans (hB0.mono hb0.size)) (fun _ => rfl)
    (fun pre W => (∃ v, Boxed W w.heap.size 58 v ∧ W.ownsRow w.heap.size 9 1 v pre.length (pre.map fun x => Value.string (o x)) ∧ True) ∧ Below w.heap.size w W)
    (fun _ _ _ => False)
    (OwnFrom.and (Own.from (holdsRow_own w.heap.size w.heap.size 58 9 1 (fun pre : List Lf => pre.length) (fun pre => pre.map fun x => Value.string (o x)) (fun _ _ => True)) _) (ownFrom_below (Nat.le_refl _) (by simp)))
    (fun _ _ _ _ _ hs _ _ => hs)
    ⟨⟨_, bO, World.ownsRow_nil _ _ _ _, trivial⟩, hB0⟩ ?a1 ?assign ?body ?done ?stop
  case assign =>
    intro l x W K hK
    gi_wp2
    exact hK
  case stop => intro D c pre W _ _ h _; exact h.elim
  case body =>
    rintro l pre x W ⟨⟨v, hv, hrow, -⟩, hB⟩ hlt
    have hc := hv.cell
    generalize hox : o x = ox
    gi_wp2_with (gi_at_builtin; refine wpListIn_append_own _ rfl _ _ 58 rfl w.heap.size 9 i0 (.string ⟨#[]⟩) 1 16 Tryz.underlying58 hi hz0 hz1 hz2 rfl (by decide) _ _ _ rfl (hrow.alloc _) ⟨W.heap.size, 0, none⟩ 1 1 [.string ox] rfl rfl (cell_one_new _ _ _) (by simp [Value.oneCell']) (by unfold maxLen; omega) (by omega) (by have := hB.size; simp; omega) ?_; intro v' w1 hown' hgrow _; obtain ⟨g', cap', rfl⟩ := ownsRow_succ hown'; obtain ⟨hv1, hv2, hr2, hk2, hb2⟩ := hv.appended (by decide) hrow hB.size (Nat.le_refl _) hown' hgrow; have hc1 := hv1.cell; have hf1 := hv1.frozen)
    exact ⟨hk2.from _, hb2.mono hb0.size, ⟨_, hv2, by rw [List.map_append, List.length_append]; simpa [hox] using hr2, trivial⟩, hB.trans hb2⟩
  case done =>
    rintro D ys W hD rfl ⟨⟨v, hv, hrow, -⟩, hB⟩ hK
    have hc := hv.cell
    gi_wp2
    refine ⟨by simp, .inl ⟨_, _, rfl, run_takeDeferred hK, ?_⟩⟩
    exact ⟨_, results_tmp rfl _ _ _, v, rfl, ownsRow_putObj hrow _ hK rfl, hB.trans (belowK_b (w := w) (Nat.le_refl _) W D _ _ (by simp at hD; omega) hK rfl rfl)⟩
end
section
open Go Go.RowKit Go.Shelf
attribute [local go_sem] gAt gUpon
attribute [local simp] Gr.refl Gr.alloc

theorem collectS_any (gf : Nat) (lb : Array Value) (eg : ∀ args w, (callFunc gf args).run Tryz.prog w = .ok (.enter gf args) w) (o : Lf → ByteArray) (L : List Lf) (N : Nat) (hN : N ≤ 1000000) (w0 w : World)
    (hseq : SeqStopsK Fence.wide 5 Tryz.prog gf lb (fun x : Lf => #[.string (o x)]) (Below w0.heap.size) (fun xs => xs = L) (fun _ => True) N w0) (hb0 : Below w0.heap.size w0 w) :
    Calls Tryz.prog 40 #[.func (.func gf) #[] lb] w fun e W' => ∃ u, e = .returned u ∧ W'.ownsRow w.heap.size 9 1 u L.length (L.map fun x => Value.string (o x)) ∧ Below w.heap.size w W' := by
  have HA := Lib.hid (appendSeqS_any gf lb eg o L N hN w0 w hseq hb0)
  clear hseq hb0
  go_enter Tryz.func40, Tryz.ntmps40
  go_wp2_with fail
  refine HA.out.mono ?_
  rintro e w1 ⟨u, rfl, h1, h2⟩
  go_wp2_with fail
  go_ret
  exact ⟨u, rfl, h1, h2⟩
theorem thoseS_any (p : Option Addr) (n c fh fo : Nat) (w : World) :
    Calls Tryz.prog 41 #[.slice p n c, .func (.func fh) #[] #[], .func (.func fo) #[] #[]] w fun e w' => e = .returned (.func (.func 74) #[] #[.pointer (some ⟨w.heap.size, 0, none⟩), .pointer (some ⟨w.heap.size + 1, 0, none⟩), .pointer (some ⟨w.heap.size + 2, 0, none⟩)]) ∧ Gr w w' ∧
      w'.cell? ⟨w.heap.size, 0, none⟩ = some (.slice p n c) ∧ w'.cell? ⟨w.heap.size + 1, 0, none⟩ = some (.func (.func fh) #[] #[]) ∧ w'.cell? ⟨w.heap.size + 2, 0, none⟩ = some (.func (.func fo) #[] #[]) := by
  go_enter Tryz.func41, Tryz.ntmps41
  go_wp2_with fail
  go_ret
  have h12 := two_funcs w (.slice p n c) (.func (.func fh) #[] #[]) 31 80
  have e3 := heap_alloc_new ((w.alloc (.cells #[.slice p n c] 31)).alloc (.cells #[.func (.func fh) #[] #[]] 80)) (.cells #[.func (.func fo) #[] #[]] 82)
  rw [World.size_alloc, World.size_alloc] at e3
  have hga := Gr.alloc ((w.alloc (.cells #[.slice p n c] 31)).alloc (.cells #[.func (.func fh) #[] #[]] 80)) (.cells #[.func (.func fo) #[] #[]] 82)
  exact ⟨rfl, h12.1.trans hga, hga.cell h12.2.1, hga.cell h12.2.2, by rw [cell_of_row _ _ _ _ _ _ e3]; rfl⟩
end
end Go.Proofs.YtakhomofckcckaaGreatDoor
