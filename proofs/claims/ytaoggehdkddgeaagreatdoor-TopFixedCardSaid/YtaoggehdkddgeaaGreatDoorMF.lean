/- A range over a function whose loop variable lies in a box of its own: the law. No program in sight. -/
import Derived.RangeFuncNested
import Derived.RangeFuncBound
import Derived.RangeFuncCalls
import Derived.RangeFuncLeaves
import Derived.RangeFuncWrites
import Derived.Shelf.Abstract
import Derived.Test.YtaoggehdkddgeaaGreatDoorOwn
import Derived.RangeFuncBox
import Derived.RangeFuncMany
namespace Go.Proofs.YtaoggehdkddgeaaGreatDoor
section
open Go Go.RowKit Go.Shelf

theorem keepsFrom_chg {B : Nat} {b : Option Nat} {W W' : World} (h : Chg b W W') (hb : ∀ k, b = some k → k < B) : KeepsFrom B W W' :=
  ⟨h.size, fun j o hj hjo _ => h.block hjo (fun e => by have := hb j e.symm; omega)⟩
/-- the frame of a round: the values, and the pointer to the box -/
def boxAct (a : Act) (ps : Array Tmp) (vs : Array Value) (slot Bx : Nat) : Act :=
  { tmps := ((ps.zip vs).foldl (fun t (p, v) => t.setIfInBounds p v) a.tmps).setIfInBounds slot (.pointer (some ⟨Bx, 0, none⟩)), defers := [] }
theorem wpIn_rangeFunc_box {F : Fence} {n : Nat} {P : Program} {α : Type} {g : Operand} {ps : Array Tmp} {assign body : Code} {Q : Exit → Act → World → Prop} {a : Act} {w : World} (slot : Nat) (el : α → Array Value) (t : TypeId)
    (hro : F.round = none) (h1 : 1 ≤ n) {gf : Nat} {lb : Array Value} (hg : a.eval g = .func (.func gf) #[] lb) (hFg : F.fn gf) (eg : ∀ args w, (callFunc gf args).run P w = .ok (.enter gf args) w)
    {encs : α → Array Value} {Kp : World → World → Prop} {S Sp : List α → Prop} {N : Nat} {w0 : World} (hseq : SeqStopsK F (n - 1) P gf lb encs Kp S Sp N w0)
    (hKt : ∀ {A B C : World}, Kp A B → Kp B C → Kp A C) (hKb : ∀ (W : World) (l : Nat) (o o' : Obj), w.heap.size ≤ l → W.heap[l]? = some o → o.isCells = false → o.isWalk = false → Kp W (W.putObj l o')) (hb0 : Below w0.heap.size w0 w) (hps : ∀ x, (encs x).size = ps.size)
    (I : List α → World → Prop) (Ix : Code → List α → World → Prop) (hI : OwnFrom w.heap.size I) (hIx : ∀ c, OwnFrom w.heap.size (Ix c)) (h0 : I [] w)
    (hIn : ∀ pre W, I pre W → w.heap.size ≤ W.heap.size) (hIa : ∀ pre W o, I pre W → I pre (W.alloc o)) (hKa : ∀ pre W o, I pre W → Kp W (W.alloc o))
    (hassign : ∀ (l : Nat) (x : α) (W : World) (K : Act → World → Prop), K (boxAct a ps (encs x) slot W.heap.size) (W.alloc (.cells (el x) t)) →
      assign.wpIn (F.inRound l) (n - 1 - 1) P (Exit.then K (fun _ _ _ => False)) { tmps := (ps.zip (encs x)).foldl (fun t (p, v) => t.setIfInBounds p v) a.tmps, defers := [] } W)
    (hbody : ∀ (l : Nat) (pre : List α) (x : α) (Bx : Nat) (W : World), w.heap.size ≤ Bx → I pre W → W.heap[Bx]? = some (.cells (el x) t (0, 0)) → pre.length < N →
      body.wpIn (F.inRound l) (n - 1 - 1) P (ownPostG w.heap.size Kp I Ix (pre ++ [x]) W) (boxAct a ps (encs x) slot Bx) W)
    (hdone : ∀ (D : Nat) (xs : List α) (W : World), w.heap.size ≤ D → S xs → I xs W → W.heap[D]? = some (.deferred (some [])) → Q .normal { a with defers := { target := .collected D, args := #[] } :: a.defers } W)
    (hstop : ∀ (D : Nat) (c : Code) (pre : List α) (W : World), w.heap.size ≤ D → Sp pre → Ix c pre W → W.heap[D]? = some (.deferred (some [])) → c.wpIn F n P Q { a with defers := { target := .collected D, args := #[] } :: a.defers } W) :
    (Code.rangeFunc g ps assign body).wpIn F n P Q a w := by
  refine wpIn_rangeFunc_ownH hro h1 hg hFg eg hseq hKt hKb hb0 hps I Ix hI hIx h0
    (fun x a' W => ∃ Bx, w.heap.size ≤ Bx ∧ W.heap[Bx]? = some (.cells (el x) t (0, 0)) ∧ a' = boxAct a ps (encs x) slot Bx) ?_ ?_ ?_ hdone hstop
  · intro k a' _ X Y row hs hg hr
    obtain ⟨Bx, h1, h2, h3⟩ := hs
    exact ⟨Bx, h1, (Chg.of_grownBy hg).block h2 (fun e => by
      obtain ⟨_, o, ho, hc⟩ := hr Bx e.symm
      rw [h2] at ho; cases ho; cases hc), h3⟩
  · intro l pre x W K hi hK
    exact hassign l x W K (hK _ _ (keepsFrom_chg (Chg.of_gr (g := none) (Gr.alloc W _)) (fun _ e => by cases e)) (hKa _ _ _ hi) (hIa _ _ _ hi) ⟨_, hIn _ _ hi, heap_alloc_new _ _, rfl⟩)
  · rintro l pre x a' W hl hr hi ⟨Bx, hBx, hX, rfl⟩ hlt
    exact hbody l pre x Bx W hBx hi hX hlt
end
section
open Go Go.RowKit Go.Shelf

/-- an invariant that does not mind new blocks, nor a turn of block b -/
def Abide1 {β : Type} (b : Nat) (t : TypeId) (J : β → World → Prop) : Prop := ∀ s A B row, J s A → A.grownBy B row → (∀ r, row = some r → r = b ∧ ∃ v, Boxed B b t v) → J s B
/-- an iterator that turns its own block b alone -/
def SeqTurn {α : Type} (F : Fence) (n : Nat) (P : Program) (gf : Nat) (lb : Array Value) (el : α → Array Value) (b : Nat) (t : TypeId) (S : List α → Prop) (N : Nat) (w : World) : Prop :=
  ∀ (l : Nat) (J : List α → World → Prop) (W : World), Gr w W → Abide1 b t J →
    (∀ pre x V, J pre V → pre.length < N → YieldAt F (n - 1) P l (el x) V fun e V' => e = .returned (.bool true) ∧ J (pre ++ [x]) V' ∧ V'.heap[b]? = V.heap[b]?) →
    J [] W → CallsIn F n P gf (#[.func (.yield l) #[] #[]] ++ lb) W fun e V => (∃ v, e = .returned v) ∧ ∃ xs, S xs ∧ J xs V
/-- the loop's record and the block for deferred calls -/
def Book (k : Nat) (r : Loop) (W : World) : Prop := W.heap[k + 1]? = some (.loop r) ∧ W.heap[k]? = some (.deferred (some []))
theorem Book.lt {k : Nat} {r : Loop} {W : World} (h : Book k r W) : k + 1 < W.heap.size := (Array.getElem?_eq_some_iff.1 h.1).1
theorem Book.turn {k b : Nat} {r : Loop} {A B : World} {row : Option Nat} (h : Book k r A) (hb : b < k) (hg : A.grownBy B row) (hr : ∀ j, row = some j → j = b) : Book k r B :=
  ⟨(hg.block _ h.lt (fun e => by have := hr _ e.symm; omega)).trans h.1, (hg.block _ (by have := h.lt; omega) (fun e => by have := hr _ e.symm; omega)).trans h.2⟩
theorem Book.put {k : Nat} {r r' : Loop} {W : World} (h : Book k r W) : Book k r' (W.putObj (k + 1) (.loop r')) :=
  ⟨World.putObj_heap_same h.lt, (World.putObj_heap_other (by omega)).trans h.2⟩
theorem wpIn_rangeFunc_turn {F : Fence} {n : Nat} {P : Program} {α : Type} {g : Operand} {ps : Array Tmp} {assign body : Code} {Q : Exit → Act → World → Prop} {a : Act} {w : World} (b : Nat) (t : TypeId) (hb : b < w.heap.size)
    (hro : F.round = none) (h1 : 1 ≤ n) {gf : Nat} {lb : Array Value} (hg : a.eval g = .func (.func gf) #[] lb) (hFg : F.fn gf) (eg : ∀ args w, (callFunc gf args).run P w = .ok (.enter gf args) w)
    {el : α → Array Value} {S : List α → Prop} {N : Nat} (hseq : SeqTurn F (n - 1) P gf lb el b t S N w) (hps : ∀ x, (el x).size = ps.size)
    (I : List α → World → Prop) (hI : OwnFrom w.heap.size I) (hI1 : Abide1 b t I) (h0 : I [] w) (a₁ : α → Act)
    (hassign : ∀ (l : Nat) (x : α) (W : World) (K : Act → World → Prop), K (a₁ x) W →
      assign.wpIn (F.inRound l) (n - 1 - 1) P (Exit.then K (fun _ _ _ => False)) { tmps := (ps.zip (el x)).foldl (fun t (p, v) => t.setIfInBounds p v) a.tmps, defers := [] } W)
    (hbody : ∀ (l : Nat) (pre : List α) (x : α) (W : World), I pre W → w.heap.size ≤ W.heap.size → pre.length < N →
      body.wpIn (F.inRound l) (n - 1 - 1) P (fun e _ W' => e = .normal ∧ KeepsFrom w.heap.size W W' ∧ W'.heap[b]? = W.heap[b]? ∧ I (pre ++ [x]) W') (a₁ x) W)
    (hdone : ∀ (D : Nat) (xs : List α) (W : World), w.heap.size ≤ D → S xs → I xs W → W.heap[D]? = some (.deferred (some [])) → Q .normal { a with defers := { target := .collected D, args := #[] } :: a.defers } W) :
    (Code.rangeFunc g ps assign body).wpIn F n P Q a w := by
  refine wpIn_rangeFunc (fun fn hfn => ?_)
  rw [hro]
  let R : LoopState → Loop := fun st => { state := st, pending := none, fn, tmps := a.tmps, params := ps, assign, body, defers := w.heap.size }
  let W1 : World := (w.alloc (.deferred (some []))).alloc (.loop (R .ready))
  have hB1 : Book w.heap.size (R .ready) W1 := by
    refine ⟨?_, (Below.heap_alloc _ _ _ (by simp)).trans (World.alloc_heap_new w _)⟩
    have := World.alloc_heap_new (w.alloc (.deferred (some []))) (.loop (R .ready))
    rw [World.size_alloc] at this
    exact this
  have hI' : I [] W1 := hI.alloc _ (hI.alloc _ h0)
  have hG1 : Gr w W1 := (Gr.alloc w _).trans (Gr.alloc _ _)
  refine ⟨w.heap.size + 1, [{ target := .collected w.heap.size, args := #[] }], W1, { target := .fn (.func gf) lb, args := #[.func (.yield (w.heap.size + 1)) #[] #[]] }, W1, gf,
    #[.func (.yield (w.heap.size + 1)) #[] #[]] ++ lb, W1, run_enterLoop_outer _ _ _ _ _, by simp only [resolve, hg]; simp [go_sem], ?_, by simp [invoke, go_sem, eg], fun _ => h1, ?_⟩
  · intro f' hf'
    simp [Target.leads] at hf'
    subst hf'
    exact hFg
  refine (hseq (w.heap.size + 1) (fun pre W => I pre W ∧ Book w.heap.size (R .ready) W) W1 hG1 ?_ ?_ ⟨hI', hB1⟩).mono ?_
  · intro s A B row hs hgr hr
    exact ⟨hI1 s A B row hs.1 hgr hr, hs.2.turn hb hgr (fun r e => (hr r e).1)⟩
  · rintro pre x V ⟨hi, hk⟩ hlt
    refine ⟨fn, _, assign, body, run_yield hk.1 (hps x), roundIn_of_wpIn hfn (hassign _ x V _ ⟨_, run_beginRound hk.1 rfl, ?_⟩)⟩
    have hk2 : Book w.heap.size (R .busy) (V.putObj (w.heap.size + 1) (.loop (R .busy))) := hk.put
    have hi2 : I pre (V.putObj (w.heap.size + 1) (.loop (R .busy))) := hI.putObj _ hi (by omega) hk.1 rfl
    refine wpIn_mono (hbody _ pre x _ hi2 (Nat.le_trans (Nat.le_succ _) (Nat.le_of_lt hk2.lt)) hlt) ?_
    rintro e a3 W3 ⟨rfl, hkf, hbb, hi3⟩
    have hk3 : Book w.heap.size (R .busy) W3 := ⟨hkf.same _ _ (by omega) hk2.1 rfl, hkf.same _ _ (Nat.le_refl _) hk2.2 rfl⟩
    refine ⟨_, _, run_endRound none hk3.1, rfl, ⟨hI.putObj _ hi3 (by omega) hk3.1 rfl, hk3.put⟩, ?_⟩
    rw [World.putObj_heap_other (by omega), hbb, World.putObj_heap_other (by omega)]
  · rintro e W2 ⟨⟨v, rfl⟩, xs, hS, hi, hk⟩
    exact ⟨none, _, run_endLoop hk.1 (by simp [R]), hdone _ xs _ (Nat.le_refl _) hS (hI.putObj _ hi (by omega) hk.1 rfl) ((World.putObj_heap_other (by omega)).trans hk.2)⟩
end
section
open Go Go.RowKit Go.Shelf

/-- an iterator that turns its own block b alone, and stops where the body says so -/
def SeqTurnX {α : Type} (F : Fence) (n : Nat) (P : Program) (gf : Nat) (lb : Array Value) (el : α → Array Value) (b : Nat) (t : TypeId) (S Sp : List α → Prop) (N : Nat) (w : World) : Prop :=
  ∀ (l : Nat) (J Jx : List α → World → Prop) (W : World), Gr w W → Abide1 b t J →
    (∀ pre x V, J pre V → pre.length < N → YieldAt F (n - 1) P l (el x) V fun e V' => (e = .returned (.bool true) ∧ J (pre ++ [x]) V' ∧ V'.heap[b]? = V.heap[b]?) ∨ (e = .returned (.bool false) ∧ Jx (pre ++ [x]) V')) →
    J [] W → CallsIn F n P gf (#[.func (.yield l) #[] #[]] ++ lb) W fun e V => (∃ v, e = .returned v) ∧ ((∃ xs, S xs ∧ J xs V) ∨ ∃ pre, Sp pre ∧ Jx pre V)
/-- how the body of a round may be left -/
def turnPost {α : Type} (B b : Nat) (I : List α → World → Prop) (Ix : Code → List α → World → Prop) (xs : List α) (W : World) : Exit → Act → World → Prop
  | .normal, _, W' => KeepsFrom B W W' ∧ W'.heap[b]? = W.heap[b]? ∧ I xs W'
  | .ret, _, W' => KeepsFrom B W W' ∧ Ix .ret xs W'
  | .exit id, _, W' => KeepsFrom B W W' ∧ Ix (.exit id) xs W'
  | .goto t, _, W' => KeepsFrom B W W' ∧ Ix (.goto t) xs W'
  | .panic _, _, _ => False
  | .outgrown, _, _ => False
theorem wpIn_rangeFunc_turnX {F : Fence} {n : Nat} {P : Program} {α : Type} {g : Operand} {ps : Array Tmp} {assign body : Code} {Q : Exit → Act → World → Prop} {a : Act} {w : World} (b : Nat) (t : TypeId) (hb : b < w.heap.size)
    (hro : F.round = none) (h1 : 1 ≤ n) {gf : Nat} {lb : Array Value} (hg : a.eval g = .func (.func gf) #[] lb) (hFg : F.fn gf) (eg : ∀ args w, (callFunc gf args).run P w = .ok (.enter gf args) w)
    {el : α → Array Value} {S Sp : List α → Prop} {N : Nat} (hseq : SeqTurnX F (n - 1) P gf lb el b t S Sp N w) (hps : ∀ x, (el x).size = ps.size)
    (I : List α → World → Prop) (Ix : Code → List α → World → Prop) (hI : OwnFrom w.heap.size I) (hIx : ∀ c, OwnFrom w.heap.size (Ix c)) (hI1 : Abide1 b t I) (h0 : I [] w) (a₁ : α → Act)
    (hassign : ∀ (l : Nat) (x : α) (W : World) (K : Act → World → Prop), K (a₁ x) W →
      assign.wpIn (F.inRound l) (n - 1 - 1) P (Exit.then K (fun _ _ _ => False)) { tmps := (ps.zip (el x)).foldl (fun t (p, v) => t.setIfInBounds p v) a.tmps, defers := [] } W)
    (hbody : ∀ (l : Nat) (pre : List α) (x : α) (W : World), I pre W → w.heap.size ≤ W.heap.size → pre.length < N →
      body.wpIn (F.inRound l) (n - 1 - 1) P (turnPost w.heap.size b I Ix (pre ++ [x]) W) (a₁ x) W)
    (hdone : ∀ (D : Nat) (xs : List α) (W : World), w.heap.size ≤ D → S xs → I xs W → W.heap[D]? = some (.deferred (some [])) → Q .normal { a with defers := { target := .collected D, args := #[] } :: a.defers } W)
    (hstop : ∀ (D : Nat) (c : Code) (pre : List α) (W : World), w.heap.size ≤ D → Sp pre → Ix c pre W → W.heap[D]? = some (.deferred (some [])) → c.wpIn F n P Q { a with defers := { target := .collected D, args := #[] } :: a.defers } W) :
    (Code.rangeFunc g ps assign body).wpIn F n P Q a w := by
  refine wpIn_rangeFunc (fun fn hfn => ?_)
  rw [hro]
  let R : LoopState → Option Code → Loop := fun st pe => { state := st, pending := pe, fn, tmps := a.tmps, params := ps, assign, body, defers := w.heap.size }
  let W1 : World := (w.alloc (.deferred (some []))).alloc (.loop (R .ready none))
  have hB1 : Book w.heap.size (R .ready none) W1 := by
    refine ⟨?_, (Below.heap_alloc _ _ _ (by simp)).trans (World.alloc_heap_new w _)⟩
    have := World.alloc_heap_new (w.alloc (.deferred (some []))) (.loop (R .ready none))
    rw [World.size_alloc] at this
    exact this
  have hI' : I [] W1 := hI.alloc _ (hI.alloc _ h0)
  have hG1 : Gr w W1 := (Gr.alloc w _).trans (Gr.alloc _ _)
  refine ⟨w.heap.size + 1, [{ target := .collected w.heap.size, args := #[] }], W1, { target := .fn (.func gf) lb, args := #[.func (.yield (w.heap.size + 1)) #[] #[]] }, W1, gf,
    #[.func (.yield (w.heap.size + 1)) #[] #[]] ++ lb, W1, run_enterLoop_outer _ _ _ _ _, by simp only [resolve, hg]; simp [go_sem], ?_, by simp [invoke, go_sem, eg], fun _ => h1, ?_⟩
  · intro f' hf'
    simp [Target.leads] at hf'
    subst hf'
    exact hFg
  refine (hseq (w.heap.size + 1) (fun pre W => I pre W ∧ Book w.heap.size (R .ready none) W) (fun pre W => ∃ c, Ix c pre W ∧ Book w.heap.size (R .done (some c)) W) W1 hG1 ?_ ?_ ⟨hI', hB1⟩).mono ?_
  · intro s A B row hs hgr hr
    exact ⟨hI1 s A B row hs.1 hgr hr, hs.2.turn hb hgr (fun r e => (hr r e).1)⟩
  · rintro pre x V ⟨hi, hk⟩ hlt
    refine ⟨fn, _, assign, body, run_yield hk.1 (hps x), roundIn_of_wpIn hfn (hassign _ x V _ ⟨_, run_beginRound hk.1 rfl, ?_⟩)⟩
    have hk2 : Book w.heap.size (R .busy none) (V.putObj (w.heap.size + 1) (.loop (R .busy none))) := hk.put
    have hi2 : I pre (V.putObj (w.heap.size + 1) (.loop (R .busy none))) := hI.putObj _ hi (by omega) hk.1 rfl
    refine wpIn_mono (hbody _ pre x _ hi2 (Nat.le_trans (Nat.le_succ _) (Nat.le_of_lt hk2.lt)) hlt) ?_
    have fin : ∀ W3, KeepsFrom w.heap.size (V.putObj (w.heap.size + 1) (.loop (R .busy none))) W3 → Book w.heap.size (R .busy none) W3 := fun W3 hkf =>
      ⟨hkf.same _ _ (by omega) hk2.1 rfl, hkf.same _ _ (Nat.le_refl _) hk2.2 rfl⟩
    rintro e a3 W3 hp
    cases e with
    | normal =>
      obtain ⟨hkf, hbb, hi3⟩ := hp
      have hk3 := fin W3 hkf
      refine ⟨_, _, run_endRound none hk3.1, .inl ⟨rfl, ⟨hI.putObj _ hi3 (by omega) hk3.1 rfl, hk3.put⟩, ?_⟩⟩
      rw [World.putObj_heap_other (by omega), hbb, World.putObj_heap_other (by omega)]
    | ret =>
      obtain ⟨hkf, hi3⟩ := hp
      have hk3 := fin W3 hkf
      exact ⟨_, _, run_endRound (some .ret) hk3.1, .inr ⟨rfl, .ret, (hIx _).putObj _ hi3 (by omega) hk3.1 rfl, hk3.put⟩⟩
    | exit id =>
      obtain ⟨hkf, hi3⟩ := hp
      have hk3 := fin W3 hkf
      exact ⟨_, _, run_endRound (some (.exit id)) hk3.1, .inr ⟨rfl, .exit id, (hIx _).putObj _ hi3 (by omega) hk3.1 rfl, hk3.put⟩⟩
    | goto t =>
      obtain ⟨hkf, hi3⟩ := hp
      have hk3 := fin W3 hkf
      exact ⟨_, _, run_endRound (some (.goto t)) hk3.1, .inr ⟨rfl, .goto t, (hIx _).putObj _ hi3 (by omega) hk3.1 rfl, hk3.put⟩⟩
    | panic ch => exact hp.elim
    | outgrown => exact hp.elim
  · rintro e W2 ⟨⟨v, rfl⟩, (⟨xs, hS, hi, hk⟩ | ⟨pre, hSp, c, hi, hk⟩)⟩
    · exact ⟨none, _, run_endLoop hk.1 (by simp [R]), hdone _ xs _ (Nat.le_refl _) hS (hI.putObj _ hi (by omega) hk.1 rfl) ((World.putObj_heap_other (by omega)).trans hk.2)⟩
    · exact ⟨some c, _, run_endLoop hk.1 (by simp [R]), hstop _ c pre _ (Nat.le_refl _) hSp ((hIx c).putObj _ hi (by omega) hk.1 rfl) ((World.putObj_heap_other (by omega)).trans hk.2)⟩
end
end Go.Proofs.YtaoggehdkddgeaaGreatDoor
