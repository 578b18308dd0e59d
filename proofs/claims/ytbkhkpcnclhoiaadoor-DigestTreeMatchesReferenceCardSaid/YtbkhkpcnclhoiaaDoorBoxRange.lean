/- A range over a function whose loop variable lies in a box of its own: the law. No program in sight. -/
import Derived.RangeFuncNested
import Derived.RangeFuncBound
import Derived.RangeFuncCalls
import Derived.RangeFuncLeaves
import Derived.RangeFuncWrites
import Derived.Shelf.Abstract
import Derived.Test.YtbkhkpcnclhoiaaDoorOwn
namespace Go.Proofs.YtbkhkpcnclhoiaaDoor
open Go Go.RowKit Go.Shelf

theorem keepsFrom_chg {B : Nat} {b : Option Nat} {W W' : World} (h : Chg b W W') (hb : ∀ k, b = some k → k < B) : KeepsFrom B W W' :=
  ⟨h.size, fun j o hj hjo _ => h.block hjo (fun e => by have := hb j e.symm; omega)⟩
/-- the frame of a round: the values, and the pointer to the box -/
def boxAct (a : Act) (ps : Array Tmp) (vs : Array Value) (slot Bx : Nat) : Act :=
  { tmps := ((ps.zip vs).foldl (fun t (p, v) => t.setIfInBounds p v) a.tmps).setIfInBounds slot (.pointer (some ⟨Bx, 0, none⟩)), defers := [] }
theorem wpIn_rangeFunc_box {F : Fence} {n : Nat} {P : Program} {α : Type} {g : Operand} {ps : Array Tmp} {assign body : Code} {Q : Exit → Act → World → Prop} {a : Act} {w : World} (slot : Nat) (el : α → Array Value) (t : TypeId)
    (hro : F.round = none) (h1 : 1 ≤ n) {gf : Nat} {lb : Array Value} (hg : a.eval g = .func (.func gf) #[] lb) (hFg : F.fn gf) (eg : ∀ args w, (callFunc gf args).run P w = .ok (.enter gf args) w)
    {encs : α → Array Value} {Kp : World → World → Prop} {S Sp : List α → Prop} {N : Nat} {w0 : World} (hseq : SeqStopsK F (n - 1) P gf lb encs Kp S Sp N w0)
    (hKt : ∀ {A B C : World}, Kp A B → Kp B C → Kp A C) (hKb : ∀ (W : World) (l : Nat) (o o' : Obj), w.heap.size ≤ l → W.heap[l]? = some o → o.isCells = false → o.isWalk = false → Kp W (W.putObj l o')) (hb0 : Below w0.heap.size w0 w) (hps : ∀ x, (encs x).size = ps.size)
    (I : List α → World → Prop) (Ix : Code → List α → World → Prop) (hI : OwnFrom w.heap.size I) (hIx : ∀ c, OwnFrom w.heap.size (Ix c)) (h0 : I [] w)
    (hIn : ∀ pre W, I pre W → w.heap.size ≤ W.heap.size) (hIa : ∀ pre W o, I pre W → I pre (W.alloc o)) (hKa : ∀ pre W o, I pre W → Kp W (W.alloc o))
    (hassign : ∀ (l : Nat) (x : α) (W : World) (K : Act → World → Prop), K (boxAct a ps (encs x) slot W.heap.size) (W.alloc (.cells (el x) t)) →
      assign.wpIn (F.inRound l) (n - 1 - 1) P (Exit.then K (fun _ _ _ => False)) { tmps := (ps.zip (encs x)).foldl (fun t (p, v) => t.setIfInBounds p v) a.tmps, defers := [] } W)
    (hbody : ∀ (l : Nat) (pre : List α) (x : α) (Bx : Nat) (W : World), w.heap.size ≤ Bx → I pre W → W.heap[Bx]? = some (.cells (el x) t (0, 0)) → pre.length < N →
      body.wpIn (F.inRound l) (n - 1 - 1) P (ownPostG w.heap.size Kp I Ix (pre ++ [x]) W) (boxAct a ps (encs x) slot Bx) W)
    (hdone : ∀ (D : Nat) (xs : List α) (W : World), w.heap.size ≤ D → S xs → I xs W → W.heap[D]? = some (.deferred (some [])) → Q .normal { a with defers := { target := .collected D, args := #[] } :: a.defers } W)
    (hstop : ∀ (D : Nat) (c : Code) (pre : List α) (W : World), w.heap.size ≤ D → Sp pre → Ix c pre W → W.heap[D]? = some (.deferred (some [])) → c.wpIn F n P Q { a with defers := { target := .collected D, args := #[] } :: a.defers } W) :
    (Code.rangeFunc g ps assign body).wpIn F n P Q a w := by
  refine wpIn_rangeFunc_ownH hro h1 hg hFg eg hseq hKt hKb hb0 hps I Ix hI hIx h0
    (fun x a' W => ∃ Bx, w.heap.size ≤ Bx ∧ W.heap[Bx]? = some (.cells (el x) t (0, 0)) ∧ a' = boxAct a ps (encs x) slot Bx) ?_ ?_ ?_ hdone hstop
  · intro k a' _ X Y row hs hg hr
    obtain ⟨Bx, h1, h2, h3⟩ := hs
    exact ⟨Bx, h1, (Chg.of_grownBy hg).block h2 (fun e => by
      obtain ⟨_, o, ho, hc⟩ := hr Bx e.symm
      rw [h2] at ho; cases ho; cases hc), h3⟩
  · intro l pre x W K hi hK
    exact hassign l x W K (hK _ _ (keepsFrom_chg (Chg.of_gr (g := none) (Gr.alloc W _)) (fun _ e => by cases e)) (hKa _ _ _ hi) (hIa _ _ _ hi) ⟨_, hIn _ _ hi, heap_alloc_new _ _, rfl⟩)
  · rintro l pre x a' W hl hr hi ⟨Bx, hBx, hX, rfl⟩ hlt
    exact hbody l pre x Bx W hBx hi hX hlt
end Go.Proofs.YtbkhkpcnclhoiaaDoor
