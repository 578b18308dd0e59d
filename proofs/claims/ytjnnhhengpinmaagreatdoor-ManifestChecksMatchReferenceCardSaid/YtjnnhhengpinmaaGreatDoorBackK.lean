/- Ranges over slices.Backward: what the iterator promises, over strings and over steps; and a variable in a box through the rounds. -/
import Derived.Test.YtjnnhhengpinmaaGreatDoorBack
import Derived.Test.YtjnnhhengpinmaaGreatDoorMF
namespace Go.Proofs.YtjnnhhengpinmaaGreatDoor
open Go.RowKit Go.Shelf
attribute [local go_sem] Oper.semAt_some

/-- v is a slice of steps that holds L -/
def SidesAt (v : Value) (L : List (ByteArray × Bool)) (w : World) : Prop :=
  (v = .slice none 0 0 ∧ L = []) ∨ ∃ g off cap, v = .slice (some ⟨g, off, none⟩) L.length cap ∧ L.length ≤ cap ∧ cap ≤ maxLen ∧
    ∀ (j : Nat) x, L[j]? = some x → SideAt w g (off + j * 2) x
/-- steps as cells -/
def wC (L : List (ByteArray × Bool)) : List Value := L.flatMap fun x => [.string x.1, .bool x.2]
theorem wC_length (L : List (ByteArray × Bool)) : (wC L).length = L.length * 2 := by
  induction L with
  | nil => rfl
  | cons x L ih => rw [wC, List.flatMap_cons, List.length_append, ← wC, ih, List.length_cons]; simp; omega
theorem wC_at : ∀ (L : List (ByteArray × Bool)) (j : Nat) (x : ByteArray × Bool), L[j]? = some x → (wC L)[j * 2]? = some (.string x.1) ∧ (wC L)[j * 2 + 1]? = some (.bool x.2) := by
  intro L
  induction L with
  | nil => intro j x h; simp at h
  | cons y L ih =>
    intro j x h
    cases j with
    | zero => simp at h; subst h; exact ⟨rfl, rfl⟩
    | succ j =>
      simp at h
      have h1 := ih j x h
      rw [wC, List.flatMap_cons, ← wC]
      rw [show (j + 1) * 2 = j * 2 + 2 by omega]
      exact ⟨h1.1, h1.2⟩
theorem wC_push (L : List (ByteArray × Bool)) (x : ByteArray × Bool) : wC L ++ [.string x.1, .bool x.2] = wC (L ++ [x]) := by simp [wC]
theorem Own.sides {B : Nat} {v : Value} {n : Nat} {L : List (ByteArray × Bool)} {w : World} (h : Own B 2 v n (wC L) w) : n = L.length ∧ SidesAt v L w := by
  obtain ⟨hl, h⟩ := h
  rw [wC_length] at hl
  have hn : n = L.length := by omega
  subst hn
  refine ⟨rfl, ?_⟩
  rcases h with ⟨h, h0⟩ | ⟨g, off, cap, rfl, hB, hc, hm, hx, hw⟩
  · exact .inl ⟨h, List.eq_nil_of_length_eq_zero h0⟩
  · refine .inr ⟨g, off, cap, rfl, hc, hm, ?_⟩
    intro j x hj
    obtain ⟨h1, h2⟩ := wC_at L j x hj
    exact ⟨hx _ _ h1, by rw [Nat.add_assoc]; exact hx _ _ h2⟩
/-- the block of a slice that is not empty -/
def blk (m : Nat) (v : Value) : Option Nat := if m = 0 then none else v.ownBlock

/-- the steps of one value after another, the last one first -/
theorem backS_stops (n : Nat) (hn : 1 ≤ n) (L : List ByteArray) (b1 m cap : Nat) (p : Option Addr) (hm : L.length = m) (hmax : m ≤ 9223372036854775807) (F : _root_.Fin m → ByteArray) (hF : ∀ k, F k = L.reverse.getD k.1 ⟨#[]⟩) (w : World) (hv : StrsAt (.slice p m cap) L w)
    (h1 : w.heap[b1]? = some (.cells #[.slice p m cap] 25 (0, 0))) :
    SeqStopsK Fence.wide n Tryz.prog 124 #[.pointer (some ⟨b1, 0, none⟩)] (fun k : _root_.Fin m => #[.int .i64 ((m - 1 - k.1 : Nat) : Int), .string (F k)]) (KpB b1 (blk m (.slice p m cap))) (fun xs => xs = List.finRange m) (fun _ => True) m w := by
  intro l J Jx W hW hJ hJx hY h0
  have g1 := (hW.block b1 (Array.getElem?_eq_some_iff.1 h1).1).trans h1
  rcases hv with ⟨hv, rfl⟩ | ⟨g, off, cap', hv, _, _, hc⟩
  · injection hv with e1 e2 e3
    subst e1 e2 e3
    refine (backS0_in n l b1 (fun W => J [] W) W g1 h0).mono ?_
    rintro e W' ⟨he, hj⟩
    exact ⟨he, .inl ⟨_, rfl, hj⟩⟩
  · injection hv with e1 e2 e3
    subst e1 e3
    refine (backS1_in n hn L l b1 g off m cap hm hmax (fun k => J ((List.finRange m).take k)) (fun k => Jx ((List.finRange m).take k)) ?_ W g1 (fun j x hj => (show Gr w W from hW).cell (hc j x hj)) h0).mono ?_
    · intro k W' hk hj
      have hblk : blk m (.slice (some ⟨g, off, none⟩) m cap) = some g := by unfold blk; rw [if_neg (by omega)]; rfl
      have ht : (List.finRange m).take (k + 1) = (List.finRange m).take k ++ [⟨k, hk⟩] := by
        rw [List.take_succ_eq_append_getElem (by simpa using hk)]; simp
      have := hY ((List.finRange m).take k) ⟨k, hk⟩ W' hj (by simp; omega)
      rw [← ht, hblk] at this
      simp only [hF] at this
      exact this
    · rintro e W' ⟨he, hj | ⟨k, _, hj⟩⟩
      · exact ⟨he, .inl ⟨_, rfl, by have h := hj; rw [List.take_of_length_le (by simp)] at h; exact h⟩⟩
      · exact ⟨he, .inr ⟨_, trivial, hj⟩⟩
theorem backW_stops (n : Nat) (hn : 1 ≤ n) (L : List (ByteArray × Bool)) (b1 m cap : Nat) (p : Option Addr) (hm : L.length = m) (hmax : m ≤ 9223372036854775807) (F : _root_.Fin m → ByteArray × Bool) (hF : ∀ k, F k = L.reverse.getD k.1 (⟨#[]⟩, false)) (w : World) (hv : SidesAt (.slice p m cap) L w)
    (h1 : w.heap[b1]? = some (.cells #[.slice p m cap] 137 (0, 0))) :
    SeqStopsK Fence.wide n Tryz.prog 131 #[.pointer (some ⟨b1, 0, none⟩)] (fun k : _root_.Fin m => #[.int .i64 ((m - 1 - k.1 : Nat) : Int), .agg #[.string (F k).1, .bool (F k).2]]) (KpB b1 (blk m (.slice p m cap))) (fun xs => xs = List.finRange m) (fun _ => True) m w := by
  intro l J Jx W hW hJ hJx hY h0
  have g1 := (hW.block b1 (Array.getElem?_eq_some_iff.1 h1).1).trans h1
  rcases hv with ⟨hv, rfl⟩ | ⟨g, off, cap', hv, _, _, hc⟩
  · injection hv with e1 e2 e3
    subst e1 e2 e3
    refine (backW0_in n l b1 (fun W => J [] W) W g1 h0).mono ?_
    rintro e W' ⟨he, hj⟩
    exact ⟨he, .inl ⟨_, rfl, hj⟩⟩
  · injection hv with e1 e2 e3
    subst e1 e3
    refine (backW1_in n hn L l b1 g off m cap hm hmax (fun k => J ((List.finRange m).take k)) (fun k => Jx ((List.finRange m).take k)) ?_ W g1 (fun j x hj => ⟨(show Gr w W from hW).cell (hc j x hj).1, (show Gr w W from hW).cell (hc j x hj).2⟩) h0).mono ?_
    · intro k W' hk hj
      have hblk : blk m (.slice (some ⟨g, off, none⟩) m cap) = some g := by unfold blk; rw [if_neg (by omega)]; rfl
      have ht : (List.finRange m).take (k + 1) = (List.finRange m).take k ++ [⟨k, hk⟩] := by
        rw [List.take_succ_eq_append_getElem (by simpa using hk)]; simp
      have := hY ((List.finRange m).take k) ⟨k, hk⟩ W' hj (by simp; omega)
      rw [← ht, hblk] at this
      have e := hF ⟨k, hk⟩
      dsimp only at this e ⊢
      unfold sideV
      rw [← e]
      exact this
    · rintro e W' ⟨he, hj | ⟨k, _, hj⟩⟩
      · exact ⟨he, .inl ⟨_, rfl, by have h := hj; rw [List.take_of_length_le (by simp)] at h; exact h⟩⟩
      · exact ⟨he, .inr ⟨_, trivial, hj⟩⟩
theorem backS_any (p : Option Addr) (len cap : Nat) (w : World) :
    Calls Tryz.prog 92 #[.slice p len cap] w fun e w' => e = .returned (.func (.func 124) #[] #[.pointer (some ⟨w.heap.size, 0, none⟩)]) ∧ w.alloc (.cells #[.slice p len cap] 25) = w' := by
  go_enter Tryz.func92, Tryz.ntmps92
  go_wp2
  go_ret
  exact ⟨rfl, rfl⟩
theorem backW_any (p : Option Addr) (len cap : Nat) (w : World) :
    Calls Tryz.prog 101 #[.slice p len cap] w fun e w' => e = .returned (.func (.func 131) #[] #[.pointer (some ⟨w.heap.size, 0, none⟩)]) ∧ w.alloc (.cells #[.slice p len cap] 137) = w' := by
  go_enter Tryz.func101, Tryz.ntmps101
  go_wp2
  go_ret
  exact ⟨rfl, rfl⟩

/-- a variable in a box through the rounds; all else has only grown since w -/
def BoxI {α : Type} (w : World) (n0 bo : Nat) (t : TypeId) (f : List α → Value) (pre : List α) (W : World) : Prop :=
  Boxed W bo t (f pre) ∧ Tab W ∧ Gr w W ∧ n0 ≤ W.heap.size
theorem boxI_own {α : Type} (w x : World) (bo : Nat) (t : TypeId) (f : List α → Value) (hbo : bo < x.heap.size) (ht : 0 < x.heap.size) (hw : w.heap.size ≤ x.heap.size) : OwnFrom x.heap.size (BoxI w x.heap.size bo t f) := by
  rintro s W W' row ⟨i1, i3, i4, i5⟩ hgr hr
  have hc := Chg.of_grownBy hgr
  have hne : ∀ k, k < x.heap.size → some k ≠ row := fun k hk e => by have := (hr k e.symm).1; omega
  exact ⟨hc.block i1 (hne _ hbo), i3.same (hc.at_ i3.lt (hne _ ht)), (show Below w.heap.size w W from i4).trans (hc.below (fun k hk => Nat.le_trans hw (hr k hk).1) i4.size), Nat.le_trans i5 hc.size⟩
theorem BoxI.gr {α : Type} {w W W' : World} {n0 bo : Nat} {t : TypeId} {f : List α → Value} {pre : List α} (h : BoxI w n0 bo t f pre W) (hG : Gr W W') : BoxI w n0 bo t f pre W' :=
  ⟨hG.block h.1, h.2.1.gr hG, h.2.2.1.trans hG, Nat.le_trans h.2.2.2 hG.size⟩
/-- the box is written -/
theorem boxI_set {α : Type} {w W W' : World} {n0 bo : Nat} {t : TypeId} {f : List α → Value} {pre pre' : List α} (h : BoxI w n0 bo t f pre W) (hG : Gr W W') (hbw : w.heap.size ≤ bo) (ht : 0 ≠ bo) :
    BoxI w n0 bo t f pre' (W'.setCell ⟨bo, 0, none⟩ (f pre')) := by
  obtain ⟨i1, i3, i4, i5⟩ := h
  have hb : Boxed W' bo t (f pre) := hG.block i1
  have hT : Tab W' := i3.gr hG
  have hc : Chg (some bo) W' (W'.setCell ⟨bo, 0, none⟩ (f pre')) := setCells_chg bo [f pre'] 0 W'
  exact ⟨hb.set _, hT.same (hc.at_ hT.lt (by simp; exact ht)), (show Below w.heap.size w W' from i4.trans hG).trans (hc.below (fun k hk => by cases hk; exact hbw) (i4.trans hG).size), Nat.le_trans i5 (Nat.le_trans hG.size hc.size)⟩
theorem StrsAt.blk_lt {p : Option Addr} {m cap : Nat} {L : List ByteArray} {w : World} (h : StrsAt (.slice p m cap) L w) (hm : L.length = m) (k : Nat) (e : blk m (.slice p m cap) = some k) : k < w.heap.size := by
  unfold blk at e
  split at e
  · cases e
  rename_i h0
  rcases h with ⟨h, rfl⟩ | ⟨g, off, cap', h, _, _, hc⟩
  · simp at hm; omega
  · injection h with e1 _ _
    subst e1
    simp [Value.ownBlock] at e
    subst e
    obtain ⟨x, hx⟩ : ∃ x, L[0]? = some x := ⟨_, List.getElem?_eq_getElem (by omega)⟩
    exact World.block_lt_of_cell? _ _ (hc 0 x hx)
theorem SidesAt.blk_lt {p : Option Addr} {m cap : Nat} {L : List (ByteArray × Bool)} {w : World} (h : SidesAt (.slice p m cap) L w) (hm : L.length = m) (k : Nat) (e : blk m (.slice p m cap) = some k) : k < w.heap.size := by
  unfold blk at e
  split at e
  · cases e
  rename_i h0
  rcases h with ⟨h, rfl⟩ | ⟨g, off, cap', h, _, _, hc⟩
  · simp at hm; omega
  · injection h with e1 _ _
    subst e1
    simp [Value.ownBlock] at e
    subst e
    obtain ⟨x, hx⟩ : ∃ x, L[0]? = some x := ⟨_, List.getElem?_eq_getElem (by omega)⟩
    exact World.block_lt_of_cell? _ _ (hc 0 x hx).1
/-- the roots of parts, joined one after another -/
def foldN {α : Type} (F : α → ByteArray) (ra : ByteArray) (pre : List α) : ByteArray := (pre.map F).foldl (fun out r => nodeD r out) ra
theorem foldN_push {α : Type} (F : α → ByteArray) (ra : ByteArray) (pre : List α) (k : α) : foldN F ra (pre ++ [k]) = nodeD (F k) (foldN F ra pre) := by
  unfold foldN; rw [List.map_append, List.foldl_append]; rfl
theorem fold_size : ∀ (L : List ByteArray) (a : ByteArray), a.size = 32 → (L.foldl (fun out r => nodeD r out) a).size = 32 := by
  intro L
  induction L with
  | nil => intro a h; exact h
  | cons x L ih => intro a _; exact ih _ (nodeD_size _ _)
theorem fin_getD {α : Type} (L : List α) (d : α) {m : Nat} (hm : L.length = m) : (List.finRange m).map (fun k => L.getD k.1 d) = L := by
  apply List.ext_getElem
  · simp [hm]
  · intro i h1 h2
    simp [List.getElem?_eq_getElem h2]
theorem foldN_size {α : Type} (F : α → ByteArray) (ra : ByteArray) (h : ra.size = 32) (pre : List α) : (foldN F ra pre).size = 32 := fold_size _ _ h
end Go.Proofs.YtjnnhhengpinmaaGreatDoor
