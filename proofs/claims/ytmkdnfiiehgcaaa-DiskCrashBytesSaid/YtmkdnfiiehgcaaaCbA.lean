/- DiskCrashBytes: plain laws, and an append of numbers behind a fresh one. -/
import Derived.Test.YtmkdnfiiehgcaaaCutA
import Derived.Laws.AppendOwnNone
namespace Go.Proofs.Ytmkdnfiiehgcaaa
open Go Go.RowKit

/-- whether write i is kept -/
def keptB (l : List Bool) (i : Nat) : Bool := l.getD i false
theorem keptB_at {l : List Bool} {i : Nat} {x : Bool} (h : l[i]? = some x) : keptB l i = x := by unfold keptB; rw [List.getD_eq_getElem?_getD, h]; rfl
theorem keptB_out {l : List Bool} {i : Nat} (h : l.length ≤ i) : keptB l i = false := by unfold keptB; rw [List.getD_eq_getElem?_getD, List.getElem?_eq_none h]; rfl
theorem bool_at {p : Option Addr} {c k : Nat} {l : List Bool} {w W : World} {x : Bool} (hv : RowsIn 1 BoolR (.slice p l.length c) l w) (hx : l[k]? = some x) (hg : Gr w W) :
    ∃ g off, p = some ⟨g, off, none⟩ ∧ l.length ≤ c ∧ W.cell? ⟨g, off + k, none⟩ = some (.bool x) := by
  have hlt := (List.getElem?_eq_some_iff.1 hx).1
  rcases hv with ⟨rfl, _⟩ | ⟨g, off, cap, he, h1, h2, h3, h4⟩
  · simp at hlt
  · injection he with e1 e2 e3
    subst e1 e3
    obtain ⟨cs, hcs, -, hc⟩ := h4 k x hx
    obtain rfl : cs = [.bool x] := hcs
    refine ⟨g, off, rfl, h1, ?_⟩
    have := hc 0 _ rfl
    rw [Nat.mul_one, Nat.add_zero] at this
    exact hg.cell this
/-- the numbers kept, the last one first -/
def numsD (K : Nat → Bool) (k : Nat) : List Int := ((kept K k).map fun i : Nat => (i : Int)).reverse
theorem numsD_succ (K : Nat → Bool) (k : Nat) : numsD K (k + 1) = if K k then (k : Int) :: numsD K k else numsD K k := by
  unfold numsD
  rw [kept_succ]
  cases h : K k <;> simp
theorem numsD_len (K : Nat → Bool) (k : Nat) : (numsD K k).length ≤ k := by
  unfold numsD kept
  rw [List.length_reverse, List.length_map]
  exact Nat.le_trans (List.length_filter_le _ _) (by simp)
theorem numsD_mem (K : Nat → Bool) (m i : Nat) (h : i < m) : ((i : Int) ∈ numsD K m) ↔ K i = true := by
  unfold numsD kept
  rw [List.mem_reverse, List.mem_map]
  constructor
  · rintro ⟨j, hj, he⟩
    obtain rfl : j = i := by omega
    exact (List.mem_filter.1 hj).2
  · intro hk
    exact ⟨i, List.mem_filter.2 ⟨by simpa using h, hk⟩, rfl⟩
theorem wantD_congr {K : Nat → Bool} {last t : Int} {f g : Nat → Wr} {b : List UInt8} {m : Nat} (h : ∀ i, i < m → f i = g i) : wantD K last t f b m = wantD K last t g b m := by
  unfold wantD
  congr 1
  apply List.map_congr_left
  intro i hi
  rw [h i (kept_lt hi)]
theorem lastOf_lt (K : Nat → Bool) : ∀ k : Nat, lastOf K k < (k : Int) ∧ -1 ≤ lastOf K k
  | 0 => by simp [lastOf]
  | k + 1 => by
    have := lastOf_lt K k
    unfold lastOf
    split <;> omega
/-- the whole content written at once -/
theorem put_whole {b c : List UInt8} (h : b.length = c.length) : putW c (0, bytesOf b) = b := by
  unfold putW putB bytesOf
  simp [h]
theorem cut_torn (s : ByteArray) (t : Nat) : s.extract 0 (min s.size t) = tornS (t : Int) s := by
  rw [tornS_pos (by omega), Int.toNat_natCast, Nat.min_comm]
/-- a list of numbers that the call owns, or nil -/
def NumS (v : Value) (N : List Int) (W : World) : Prop := (N = [] ∧ v = .slice none 0 0) ∨ (0 < N.length ∧ Own 0 1 v N.length (iC N) W)
theorem NumS.keepS {R : Nat → Prop} {v : Value} {N : List Int} {W x : World} (h : NumS v N W) (hc : Chs R W x) (hg : ∀ g, v.ownBlock = some g → ¬ R g) : NumS v N x := h.imp id (fun h => ⟨h.1, h.2.keepS hc hg⟩)
theorem NumS.ints {v : Value} {N : List Int} {W : World} (h : NumS v N W) : IntsBelow W.heap.size v N W := by
  rcases h with ⟨rfl, rfl⟩ | ⟨_, h⟩
  · exact .inl ⟨rfl, _, _, rfl⟩
  · exact own_ints0 h rfl
theorem own_num1 (w : World) (x : Int) : Own w.heap.size 1 (.slice (some ⟨w.heap.size, 0, none⟩) 1 1) 1 (iC [x]) (w.alloc (.cells #[.int .i64 x] 3)) := by
  have hrow : (w.alloc (.cells #[.int .i64 x] 3)).heap[w.heap.size]? = some (.cells #[.int .i64 x] 3 (0, 0)) := heap_alloc_new _ _
  refine ⟨rfl, .inr ⟨_, 0, 1, rfl, Nat.le_refl _, Nat.le_refl _, by unfold maxLen; omega, ?_, ?_⟩⟩
  · intro j u hj
    match j, hj with
    | 0, hj => rw [cell_of_row _ _ _ _ _ _ hrow]; exact hj
  · intro j hj
    have : j = 0 := by omega
    subst this
    rw [cell_of_row _ _ _ _ _ _ hrow]
    exact ⟨rfl, frozen_of_row _ _ _ _ _ hrow⟩
/-- an append of a list of numbers behind a fresh one -/
theorem push_front {ops : Array Oper} {rest : List Oper} {o : Oper} {a : Act} {W : World} {Q : Exit → Act → World → Prop} {i : TypeInfo} {v : Value} {N : List Int} {x : Int} {dt st : Tmp} (hg : o.guard = none)
    (hop : o.op = Op.call { callee := Callee.builtin Builtin.append, args := #[.tmp dt, .tmp st], argTypes := #[37, 37] }) (h2 : Try.prog.info? 3 = some i) (h3 : i.zero = some (.int .i64 0)) (h4 : i.size = 1) (h5 : i.bytes = 8)
    (hs : a.eval (.tmp dt) = .slice (some ⟨W.heap.size, 0, none⟩) 1 1) (hx : a.eval (.tmp st) = v) (hO : NumS v N W) (hj : N.length ≤ 1000000)
    (h : ∀ v' w', NumS v' (x :: N) w' → Gr W w' → (∀ g, v'.ownBlock = some g → W.heap.size ≤ g ∧ g < w'.heap.size) → wpList Try.prog ops Q rest (a.put o.dst v') w') :
    wpList Try.prog ops Q (o :: rest) a (W.alloc (.cells #[.int .i64 x] 3)) := by
  have hG := Gr.alloc W (.cells #[.int .i64 x] 3)
  have hn := own_num1 W x
  rcases hO with ⟨rfl, rfl⟩ | ⟨h0, hO⟩
  · refine wpList_append_own_none hg (.tmp dt) (.tmp st) 37 hop 0 3 i 1 Try.underlying37 h2 _ 1 [.int .i64 x] hs (World.ownsRow_lit W #[.int .i64 x] 1 (Nat.zero_le _) (by unfold maxLen; omega) rfl) hx ?_
    refine h _ _ (.inr ⟨by simp, hn.mono (Nat.zero_le _)⟩) hG (fun g hg => ?_)
    simp [Value.ownBlock] at hg
    subst hg
    simp
  · obtain ⟨hl, hO'⟩ := hO
    rcases hO' with ⟨rfl, h0'⟩ | ⟨g, off, cap, rfl, hB, hc, hcm, hxs, hw⟩
    · omega
    · refine wpList_append_Own hg (.tmp dt) (.tmp st) 37 hop 3 i (.int .i64 0) 1 8 Try.underlying37 h2 h3 h4 h5 rfl (by decide) hs hn ⟨g, off, none⟩ N.length cap (iC N) hx (by rw [iC_length]; omega) ?_ ?_ h0 (by unfold maxLen; omega) (by omega) (by simp) ?_
      · intro j u hj
        rw [Addr.add_mid]; exact hG.cell (hxs j u hj)
      · intro u hu
        simp [iC] at hu
        obtain ⟨y, _, rfl⟩ := hu; rfl
      · intro v' w' k1 k2 k3
        have hge : ∀ g, v'.ownBlock = some g → W.heap.size ≤ g := fun g hg => by
          rcases k3 g hg with h | h
          · simp [Value.ownBlock] at h; omega
          · rw [World.size_alloc] at h; omega
        refine h v' w' (.inr ⟨by simp, ?_⟩) (gr_stepJ (Gr.refl W) hG k2 (fun g hg => by simp [Value.ownBlock] at hg; omega)) (fun g hg => ⟨hge g hg, ?_⟩)
        · have e : (x :: N).length = 1 + N.length := by simp; omega
          rw [e]
          exact k1.mono (Nat.zero_le _)
        · rcases k1.2 with ⟨rfl, h0⟩ | ⟨g', off, cap, rfl, hB, hn, hcm, hx, hw⟩
          · simp [Value.ownBlock] at hg
          · simp [Value.ownBlock] at hg
            subst hg
            exact isSome_lt (hw 0 (by omega)).1
end Go.Proofs.Ytmkdnfiiehgcaaa
