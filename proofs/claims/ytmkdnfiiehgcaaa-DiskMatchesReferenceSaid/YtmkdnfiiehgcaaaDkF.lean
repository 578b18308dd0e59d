/- Plain laws on the statements' own loops: picked places, writes that fit, the last survivor. No program in sight. -/
import Derived.Test.YtmkdnfiiehgcaaaDkE
namespace Go.Proofs.Ytmkdnfiiehgcaaa

/-- an arbitrary number as a place -/
def pickD (c : Int) (n : Nat) : Nat := (if c < 0 then (-(c + 1)).toNat else c.toNat) % n
theorem pickD_lt (c : Int) {n : Nat} (h : 0 < n) : pickD c n < n := Nat.mod_lt _ h
/-- a write that fits -/
def fitsD (o : Int) (s : ByteArray) (n : Nat) : Wr := (pickD o (n + 1), s.extract 0 (min s.size (n - pickD o (n + 1))))
theorem fitsD_ok (o : Int) (s : ByteArray) (n : Nat) : Wr.ok n (fitsD o s n) := by
  have := pickD_lt o (n := n + 1) (by omega)
  unfold Wr.ok fitsD
  simp only [ByteArray.size_extract]
  omega
/-- the last place below i that is kept -/
def lastOf (K : Nat → Bool) : Nat → Int
  | 0 => -1
  | i + 1 => if K i then (i : Int) else lastOf K i
def kept (K : Nat → Bool) (i : Nat) : List Nat := (List.range i).filter K
theorem kept_succ (K : Nat → Bool) (i : Nat) : kept K (i + 1) = kept K i ++ if K i then [i] else [] := by
  unfold kept
  rw [List.range_succ, List.filter_append]
  cases h : K i <;> simp [h]
theorem kept_lt {K : Nat → Bool} {i j : Nat} (h : j ∈ kept K i) : j < i := by
  have := (List.mem_filter.1 h).1; simpa using this
theorem lastCut_snoc (t : Int) (x : Wr) : ∀ l : List Wr, lastCut t (l ++ [x]) = l ++ [(x.1, tornS t x.2)]
  | [] => rfl
  | [y] => rfl
  | y :: z :: r => by
    rw [List.cons_append, List.cons_append, lastCut, ← List.cons_append, lastCut_snoc t x (z :: r)]; rfl
/-- the last survivor, and it alone, is torn -/
theorem lastCut_kept (K : Nat → Bool) (t : Int) (f : Nat → Wr) : ∀ m : Nat,
    lastCut t ((kept K m).map f) = (kept K m).map fun i : Nat => if (i : Int) = lastOf K m then ((f i).1, tornS t (f i).2) else f i := by
  intro m
  induction m with
  | zero => rfl
  | succ m ih =>
    rw [kept_succ, lastOf]
    cases h : K m with
    | false => simpa using ih
    | true =>
      simp only [if_true, List.map_append, List.map_cons, List.map_nil]
      rw [lastCut_snoc]
      congr 1
      apply List.map_congr_left
      intro i hi
      have := kept_lt hi
      rw [if_neg (by omega)]
theorem ordN_kept {K : Nat → Bool} {m : Nat} {N : List Int} (h : ∀ i : Nat, i < m → (((i : Int) ∈ N) ↔ K i = true)) : ordN N m = kept K m := by
  unfold ordN kept
  apply List.filter_congr
  intro i hi
  have := h i (by simpa using hi)
  cases hk : K i <;> simp [this, hk]
/-- the content that the statement reckons -/
def wantD (K : Nat → Bool) (last t : Int) (f : Nat → Wr) (b : List UInt8) (i : Nat) : List UInt8 := applyL b ((kept K i).map fun j : Nat => if (j : Int) = last then ((f j).1, tornS t (f j).2) else f j)
theorem wantD_succ (K : Nat → Bool) (last t : Int) (f : Nat → Wr) (b : List UInt8) (i : Nat) :
    wantD K last t f b (i + 1) = if K i then putW (wantD K last t f b i) ((f i).1, if (i : Int) = last then tornS t (f i).2 else (f i).2) else wantD K last t f b i := by
  unfold wantD
  rw [kept_succ]
  cases h : K i with
  | false => simp
  | true =>
    simp only [if_true, List.map_append, List.map_cons, List.map_nil]
    rw [applyL_snoc]
    split <;> rfl
/-- what a crash leaves is what the statement reckons -/
theorem crash_want {K : Nat → Bool} {t : Int} {N : List Int} {d : Dk} (h : ∀ i : Nat, i < d.pend.length → (((i : Int) ∈ N) ↔ K i = true)) :
    (crashD d N t).vis = wantD K (lastOf K d.pend.length) t (fun i => d.pend.getD i (0, ⟨#[]⟩)) d.dur d.pend.length := by
  show applyL d.dur (lastCut t (survive N d.pend)) = _
  unfold survive wantD
  rw [ordN_kept h, lastCut_kept]
end Go.Proofs.Ytmkdnfiiehgcaaa
