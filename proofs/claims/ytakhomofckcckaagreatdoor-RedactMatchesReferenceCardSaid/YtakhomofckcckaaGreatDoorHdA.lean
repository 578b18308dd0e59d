/- An append of a whole slice, empty or not; cut slices; hiding twice. -/
import Derived.Test.YtakhomofckcckaaGreatDoorMV
namespace Go.Proofs.YtakhomofckcckaaGreatDoor
open Go Go.RowKit Go.Shelf
attribute [local go_sem] gAt gUpon
attribute [local simp] Gr.refl Gr.alloc

theorem Rws.shape2 {α : Type} {s : Nat} {enc : α → List Value} {v : Value} {l : List α} {w : World} (h : Rws s enc v l w) : ∃ p c, v = .slice p l.length c ∧ l.length ≤ c := by
  rcases h with ⟨rfl, p, c, rfl⟩ | ⟨g, off, c, rfl, h1, _⟩
  · exact ⟨p, c, rfl, Nat.zero_le _⟩
  · exact ⟨_, c, rfl, h1⟩
theorem Rws.at_n {α : Type} {s : Nat} {enc : α → List Value} {p : Option Addr} {c n i : Nat} {l : List α} {w : World} {x : α} (h : Rws s enc (.slice p n c) l w) (hn : l.length = n) (hx : l[i]? = some x) : ∃ g off, p = some ⟨g, off, none⟩ ∧ n ≤ c ∧ ∀ (j : Nat) u, (enc x)[j]? = some u → w.cell? ⟨g, off + (i * s + j), none⟩ = some u := by
  subst hn
  exact h.at_ hx
theorem Rws.cut {α : Type} {s : Nat} {enc : α → List Value} {p : Option Addr} {c : Nat} {l : List α} {w : World} (h : Rws s enc (.slice p l.length c) l w) (k : Nat) : Rws s enc (.slice p (l.take k).length c) (l.take k) w := by
  rcases h with ⟨rfl, _, _, _⟩ | ⟨g, off, c', he, h1, h2⟩
  · exact .inl ⟨by simp, p, c, by simp⟩
  · injection he with he1 _ he3
    subst he1 he3
    refine .inr ⟨g, off, c, rfl, by rw [List.length_take]; omega, fun i x j u hx hu => ?_⟩
    have hlt := (List.getElem?_eq_some_iff.1 hx).1
    rw [List.length_take] at hlt
    rw [List.getElem?_take_of_lt (by omega)] at hx
    exact h2 i x j u hx hu
/-- an append of a slice that may be empty -/
theorem wpList_append_Rws {α : Type} {enc : α → List Value} {P : Program} {w : World} {ops : Array Oper} {rest : List Oper} {o : Oper} {a : Act} {Q : Exit → Act → World → Prop}
    (hg : o.guard = none) (s x : Operand) (t : TypeId) (hop : o.op = Op.call { callee := Callee.builtin Builtin.append, args := #[s, x], argTypes := #[t, t] })
    (e : TypeId) (i : TypeInfo) (z : Value) (size bytes : Nat) (h1 : P.underlying t = some (.slice e)) (h2 : P.info? e = some i) (h3 : i.zero = some z) (h4 : i.size = size) (h5 : i.bytes = bytes) (h6 : z.cells.size = size) (h7 : 0 < size)
    {B : Nat} {v : Value} {n : Nat} {xs : List Value} (hs : a.eval s = v) (hown : Own B size v n xs w) (hlen : ∀ y, (enc y).length = size) (hone : ∀ y, ∀ u ∈ enc y, u.oneCell' = true)
    (l : List α) (u : Value) (hx : a.eval x = u) (hr : Rws size enc u l w) (b1 : n + l.length ≤ maxLen) (b2 : (n + l.length) * bytes ≤ 140737488355328) (hB : B ≤ w.heap.size)
    (h : ∀ v' w', Own B size v' (n + l.length) (xs ++ l.flatMap enc) w' → Chg v.ownBlock w w' → wpList P ops Q rest (a.put o.dst v') w') : wpList P ops Q (o :: rest) a w := by
  obtain ⟨p, c, rfl, hc⟩ := hr.shape2
  by_cases h0 : l.length = 0
  · obtain rfl := List.eq_nil_of_length_eq_zero h0
    have hsl : ∃ base cap, v = .slice base n cap ∧ n ≤ cap := by
      rcases hown.2 with ⟨h, hn⟩ | ⟨g, off, cap, h, _, hc, _⟩
      · exact ⟨none, 0, by rw [h, hn], by omega⟩
      · exact ⟨_, cap, h, hc⟩
    obtain ⟨base, cap, rfl, hcap⟩ := hsl
    refine wpList_append_zero w hg s x t hop i h1 h2 hcap hs hx ?_
    exact h _ _ (by simpa using hown) ⟨rfl, rfl, rfl, Nat.le_refl _, fun _ _ _ => rfl⟩
  · obtain ⟨ad, rfl⟩ : ∃ ad, p = some ad := by
      rcases hr with ⟨rfl, _⟩ | ⟨g, off, c', he, _⟩
      · simp at h0
      · injection he with he1; exact ⟨_, he1⟩
    obtain ⟨g, off, sp⟩ := ad
    obtain rfl : sp = none := by
      rcases hr with ⟨rfl, _⟩ | ⟨g', off', c', he, _⟩
      · simp at h0
      · cases he; rfl
    exact wpList_append_Own hg s x t hop e i z size bytes h1 h2 h3 h4 h5 h6 h7 hs hown ⟨g, off, none⟩ l.length c (l.flatMap enc) hx (flat_len hlen l) (hr.flat hlen) (flat_one hone l) (by omega) b1 b2 hB (fun v' w' k1 k2 _ => h v' w' k1 k2)
theorem one2 (a : ByteArray) (b : Int) : ∀ u ∈ [Value.string a, .int .i64 b], u.oneCell' = true := by
  intro u hu
  simp at hu
  rcases hu with rfl | rfl <;> rfl
theorem lnC_one (x : Ln) : ∀ u ∈ lnC x, u.oneCell' = true := one2 x.1 x.2
theorem inC_len (x : Int) : (inC x).length = 1 := rfl
theorem inC_one (x : Int) : ∀ u ∈ inC x, u.oneCell' = true := by
  intro u hu
  obtain rfl := List.mem_singleton.1 hu
  rfl
theorem infoInt : (Tryz.prog.info? 3).map (fun i => (i.zero, i.size, i.bytes)) = some (some (.int .i64 0), 1, 8) := by kernel_rfl
theorem hideX_at (A B C : List Int) (hC : ∀ x, x ∈ C ↔ x ∈ A ∨ x ∈ B) (i : Nat) (x : Lf) : hideX B i (hideX A i x) = hideX C i x := by
  unfold hideX
  by_cases hA : (i : Int) ∈ A
  · rw [if_pos hA, if_pos ((hC _).2 (.inl hA))]
    split <;> rfl
  · rw [if_neg hA]
    by_cases hB : (i : Int) ∈ B
    · rw [if_pos hB, if_pos ((hC _).2 (.inr hB))]
    · rw [if_neg hB, if_neg (fun h => by rcases (hC _).1 h with h | h; exact hA h; exact hB h)]
/-- hiding twice is hiding what is in either list -/
theorem hide_hide {A B C : List Int} {l : List Lf} (h : listB l = true) (hC : ∀ x, x ∈ C ↔ x ∈ A ∨ x ∈ B) : hideD B (hideD A l) = hideD C l := by
  apply List.ext_getElem?
  intro i
  rw [hideD_get (hideD_list h), hideD_get h, hideD_get h, Option.map_map]
  cases l[i]? with
  | none => rfl
  | some x => exact congrArg some (hideX_at A B C hC i x)
theorem hide_hidden {A B : List Int} {l : List Lf} (h : listB l = true) {i : Nat} {x : Lf} (hx : l[i]? = some x) (hi : (i : Int) ∈ A ∨ (i : Int) ∈ B) : ∃ d, (hideD B (hideD A l))[i]? = some ⟨false, ⟨#[]⟩, 0, ⟨#[]⟩, d⟩ := by
  rw [hideD_get (hideD_list h), hideD_get h, hx]
  simp only [Option.map_some]
  rw [hideX_at A B (A ++ B) (fun x => List.mem_append)]
  exact ⟨valueD x, by unfold hideX; rw [if_pos (List.mem_append.2 hi)]⟩
theorem hide_shown {A B : List Int} {l : List Lf} (h : listB l = true) {i : Nat} {x : Lf} (hx : l[i]? = some x) (hA : ¬ (i : Int) ∈ A) (hB : ¬ (i : Int) ∈ B) : (hideD B (hideD A l))[i]? = some x := by
  rw [hideD_get (hideD_list h), hideD_get h, hx]
  simp only [Option.map_some]
  unfold hideX
  rw [if_neg hA, if_neg hB]
theorem lineOf (secret : ByteArray) (i : Nat) (x : Ln) : ((mkLf secret i x).text, (mkLf secret i x).mark) = x := rfl
theorem leaves_get (secret : ByteArray) (ls : List Ln) (i : Nat) : (leavesD secret ls)[i]? = (ls[i]?).map (mkLf secret i) := by
  unfold leavesD; rw [List.getElem?_mapIdx]
theorem leaves_lines {secret : ByteArray} {ls : List Ln} (h : listB (leavesD secret ls) = true) : linesD (leavesD secret ls) = ls := by
  unfold linesD
  rw [if_pos h]
  have h1 : (leavesD secret ls).filter Lf.shown = leavesD secret ls := List.filter_eq_self.2 (fun x hx => by
    obtain ⟨i, hi⟩ := List.getElem?_of_mem hx
    rw [leaves_get] at hi
    obtain ⟨y, _, rfl⟩ := Option.map_eq_some_iff.1 hi
    rfl)
  rw [h1]
  apply List.ext_getElem?
  intro i
  rw [List.getElem?_map, leaves_get, Option.map_map]
  cases ls[i]? <;> rfl
/-- the lines that are shown among the first leaves -/
def leftD (l : List Lf) (k : Nat) : List Ln := ((l.take k).filter Lf.shown).map fun x => (x.text, x.mark)
theorem left_end {l : List Lf} (h : listB l = true) : leftD l l.length = linesD l := by
  unfold leftD linesD
  rw [if_pos h, List.take_of_length_le (Nat.le_refl _)]
theorem left_step {l : List Lf} {k : Nat} {x : Lf} (h : l[k]? = some x) : leftD l (k + 1) = leftD l k ++ (if x.shown then [((x.text, x.mark) : Ln)] else []) := by
  unfold leftD
  rw [List.take_add_one, h, Option.toList_some, List.filter_append, List.map_append]
  cases hs : x.shown <;> simp [hs]
end Go.Proofs.YtakhomofckcckaaGreatDoor
