/- Plain laws on the loops of a crash. No program in sight. -/
import Derived.Test.YtmkdnfiiehgcaaaDkD
namespace Go.Proofs.Ytmkdnfiiehgcaaa

theorem survive_get {keep : List Int} {p : List Wr} {k i : Nat} {x : Wr} (hi : (ordN keep p.length)[k]? = some i) (hx : p[i]? = some x) : (survive keep p)[k]? = some x := by
  unfold survive
  rw [List.getElem?_map, hi, Option.map_some, List.getD_eq_getElem?_getD, hx]; rfl
theorem ordN_get_lt {keep : List Int} {n k i : Nat} (hi : (ordN keep n)[k]? = some i) : i < n := ordN_lt (List.mem_of_getElem? hi)
/-- a round of the loop of a crash -/
theorem crash_step {keep : List Int} {p : List Wr} {t : Int} {k i : Nat} {x : Wr} (hi : (ordN keep p.length)[k]? = some i) (hx : p[i]? = some x) (b : List UInt8) :
    applyL b ((lastCut t (survive keep p)).take (k + 1)) = putW (applyL b ((lastCut t (survive keep p)).take k)) (x.1, if k + 1 = (ordN keep p.length).length then tornS t x.2 else x.2) := by
  have h := lastCut_get t _ k x (survive_get hi hx)
  rw [List.take_add_one, h, Option.toList_some, applyL_snoc, survive_length]
  split <;> rfl
theorem crash_end {keep : List Int} {p : List Wr} {t : Int} (b : List UInt8) : applyL b ((lastCut t (survive keep p)).take (ordN keep p.length).length) = applyL b (lastCut t (survive keep p)) := by
  rw [List.take_of_length_le]
  rw [lastCut_length, survive_length]; exact Nat.le_refl _
theorem crash_ok {keep : List Int} {p : List Wr} {t : Int} {n : Nat} (hp : ∀ x ∈ p, Wr.ok n x) {b : List UInt8} (hb : b.length = n) (k : Nat) : (applyL b ((lastCut t (survive keep p)).take k)).length = n := by
  rw [applyL_len _ _ (fun x hx => by rw [hb]; exact lastCut_ok (survive_ok hp) x (List.mem_of_mem_take hx)), hb]
theorem extract_full (s : ByteArray) (m : Nat) (h : s.size ≤ m) : s.extract 0 m = s := by
  apply ByteArray.ext
  rw [ByteArray.data_extract]
  apply Array.ext
  · simp; have : s.data.size = s.size := rfl; omega
  · intro i h1 h2; simp
theorem tornS_neg {t : Int} (h : t < 0) (s : ByteArray) : tornS t s = s := by unfold tornS; rw [if_neg (by omega)]
theorem tornS_pos {t : Int} (h : 0 ≤ t) (s : ByteArray) : tornS t s = s.extract 0 (min t.toNat s.size) := by unfold tornS; rw [if_pos h]
theorem tornS_full {t : Int} {s : ByteArray} (h : (s.size : Int) ≤ t) : tornS t s = s := by
  rw [tornS_pos (by omega), extract_full _ _ (by omega)]
/-- a list of survivors grows by one place -/
theorem surv_succ (keep : List Int) (p : List Wr) (i : Nat) : (ordN keep (i + 1)).map (fun j => p.getD j (0, ⟨#[]⟩)) = (ordN keep i).map (fun j => p.getD j (0, ⟨#[]⟩)) ++ if (i : Int) ∈ keep then [p.getD i (0, ⟨#[]⟩)] else [] := by
  rw [ordN_succ, List.map_append]
  by_cases h : (i : Int) ∈ keep <;> simp [h]
end Go.Proofs.Ytmkdnfiiehgcaaa
