/- Contracts of the bit rotations and of the mixed word, for the proofs of package digest. -/
import Derived.Test.YtbkhkpcnclhoiaaDoorChecked
import Derived.Test.YtbkhkpcnclhoiaaDoorBits
import Derived.WalkKit
import Derived.WalkSpells
import Derived.WalkLawsBesides
import Derived.Deep.QuietTactic
import Derived.BigQuiet
import Derived.Lib.Hide
namespace Go.Proofs.YtbkhkpcnclhoiaaDoor
open Go.RowKit

theorem rotl_any (x n : Int) (hx0 : 0 ≤ x) (hx1 : x < 4294967296) (h0 : 0 < n) (h1 : n < 32) (w : World) :
    Calls Tryd.prog 71 #[.int .u32 x, .int .i64 (-n)] w fun e w' => e = .returned (.int .u32 ((rot x.toNat n.toNat : Nat) : Int)) ∧ w = w' := by
  have hr := rot_int x n hx0 hx1 h0 h1
  have H := Lib.hid hr
  clear hr
  have hn := neg_and31 n h0 h1
  have hs : (32 : Int) - (32 - n) = n := by omega
  go_enter Tryd.func71, Tryd.ntmps71
  go_wp2
  go_ret
  exact ⟨by rw [← H.out]; simp, rfl⟩

/-- the words of a word rotated by numbers, exclusively or-ed -/
def mix (x : Nat) (ns : List Nat) : Nat := ns.foldl (fun o n => o ^^^ rot x n) 0
theorem mix_lt (x : Nat) (hx : x < 4294967296) (ns : List Nat) : mix x ns < 4294967296 := by
  unfold mix
  have key : ∀ (l : List Nat) (o : Nat), o < 4294967296 → l.foldl (fun o n => o ^^^ rot x n) o < 4294967296 := by
    intro l
    induction l with
    | nil => intro o h; exact h
    | cons n l ih => intro o h; exact ih _ (xor_lt _ _ h (rot_lt _ _ hx))
  exact key ns 0 (by decide)
theorem mix_take (x : Nat) (ns : List Nat) (k : Nat) (h : k < ns.length) : mix x (ns.take (k + 1)) = mix x (ns.take k) ^^^ rot x ns[k] := by
  rw [mix, List.take_succ_eq_append_getElem h, List.foldl_append]; rfl

set_option maxHeartbeats 400000 in
theorem mixed_any (x : Int) (ns : List Nat) (b off : Nat) (c : Nat) (w : World) (hx0 : 0 ≤ x) (hx1 : x < 4294967296) (hl : ns.length ≤ 64)
    (hns : ∀ n ∈ ns, 0 < n ∧ n < 32) (hc : ∀ k (h : k < ns.length), w.cell? ⟨b, off + k, none⟩ = some (.int .i64 (ns[k] : Int))) :
    Calls Tryd.prog 62 #[.int .u32 x, .slice (some ⟨b, off, none⟩) ns.length c] w fun e w' => e = .returned (.int .u32 ((mix x.toNat ns : Nat) : Int)) ∧ w = w' := by
  go_enter Tryd.func62, Tryd.ntmps62
  go_wp2
  go_loop [5, 10] (fun o i => ∃ k : Nat, k ≤ ns.length ∧ i = .int .i64 k ∧ o = .int .u32 ((mix x.toNat (ns.take k) : Nat) : Int)) (fun _ i => ns.length - (intOf i).toNat)
  case atStart => exact ⟨0, Nat.zero_le _, rfl, rfl⟩
  case round =>
    obtain ⟨k, hk, rfl, rfl⟩ := hrel
    by_cases hlt : k < ns.length
    · have hcell := hc k hlt
      have hn := hns ns[k] (List.getElem_mem hlt)
      have hm := mix_take x.toNat ns k hlt
      have hx := xor_u32 (mix x.toNat (ns.take k)) (rot x.toNat ns[k]) (mix_lt _ (by omega) _) (rot_lt _ _ (by omega))
      have HM := Lib.hid hm; have HX := Lib.hid hx
      clear hm hx hc hns
      go_wp2_with (go_at_call 71; refine (rotl_any _ _ (by omega) (by omega) (by omega) (by omega) _).mono ?_; rintro e w' ⟨rfl, rfl⟩)
      go_round
      case rel => exact ⟨k + 1, by omega, by go_num, by rw [HM.out, ← HX.out]⟩
      case measure => simp [intOf]; omega
    · have hk2 : k = ns.length := by omega
      clear hc hns
      go_wp2
      go_ret
      exact ⟨rfl, rfl⟩

theorem cell_new_at (w : World) (cs : Array Value) (t : TypeId) (n i : Nat) (v : Value) (hn : n = w.heap.size) (h : cs[i]? = some v) : (w.alloc (.cells cs t)).cell? ⟨n, i, none⟩ = some v := by
  subst hn; unfold World.cell?
  have : (w.alloc (.cells cs t)).heap[w.heap.size]? = some (.cells cs t) := by
    show (w.heap.push _)[w.heap.size]? = _
    simp
  rw [this]; simpa using h
theorem cell_old_at (w : World) (o : Obj) (n i : Nat) (v : Value) (hn : n < w.heap.size) (h : w.cell? ⟨n, i, none⟩ = some v) : (w.alloc o).cell? ⟨n, i, none⟩ = some v := by
  unfold World.cell? at h ⊢
  have : (w.alloc o).heap[n]? = w.heap[n]? := by
    show (w.heap.push _)[n]? = _
    simp [Array.getElem?_push, Nat.ne_of_lt hn]
  rw [this]; exact h
theorem mixed2 (x : Int) (p q : Nat) (b : Nat) (w : World) (hx0 : 0 ≤ x) (hx1 : x < 4294967296) (hp : 0 < p ∧ p < 32) (hq : 0 < q ∧ q < 32)
    (c0 : w.cell? ⟨b, 0, none⟩ = some (.int .i64 (p : Int))) (c1 : w.cell? ⟨b, 1, none⟩ = some (.int .i64 (q : Int))) :
    Calls Tryd.prog 62 #[.int .u32 x, .slice (some ⟨b, 0, none⟩) 2 2] w fun e w' => e = .returned (.int .u32 ((rot x.toNat p ^^^ rot x.toNat q : Nat) : Int)) ∧ w = w' := by
  refine (mixed_any x [p, q] b 0 2 w hx0 hx1 (by simp) ?_ ?_).mono ?_
  · intro n hn; simp at hn; rcases hn with rfl | rfl <;> assumption
  · intro k hk; match k, hk with
    | 0, _ => simpa using c0
    | 1, _ => simpa using c1
  · rintro e w' ⟨rfl, rfl⟩; simp [mix]
theorem mixed3 (x : Int) (p q r : Nat) (b : Nat) (w : World) (hx0 : 0 ≤ x) (hx1 : x < 4294967296) (hp : 0 < p ∧ p < 32) (hq : 0 < q ∧ q < 32) (hr : 0 < r ∧ r < 32)
    (c0 : w.cell? ⟨b, 0, none⟩ = some (.int .i64 (p : Int))) (c1 : w.cell? ⟨b, 1, none⟩ = some (.int .i64 (q : Int))) (c2 : w.cell? ⟨b, 2, none⟩ = some (.int .i64 (r : Int))) :
    Calls Tryd.prog 62 #[.int .u32 x, .slice (some ⟨b, 0, none⟩) 3 3] w fun e w' => e = .returned (.int .u32 ((rot x.toNat p ^^^ rot x.toNat q ^^^ rot x.toNat r : Nat) : Int)) ∧ w = w' := by
  refine (mixed_any x [p, q, r] b 0 3 w hx0 hx1 (by simp) ?_ ?_).mono ?_
  · intro n hn; simp at hn; rcases hn with rfl | rfl | rfl <;> assumption
  · intro k hk; match k, hk with
    | 0, _ => simpa using c0
    | 1, _ => simpa using c1
    | 2, _ => simpa using c2
  · rintro e w' ⟨rfl, rfl⟩; simp [mix]

theorem rotated_any (x n : Int) (hx0 : 0 ≤ x) (hx1 : x < 4294967296) (h0 : 0 < n) (h1 : n < 32) (w : World) :
    Calls Tryd.prog 63 #[.int .u32 x, .int .i64 n] w fun e w' => e = .returned (.int .u32 ((rot x.toNat n.toNat : Nat) : Int)) ∧ ∃ k, w' = w.drewN k := by
  have hr := rot_int' x n hx0 hx1 h0 h1
  have H := Lib.hid hr
  clear hr
  go_enter Tryd.func63, Tryd.ntmps63
  go_wp2
  go_quiet (fail)
  go_wp2
  go_ret
  exact ⟨by rw [← H.out]; simp, _, rfl⟩
end Go.Proofs.YtbkhkpcnclhoiaaDoor
