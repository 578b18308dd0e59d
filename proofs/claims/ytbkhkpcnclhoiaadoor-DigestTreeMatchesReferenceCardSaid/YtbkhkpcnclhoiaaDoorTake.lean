/- The contracts of all, take and join of package digest. -/
import Derived.Test.YtbkhkpcnclhoiaaDoorRoot
namespace Go.Proofs.YtbkhkpcnclhoiaaDoor
open Go.RowKit Go.Shelf
attribute [local go_sem] gAt gUpon
attribute [local simp] Gr.refl Gr.alloc

/-- all strings have 32 bytes -/
def allD (l : List ByteArray) : Bool := l.all fun x => x.size == 32
theorem allD_iff {l : List ByteArray} : allD l = true ↔ ∀ x ∈ l, x.size = 32 := by simp [allD]
theorem allD_false {l : List ByteArray} {k : Nat} {x : ByteArray} (h : l[k]? = some x) (hx : x.size ≠ 32) : allD l = false := by
  cases he : allD l with
  | false => rfl
  | true => exact absurd (allD_iff.1 he x (List.mem_of_getElem? h)) hx
theorem allD_take {l : List ByteArray} {k : Nat} {x : ByteArray} (h : l[k]? = some x) (hx : x.size = 32) (ht : allD (l.take k) = true) : allD (l.take (k + 1)) = true := by
  rw [List.take_add_one, h]
  simp [allD] at ht ⊢
  exact ⟨ht, hx⟩

theorem idx_any (v : Value) (l : List ByteArray) (w : World) (hv : StrsAt v l w) (hn : l.length ≤ 9223372036854775807) :
    Calls Tryd.prog 67 #[v, .func (.func 55) #[] #[]] w fun e w' => (∃ i : Int, e = .returned (.int .i64 i) ∧ decide (0 ≤ i) = !allD l) ∧ w = w' := by
  obtain ⟨p, cap, rfl⟩ := hv.shape
  have HV := Lib.hid hv
  clear hv
  go_enter Tryd.func67, Tryd.ntmps67
  go_wp2
  go_loop [8] (fun t => ∃ k : Nat, k ≤ l.length ∧ t = .int .i64 (k : Int) ∧ Hid (allD (l.take k) = true)) (fun t => l.length - (intOf t).toNat)
  case atStart => exact ⟨0, Nat.zero_le _, rfl, Lib.hid rfl⟩
  case round =>
    obtain ⟨k, hk, rfl, HA⟩ := hrel
    by_cases hlt : k < l.length
    · obtain ⟨x, hx⟩ : ∃ x, l[k]? = some x := ⟨_, List.getElem?_eq_getElem hlt⟩
      obtain ⟨g, off, cap', he, hc4⟩ : ∃ g off cap', Value.slice p l.length cap = .slice (some ⟨g, off, none⟩) l.length cap' ∧ ∀ (j : Nat) x, l[j]? = some x → w.cell? ⟨g, off + j, none⟩ = some (.string x) := by
        rcases HV.out with ⟨_, rfl⟩ | ⟨g, off, cap', h1, _, _, h2⟩
        · simp at hlt
        · exact ⟨g, off, cap', h1, h2⟩
      injection he with he1 _ he2
      subst he1 he2
      have hcell := hc4 k x hx
      have HX := Lib.hid hx
      clear hc4 hx HV
      by_cases h32 : x.size = 32
      · have ht : ((x.size : Int) == 32) = true := by rw [beq_iff_eq]; omega
        have HA2 : Hid (allD (l.take (k + 1)) = true) := Lib.hid (allD_take HX.out h32 HA.out)
        go_wp2
        go_round
        case rel => exact ⟨k + 1, by omega, by go_num, HA2⟩
        case measure => simp [intOf]; omega
      · have ht : ((x.size : Int) == 32) = false := by rw [beq_eq_false_iff_ne]; omega
        have HA2 : Hid (allD l = false) := Lib.hid (allD_false HX.out h32)
        go_wp2
        go_ret
        exact ⟨⟨_, rfl, by rw [HA2.out]; simp⟩, rfl⟩
    · have HA2 : Hid (allD l = true) := Lib.hid (by
        have h := HA.out
        rw [List.take_of_length_le (by omega)] at h; exact h)
      go_wp2
      go_ret
      exact ⟨⟨_, rfl, by rw [HA2.out]; simp⟩, rfl⟩
theorem cont_any (v : Value) (l : List ByteArray) (w : World) (hv : StrsAt v l w) (hn : l.length ≤ 9223372036854775807) :
    Calls Tryd.prog 56 #[v, .func (.func 55) #[] #[]] w fun e w' => e = .returned (.bool (!allD l)) ∧ w = w' := by
  have HI := Lib.hid (idx_any v l w hv hn)
  clear hv
  go_enter Tryd.func56, Tryd.ntmps56
  go_wp2_with fail
  refine HI.out.mono ?_
  rintro e w' ⟨⟨i, rfl, hi⟩, rfl⟩
  have H2 := Lib.hid hi
  clear hi HI
  go_wp2_with fail
  go_ret
  exact ⟨by rw [← H2.out]; rfl, rfl⟩
theorem all_any (v : Value) (l : List ByteArray) (w : World) (hv : StrsAt v l w) (hn : l.length ≤ 9223372036854775807) :
    Calls Tryd.prog 42 #[v] w fun e w' => e = .returned (.bool (allD l)) ∧ w = w' := by
  have HI := Lib.hid (cont_any v l w hv hn)
  clear hv
  go_enter Tryd.func42, Tryd.ntmps42
  go_wp2_with fail
  refine HI.out.mono ?_
  rintro e w' ⟨rfl, rfl⟩
  clear HI
  go_wp2_with fail
  go_ret
  exact ⟨by simp [go_sem], rfl⟩

theorem take0_any (p : Option Addr) (cap : Nat) (w : World) :
    Calls Tryd.prog 43 #[.slice p 0 cap] w fun e w' => e = .returned (.tuple #[.string ⟨#[]⟩, .slice none 0 0, .bool false]) ∧ w = w' := by
  go_enter Tryd.func43, Tryd.ntmps43
  go_wp2
  go_ret3
  exact ⟨rfl, rfl⟩
theorem take_any (g off n cap : Nat) (x : ByteArray) (w : World) (hn : n + 1 ≤ 9223372036854775807) (hcap : n + 1 ≤ cap) (hc : w.cell? ⟨g, off + n, none⟩ = some (.string x)) :
    Calls Tryd.prog 43 #[.slice (some ⟨g, off, none⟩) (n + 1) cap] w fun e w' => e = .returned (.tuple #[.string x, .slice (some ⟨g, off, none⟩) n cap, .bool true]) ∧ Gr w w' := by
  have ht : ((n : Int) + 1 == 0) = false := by rw [beq_eq_false_iff_ne]; omega
  go_enter Tryd.func43, Tryd.ntmps43
  go_upto_region 4 with fail
  go_quiet (fail)
  rename_i nq
  have hg : Gr w (w.drewN nq) := below_drewN (Below.refl _ _) nq
  generalize w.drewN nq = w5 at hg ⊢
  clear hc ht
  go_wp2_with fail
  go_ret3
  exact ⟨rfl, hg⟩

/-- the whole of a part and of a step -/
def joinD (x : ByteArray × Bool) (part : ByteArray) : ByteArray := if x.2 then nodeD x.1 part else nodeD part x.1
theorem joinD_size (x : ByteArray × Bool) (part : ByteArray) : (joinD x part).size = 32 := by
  unfold joinD; split <;> exact nodeD_size _ _
theorem join_any (x : ByteArray × Bool) (part : ByteArray) (w : World) (hs : x.1.size + part.size ≤ 140737488354000) (hT : Tab w) :
    Calls Tryd.prog 45 #[sideV x, .string part] w fun e w' => e = .returned (.string (joinD x part)) ∧ Gr w w' := by
  obtain ⟨r, f⟩ := x
  unfold sideV
  dsimp only at hs ⊢
  cases f with
  | true =>
    have HN := Lib.hid (node_any r part (w.alloc (.cells #[.string r, .bool true] 57)) (by omega) (hT.gr (Gr.alloc _ _)))
    clear hT
    go_enter Tryd.func45, Tryd.ntmps45
    go_wp2_with fail
    refine HN.out.mono ?_
    rintro e w' ⟨rfl, hg⟩
    clear HN
    go_wp2_with fail
    go_ret
    exact ⟨rfl, (Gr.alloc _ _).trans hg⟩
  | false =>
    have HN := Lib.hid (node_any part r (w.alloc (.cells #[.string r, .bool false] 57)) (by omega) (hT.gr (Gr.alloc _ _)))
    clear hT
    go_enter Tryd.func45, Tryd.ntmps45
    go_wp2_with fail
    refine HN.out.mono ?_
    rintro e w' ⟨rfl, hg⟩
    clear HN
    go_wp2_with fail
    go_ret
    exact ⟨rfl, (Gr.alloc _ _).trans hg⟩
end Go.Proofs.YtbkhkpcnclhoiaaDoor
