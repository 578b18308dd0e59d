/- A package of paths that Some gives, as the law carries it. -/
import Derived.Test.YtaoggehdkddgeaaGreatDoorNF
import Derived.Test.YtaoggehdkddgeaaGreatDoorMB
import Derived.Deep.MidRow
import Derived.Test.YtaoggehdkddgeaaGreatDoorGPiR
import Derived.Test.YtaoggehdkddgeaaGreatDoorNC
import Derived.Test.YtaoggehdkddgeaaGreatDoorNB
namespace Go.Proofs.YtaoggehdkddgeaaGreatDoor
section
open Go Go.RowKit Go.Shelf

theorem Rws.at2 {α : Type} {s : Nat} {enc : α → List Value} {p : Option Addr} {c i n : Nat} {l : List α} {w : World} {x : α} (h : Rws s enc (.slice p n c) l w) (hn : l.length = n) (hx : l[i]? = some x) :
    ∃ g off, p = some ⟨g, off, none⟩ ∧ ∀ (j : Nat) u, (enc x)[j]? = some u → w.cell? ⟨g, off + (i * s + j), none⟩ = some u := by
  subst hn
  obtain ⟨g, off, h1, -, h2⟩ := h.at_ hx
  exact ⟨g, off, h1, h2⟩
theorem StrsAt.at2 {p : Option Addr} {c i n : Nat} {l : List ByteArray} {w : World} {x : ByteArray} (h : StrsAt (.slice p n c) l w) (hx : l[i]? = some x) : ∃ g off, p = some ⟨g, off, none⟩ ∧ w.cell? ⟨g, off + i, none⟩ = some (.string x) := by
  rcases h with ⟨he, h0⟩ | ⟨g, off, cap, he, _, _, hc⟩
  · rw [h0] at hx; exact absurd hx (by simp)
  · injection he with e1 e2 e3
    exact ⟨g, off, e1, hc i x hx⟩
/-- a package whose entries are made of paths that Some gives, and of streams -/
structure MadF (l : List ByteArray) (id ver : Int) (I J : Int) (n : Nat) (E : List En) (P S : List ByteArray) : Prop where
  eLen : E.length = n
  pLen : P.length = n
  sLen : S.length = n
  bounds : 1 ≤ n ∧ n ≤ 12
  valid : validD I J E = true
  ints : (1 ≤ I ∧ I ≤ 1000000) ∧ 1 ≤ J ∧ J ≤ 1000000
  at_ : ∀ {i : Nat}, i < n → ∃ f s, E[i]? = some (mkEn (pathOf i) f s) ∧ 0 ≤ f ∧ f < 5 ∧ s.size ≤ 40000 ∧ S[i]? = some s ∧ P[i]? = some (pathOf i)
theorem MadF.eSmall {l : List ByteArray} {id ver I J : Int} {n : Nat} {E : List En} {P S : List ByteArray} (h : MadF l id ver I J n E P S) : ∀ x ∈ E, x.path.size = 3 ∧ x.dig.size = 32 ∧ I64 x.fmt ∧ I64 x.len := by
  intro x hx
  obtain ⟨i, hi⟩ := List.getElem?_of_mem hx
  have hl := (List.getElem?_eq_some_iff.1 hi).1
  rw [h.eLen] at hl
  obtain ⟨f, s, he, h0, h5, hs, -⟩ := h.at_ hl
  obtain rfl := Option.some.inj (he.symm.trans hi)
  unfold mkEn I64
  simp only
  exact ⟨rfl, sha_size _, by omega, by omega⟩
theorem MadF.ePath {l : List ByteArray} {id ver I J : Int} {n : Nat} {E : List En} {P S : List ByteArray} (h : MadF l id ver I J n E P S) : ∀ x ∈ E, x.path.size ≤ 9223372036854775807 := fun x hx => by rw [(h.eSmall x hx).1]; decide
theorem MadF.sSmall {l : List ByteArray} {id ver I J : Int} {n : Nat} {E : List En} {P S : List ByteArray} (h : MadF l id ver I J n E P S) : ∀ x ∈ S, x.size ≤ 40000 := by
  intro x hx
  obtain ⟨i, hi⟩ := List.getElem?_of_mem hx
  have hl := (List.getElem?_eq_some_iff.1 hi).1
  rw [h.sLen] at hl
  obtain ⟨f, s, -, -, -, hs, hp, -⟩ := h.at_ hl
  obtain rfl := Option.some.inj (hp.symm.trans hi)
  exact hs
end
section
open Go Go.RowKit Go.Shelf

section
variable {P : Program} {ops : Array Oper} {w0 : World} {D : List Deferred} {N : Nat} {QT : Act → World → Prop} {Γ : Opn} {a : Act} {o : Oper} {rest : List Oper}
end
theorem StrsAt.stb (L : List ByteArray) : Stb (fun v w => StrsAt v L w) := fun _ _ _ hg h => h.gr hg
end
section
open Go Go.RowKit Go.Shelf
attribute [local go_sem] gAt gUpon
attribute [local simp] Gr.refl Gr.alloc

end
end Go.Proofs.YtaoggehdkddgeaaGreatDoor
