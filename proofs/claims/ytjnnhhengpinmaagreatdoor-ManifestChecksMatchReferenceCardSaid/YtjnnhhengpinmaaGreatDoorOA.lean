/- ManifestChecksMatchReference: what is held, and the walk's head. -/
import Derived.Test.YtjnnhhengpinmaaGreatDoorNE
import Derived.Test.YtjnnhhengpinmaaGreatDoorNO
import Derived.Test.YtjnnhhengpinmaaGreatDoorNT
import Derived.Test.YtjnnhhengpinmaaGreatDoorNZ
import Derived.Test.YtjnnhhengpinmaaGreatDoorMB
namespace Go.Proofs.YtjnnhhengpinmaaGreatDoor
section
open Go Go.RowKit Go.Shelf
attribute [local go_sem] gAt gUpon pUpon
attribute [local simp] Gr.refl Gr.alloc

/-- what lies in memory behind the law's head: the package made, the four numbers, the entry, the cut lists -/
structure CmAt (w0 : World) (x5 x6 b : Nat) (n0 n1 n2 n3 : Int) (xe : En) (I J : Int) (n : Nat) (E : List En) (P S : List ByteArray) (p pp ps : Option Addr) (c cp cs : Nat) (a t q : Value) (A T Q : List ByteArray) (w : World) : Prop where
  m : MadAt w0 b I J n E P S p pp ps c cp cs w
  f : w.heap[x5]? = some (.cells #[.int .i64 n0, .int .i64 n1, .int .i64 n2, .int .i64 n3] 46 (0, 0))
  x : w.heap[x6]? = some (.cells #[.string xe.path, .int .i64 xe.fmt, .int .i64 xe.len, .string xe.dig] 28 (0, 0))
  a : StrsAt a A w
  t : StrsAt t T w
  q : StrsAt q Q w
theorem CmAt.gr {w0 : World} {x5 x6 b : Nat} {n0 n1 n2 n3 : Int} {xe : En} {I J : Int} {n : Nat} {E : List En} {P S : List ByteArray} {p pp ps : Option Addr} {c cp cs : Nat} {a t q : Value} {A T Q : List ByteArray} {w y : World} (h : CmAt w0 x5 x6 b n0 n1 n2 n3 xe I J n E P S p pp ps c cp cs a t q A T Q w) (hg : Gr w y) : CmAt w0 x5 x6 b n0 n1 n2 n3 xe I J n E P S p pp ps c cp cs a t q A T Q y :=
  ⟨h.m.gr hg, hg.block h.f, hg.block h.x, h.a.gr hg, h.t.gr hg, h.q.gr hg⟩
/-- the same, ahead of the entry's store: all lists lie in blocks from B on -/
structure CmOw (w0 : World) (B x5 b : Nat) (n0 n1 n2 n3 : Int) (I J : Int) (n : Nat) (E : List En) (P S : List ByteArray) (p pp ps : Option Addr) (c cp cs : Nat) (a t q : Value) (A T Q : List ByteArray) (w : World) : Prop where
  g : Gr w0 w
  r : w.heap[b]? = some (.cells #[.int .i64 I, .int .i64 J, .slice p n c] 24 (0, 0))
  e : Own B 4 (.slice p n c) n (E.flatMap enC) w
  p : OwnL B P (.slice pp n cp) w
  s : OwnL B S (.slice ps n cs) w
  f : w.heap[x5]? = some (.cells #[.int .i64 n0, .int .i64 n1, .int .i64 n2, .int .i64 n3] 46 (0, 0))
  a : OwnL B A a w
  t : OwnL B T t w
  q : OwnL B Q q w
theorem CmOw.keep {w0 : World} {B x5 x6 b : Nat} {n0 n1 n2 n3 : Int} {xe : En} {I J : Int} {n : Nat} {E : List En} {P S : List ByteArray} {p pp ps : Option Addr} {c cp cs : Nat} {a t q : Value} {A T Q : List ByteArray} {w y : World} (h : CmOw w0 B x5 b n0 n1 n2 n3 I J n E P S p pp ps c cp cs a t q A T Q w)
    (hn : E.length = n) (hc : Chg (some x6) w y) (h6 : x6 < B) (h5 : x5 ≠ x6) (hb : b ≠ x6) (hw : w0.heap.size ≤ x6)
    (hx : y.heap[x6]? = some (.cells #[.string xe.path, .int .i64 xe.fmt, .int .i64 xe.len, .string xe.dig] 28 (0, 0))) : CmAt w0 x5 x6 b n0 n1 n2 n3 xe I J n E P S p pp ps c cp cs a t q A T Q y := by
  have hO : ∀ {s : Nat} {v : Value} {m : Nat} {xs : List Value}, Own B s v m xs w → Own B s v m xs y := fun {s v m xs} ho => ho.keep hc (by
    by_cases e : v.ownBlock = none
    · exact .inl e
    · exact .inr (fun e2 => by have := own_ge ho e2; omega))
  have he := hO h.e
  subst hn
  exact ⟨⟨gr_step h.g (Gr.refl _) hc (fun g e => by cases e; exact hw), hc.block h.r (fun e => hb (by cases e; rfl)), own_rws (l := E) enC_len he, OwnL.strs (hO h.p), OwnL.strs (hO h.s)⟩, hc.block h.f (fun e => h5 (by cases e; rfl)), hx, OwnL.strs (hO h.a), OwnL.strs (hO h.t), OwnL.strs (hO h.q)⟩
/-- the strings of a cut list are small -/
theorem cutsD_small {l : List ByteArray} {n m : Nat} : ∀ x ∈ cutsD l n m, x.size ≤ m := by
  intro x hx
  unfold cutsD at hx
  obtain ⟨s, -, rfl⟩ := List.mem_map.1 hx
  rw [cutD_size]; omega
theorem cutsD_few (l : List ByteArray) (n m : Nat) : (cutsD l n m).length ≤ n := by rw [cutsD_len]; omega
end
section
open Go Go.RowKit Go.Shelf
attribute [local go_sem] gAt gUpon pUpon
attribute [local simp] Gr.refl Gr.alloc

/-- what a round holds: what is held outside, and its own package -/
structure CmRd (w0 : World) (x5 x6 b : Nat) (n0 n1 n2 n3 : Int) (xe : En) (I J : Int) (n : Nat) (E : List En) (P S : List ByteArray) (p pp ps : Option Addr) (c cp cs : Nat) (a t q : Value) (A T Q : List ByteArray) (bq b1 : Nat) (I1 J1 : Int) (p1 : Option Addr) (m1 c1 : Nat) (E1 : List En) (w : World) : Prop where
  m : CmAt w0 x5 x6 b n0 n1 n2 n3 xe I J n E P S p pp ps c cp cs a t q A T Q w
  q : w.heap[bq]? = some (.cells #[.int .i64 I, .int .i64 J, .slice p n c, .int .i64 0, .int .i64 0, .slice none 0 0] 24 (0, 0))
  k : w.heap[b1]? = some (.cells #[.int .i64 I1, .int .i64 J1, .slice p1 m1 c1] 24 (0, 0))
  e : Rws 4 enC (.slice p1 m1 c1) E1 w
theorem CmRd.gr {w0 : World} {x5 x6 b : Nat} {n0 n1 n2 n3 : Int} {xe : En} {I J : Int} {n : Nat} {E : List En} {P S : List ByteArray} {p pp ps : Option Addr} {c cp cs : Nat} {a t q : Value} {A T Q : List ByteArray} {bq b1 : Nat} {I1 J1 : Int} {p1 : Option Addr} {m1 c1 : Nat} {E1 : List En} {w y : World}
    (h : CmRd w0 x5 x6 b n0 n1 n2 n3 xe I J n E P S p pp ps c cp cs a t q A T Q bq b1 I1 J1 p1 m1 c1 E1 w) (hg : Gr w y) : CmRd w0 x5 x6 b n0 n1 n2 n3 xe I J n E P S p pp ps c cp cs a t q A T Q bq b1 I1 J1 p1 m1 c1 E1 y :=
  ⟨h.m.gr hg, hg.block h.q, hg.block h.k, h.e.gr hg⟩
theorem shape3 {v : Value} {L : List ByteArray} {w : World} (h : StrsAt v L w) : ∃ p m c, v = .slice p m c := by
  obtain ⟨p, c, rfl⟩ := h.shape
  exact ⟨p, _, c, rfl⟩
/-- a list of at most 10000 strings of at most 1000 bytes -/
def Few1 (L : List ByteArray) : Prop := L.length ≤ 10000 ∧ ∀ x ∈ L, x.size ≤ 1000
theorem Few1.join {A B : List ByteArray} (ha : A.length ≤ 100 ∧ ∀ x ∈ A, x.size ≤ 1000) (hb : B.length ≤ 100 ∧ ∀ x ∈ B, x.size ≤ 1000) : Few1 (A ++ B) := by
  refine ⟨by rw [List.length_append]; omega, fun x hx => ?_⟩
  rcases List.mem_append.1 hx with h | h
  · exact ha.2 x h
  · exact hb.2 x h
theorem Few1.less {A : List ByteArray} (ha : A.length ≤ 100 ∧ ∀ x ∈ A, x.size ≤ 1000) : Few1 A := ⟨by omega, ha.2⟩
/-- all lists of the law are small -/
theorem cm_few (l3 l4 l8 : List ByteArray) {l : List ByteArray} {id ver I J : Int} {n : Nat} {E : List En} {P S : List ByteArray} (h : MadF l id ver I J n E P S) :
    ((cutsD l3 20 70).length ≤ 100 ∧ ∀ x ∈ cutsD l3 20 70, x.size ≤ 1000) ∧ ((cutsD l4 20 70).length ≤ 100 ∧ ∀ x ∈ cutsD l4 20 70, x.size ≤ 1000) ∧ ((cutsD l8 12 40).length ≤ 100 ∧ ∀ x ∈ cutsD l8 12 40, x.size ≤ 1000) ∧ (P.length ≤ 100 ∧ ∀ x ∈ P, x.size ≤ 1000) ∧ (S.length ≤ 100 ∧ ∀ x ∈ S, x.size ≤ 1000) := by
  have hb := h.bounds
  have hp := h.pLen
  have hs := h.sLen
  refine ⟨⟨Nat.le_trans (cutsD_few _ _ _) (by decide), fun x hx => Nat.le_trans (cutsD_small x hx) (by decide)⟩, ⟨Nat.le_trans (cutsD_few _ _ _) (by decide), fun x hx => Nat.le_trans (cutsD_small x hx) (by decide)⟩, ⟨Nat.le_trans (cutsD_few _ _ _) (by decide), fun x hx => Nat.le_trans (cutsD_small x hx) (by decide)⟩, ⟨by omega, fun x hx => by rw [h.pSmall x hx]; decide⟩, ⟨by omega, fun x hx => Nat.le_trans (h.sSmall x hx) (by decide)⟩⟩
/-- a block of m lists of strings -/
def Lsts (b m : Nat) (w : World) : Prop := ∀ k, k < m → ∃ p c L, w.cell? ⟨b, k, none⟩ = some (.slice p L.length c) ∧ StrsAt (.slice p L.length c) L w ∧ Few1 L
theorem Lsts.gr {b m : Nat} {w y : World} (h : Lsts b m w) (hg : Gr w y) : Lsts b m y := fun k hk => by
  obtain ⟨p, c, L, h1, h2, h3⟩ := h k hk
  exact ⟨p, c, L, Gr.cell hg h1, h2.gr hg, h3⟩
theorem lsts3 {b : Nat} {v0 v1 v2 : Value} {L0 L1 L2 : List ByteArray} {t : TypeId} {w : World} (hb : w.heap[b]? = some (.cells #[v0, v1, v2] t (0, 0))) (h0 : StrsAt v0 L0 w) (h1 : StrsAt v1 L1 w) (h2 : StrsAt v2 L2 w) (s0 : Few1 L0) (s1 : Few1 L1) (s2 : Few1 L2) : Lsts b 3 w := by
  obtain ⟨p0, c0, rfl⟩ := h0.shape
  obtain ⟨p1, c1, rfl⟩ := h1.shape
  obtain ⟨p2, c2, rfl⟩ := h2.shape
  intro k hk
  rcases (show k = 0 ∨ k = 1 ∨ k = 2 by omega) with rfl | rfl | rfl
  · exact ⟨p0, c0, L0, by simp [World.cell?, hb], h0, s0⟩
  · exact ⟨p1, c1, L1, by simp [World.cell?, hb], h1, s1⟩
  · exact ⟨p2, c2, L2, by simp [World.cell?, hb], h2, s2⟩
theorem lsts2 {b : Nat} {v0 v1 : Value} {L0 L1 : List ByteArray} {t : TypeId} {w : World} (hb : w.heap[b]? = some (.cells #[v0, v1] t (0, 0))) (h0 : StrsAt v0 L0 w) (h1 : StrsAt v1 L1 w) (s0 : Few1 L0) (s1 : Few1 L1) : Lsts b 2 w := by
  obtain ⟨p0, c0, rfl⟩ := h0.shape
  obtain ⟨p1, c1, rfl⟩ := h1.shape
  intro k hk
  rcases (show k = 0 ∨ k = 1 by omega) with rfl | rfl
  · exact ⟨p0, c0, L0, by simp [World.cell?, hb], h0, s0⟩
  · exact ⟨p1, c1, L1, by simp [World.cell?, hb], h1, s1⟩
/-- a proof is a small list -/
theorem prP_few {l : List En} (hl : l.length ≤ 1000) (o : Option Nat) : Few1 (prP l o) := by
  refine ⟨?_, fun y hy => by rw [prP_sizes l o y hy]; decide⟩
  cases o with
  | none => exact Nat.zero_le _
  | some i =>
    rw [prP_len]
    have := proof_short 10 (l.map lineD) i (by rw [List.length_map]; omega)
    omega
/-- an empty slice that was just made -/
theorem own_new0 (B b : Nat) (w : World) (h : B ≤ b) : OwnL B [] (.slice (some ⟨b, 0, none⟩) 0 0) w := own_row0 h
/-- Check's answer is a small list -/
theorem checkD_few {id ver : Int} {l : List En} {Z : List (ByteArray × ByteArray)} (hl : l.length ≤ 1000) (hZ : Z.length ≤ 10000) : (checkD id ver l Z).length ≤ 1000000 := by
  by_cases hB : validD id ver l = true
  · rw [fB_end hB]; have := fB_len Z l Z.length; omega
  · unfold checkD; rw [if_neg hB]; simp
theorem zip_few (A B : List ByteArray) (h : A.length ≤ 10000) : (A.zip B).length ≤ 10000 := by rw [List.length_zip]; omega
/-- what both Proves give, its parts named -/
theorem pr_parts (id ver : Int) (l : List En) (path : ByteArray) (hl : l.length ≤ 1000) (hp : ∀ x ∈ l, x.path.size ≤ 9223372036854775807) : ∃ aP aF aN aD N1 L1 C1, (prE l (prI id ver l path) = ⟨aP, aF, aN, aD⟩ ∧ prN (prI id ver l path) = N1 ∧ prP l (prI id ver l path) = L1 ∧ prC (prI id ver l path) = C1) ∧ aP.size ≤ 9223372036854775807 ∧ Few1 L1 := by
  refine ⟨_, _, _, _, _, _, _, ⟨rfl, rfl, rfl, rfl⟩, ?_, prP_few hl _⟩
  cases prI id ver l path with
  | none => show (en0.path).size ≤ _; decide
  | some i =>
    show (l.getD i en0).path.size ≤ _
    rw [List.getD_eq_getElem?_getD]
    cases h : l[i]? with
    | none => show (en0.path).size ≤ _; decide
    | some x => exact hp x (List.mem_of_getElem? h)
theorem prove_to {id ver : Int} {v : Value} {l : List En} {path : ByteArray} {aP aD : ByteArray} {aF aN N1 C1 : Int} {L1 : List ByteArray} (y : World) (h : prE l (prI id ver l path) = ⟨aP, aF, aN, aD⟩ ∧ prN (prI id ver l path) = N1 ∧ prP l (prI id ver l path) = L1 ∧ prC (prI id ver l path) = C1)
    (hv : Rws 4 enC v l y) (hl : l.length ≤ 1000) (hp : ∀ x ∈ l, x.path.size ≤ 9223372036854775807) (hT : Tab y) :
    Calls Tryz.prog 32 #[.agg #[.int .i64 id, .int .i64 ver, v], .string path] y fun e w' => ∃ u, e = .returned (.tuple #[.agg #[.string aP, .int .i64 aF, .int .i64 aN, .string aD], .int .i64 N1, u, .int .i64 C1]) ∧ StrsAt u L1 w' ∧ Gr y w' := by
  obtain ⟨h1, h2, h3, h4⟩ := h
  refine (prove_any id ver v l path y hv (by omega) hp hT).mono ?_
  rintro e w' ⟨u, rfl, ho, hg⟩
  rw [h3] at ho
  rw [h1, h2, h4]
  exact ⟨u, rfl, ho.strs, hg⟩
theorem proveR_to {id ver : Int} {v : Value} {l : List En} {path : ByteArray} {aP aD : ByteArray} {aF aN N1 C1 : Int} {L1 : List ByteArray} (y : World) (h : prE l (prI id ver l path) = ⟨aP, aF, aN, aD⟩ ∧ prN (prI id ver l path) = N1 ∧ prP l (prI id ver l path) = L1 ∧ prC (prI id ver l path) = C1)
    (hv : Rws 4 enC v l y) (hl : l.length ≤ 1000) (hp : ∀ x ∈ l, x.path.size ≤ 9223372036854775807) :
    Calls Tryz.prog 33 #[.agg #[.int .i64 id, .int .i64 ver, v], .string path] y fun e w' => ∃ u, e = .returned (.tuple #[.agg #[.string aP, .int .i64 aF, .int .i64 aN, .string aD], .int .i64 N1, u, .int .i64 C1]) ∧ StrsAt u L1 w' ∧ Gr y w' := by
  obtain ⟨h1, h2, h3, h4⟩ := h
  refine (proveR_any id ver v l path y hv (by omega) hp).mono ?_
  rintro e w' ⟨u, rfl, ho, hg⟩
  rw [h3] at ho
  rw [h1, h2, h4]
  exact ⟨u, rfl, ho.strs, hg⟩
theorem chk_st {I J : Int} {E : List En} {v vp vs : Value} {A T R : List ByteArray} (w : World) (hR : checkD I J E (A.zip T) = R) (hv : Rws 4 enC v E w) (hE : E.length ≤ 1000) (hEp : ∀ x ∈ E, x.path.size ≤ 9223372036854775807) (hp : StrsAt vp A w) (hs : StrsAt vs T w) (hA : Few1 A) (hB : Few1 T) (hT : Tab w) :
    Calls Tryz.prog 30 #[.agg #[.int .i64 I, .int .i64 J, v], vp, vs] w fun e w' => ∃ u, e = .returned u ∧ StrsAt u R w' ∧ Gr w w' := by
  refine (chk_to w hv hE hEp hp hs hA.1 hA.2 hB.2 hT hR rfl).mono ?_
  rintro e w' ⟨p, c, rfl, ho, hg⟩
  exact ⟨_, rfl, ho.strs, hg⟩
theorem chkR_st {I J : Int} {E : List En} {v vp vs : Value} {A T R : List ByteArray} (w : World) (hR : checkD I J E (A.zip T) = R) (hv : Rws 4 enC v E w) (hE : E.length ≤ 1000) (hEp : ∀ x ∈ E, x.path.size ≤ 9223372036854775807) (hp : StrsAt vp A w) (hs : StrsAt vs T w) (hA : Few1 A) (hB : Few1 T) :
    Calls Tryz.prog 31 #[.agg #[.int .i64 I, .int .i64 J, v], vp, vs] w fun e w' => ∃ u, e = .returned u ∧ StrsAt u R w' ∧ Gr w w' := by
  refine (checkR_any I J v vp vs E A T w hv hp hs hE hA.1 hEp (fun x hx => Nat.le_trans (hB.2 x hx) (by decide))).mono ?_
  rintro e w' ⟨u, rfl, ho, hg⟩
  rw [hR] at ho
  exact ⟨u, rfl, ho, hg⟩
theorem strs_stb (L : List ByteArray) : Stb (fun v w => StrsAt v L w) := fun _ _ _ hg h => h.gr hg
end
end Go.Proofs.YtjnnhhengpinmaaGreatDoor
