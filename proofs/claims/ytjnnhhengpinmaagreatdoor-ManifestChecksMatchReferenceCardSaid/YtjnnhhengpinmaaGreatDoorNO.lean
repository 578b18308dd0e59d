/- The package that made built, as the laws carry it. -/
import Derived.Test.YtjnnhhengpinmaaGreatDoorNF
import Derived.Test.YtjnnhhengpinmaaGreatDoorMB
import Derived.Deep.MidRow
import Derived.Test.YtjnnhhengpinmaaGreatDoorHitA
import Derived.Test.YtjnnhhengpinmaaGreatDoorNC
import Derived.Test.YtjnnhhengpinmaaGreatDoorMS
import Derived.Test.YtjnnhhengpinmaaGreatDoorNB
namespace Go.Proofs.YtjnnhhengpinmaaGreatDoor
section
open Go Go.RowKit Go.Shelf

/-- what is known of an entry that came in -/
def EnIn (x : En) : Prop := x.path.size ≤ maxLen ∧ I64 x.fmt ∧ I64 x.len ∧ x.dig.size ≤ maxLen
/-- the entries of a package that came in -/
def PkIn (v : Value) (l : List En) (w : World) : Prop := Rws 4 enC v l w ∧ ∀ x ∈ l, x.path.size ≤ 9223372036854775807 ∧ x.dig.size ≤ 9223372036854775807
theorem Rws.at2 {α : Type} {s : Nat} {enc : α → List Value} {p : Option Addr} {c i n : Nat} {l : List α} {w : World} {x : α} (h : Rws s enc (.slice p n c) l w) (hn : l.length = n) (hx : l[i]? = some x) :
    ∃ g off, p = some ⟨g, off, none⟩ ∧ ∀ (j : Nat) u, (enc x)[j]? = some u → w.cell? ⟨g, off + (i * s + j), none⟩ = some u := by
  subst hn
  obtain ⟨g, off, h1, -, h2⟩ := h.at_ hx
  exact ⟨g, off, h1, h2⟩
theorem StrsAt.at2 {p : Option Addr} {c i n : Nat} {l : List ByteArray} {w : World} {x : ByteArray} (h : StrsAt (.slice p n c) l w) (hx : l[i]? = some x) : ∃ g off, p = some ⟨g, off, none⟩ ∧ w.cell? ⟨g, off + i, none⟩ = some (.string x) := by
  rcases h with ⟨he, h0⟩ | ⟨g, off, cap, he, _, _, hc⟩
  · rw [h0] at hx; exact absurd hx (by simp)
  · injection he with e1 e2 e3
    exact ⟨g, off, e1, hc i x hx⟩
/-- a new block behind a pointer -/
def NewPtr (B : Nat) (cs : List Value) (T : TypeId) : Value → World → Prop := fun v w => ∃ b, v = .pointer (some ⟨b, 0, none⟩) ∧ B ≤ b ∧ w.heap[b]? = some (.cells cs.toArray T (0, 0))
theorem stb_ptr (B : Nat) (cs : List Value) (T : TypeId) : Stb (NewPtr B cs T) := fun _ _ _ h ⟨b, hv, hB, hb⟩ => ⟨b, hv, hB, h.block hb⟩
theorem newPtr_alloc {B : Nat} {w : World} (hB : B ≤ w.heap.size) (cs : List Value) (T : TypeId) : NewPtr B cs T (.pointer (some ⟨w.heap.size, 0, none⟩)) (w.alloc (.cells cs.toArray T)) := ⟨_, rfl, hB, heap_alloc_new _ _⟩
/-- what made built: numbers, entries, paths, streams -/
def MadF (l : List ByteArray) (id ver : Int) (I J : Int) (n : Nat) (E : List En) (P S : List ByteArray) : Prop := I = madI id ∧ J = madI ver ∧ n = madN l ∧ E = madE l ∧ P = madP l ∧ S = madS l
theorem MadF.eLen {l : List ByteArray} {id ver I J : Int} {n : Nat} {E : List En} {P S : List ByteArray} (h : MadF l id ver I J n E P S) : E.length = n := by
  obtain ⟨-, -, rfl, rfl, -, -⟩ := h; exact madE_len l
theorem MadF.pLen {l : List ByteArray} {id ver I J : Int} {n : Nat} {E : List En} {P S : List ByteArray} (h : MadF l id ver I J n E P S) : P.length = n := by
  obtain ⟨-, -, rfl, -, rfl, -⟩ := h; exact madP_len l
theorem MadF.sLen {l : List ByteArray} {id ver I J : Int} {n : Nat} {E : List En} {P S : List ByteArray} (h : MadF l id ver I J n E P S) : S.length = n := by
  obtain ⟨-, -, rfl, -, -, rfl⟩ := h; exact madS_len l
theorem MadF.bounds {l : List ByteArray} {id ver I J : Int} {n : Nat} {E : List En} {P S : List ByteArray} (h : MadF l id ver I J n E P S) : 1 ≤ n ∧ n ≤ 12 := by
  obtain ⟨-, -, rfl, -, -, -⟩ := h; exact madN_pos l
theorem MadF.valid {l : List ByteArray} {id ver I J : Int} {n : Nat} {E : List En} {P S : List ByteArray} (h : MadF l id ver I J n E P S) : validD I J E = true := by
  obtain ⟨rfl, rfl, -, rfl, -, -⟩ := h; exact mad_valid l id ver
theorem MadF.ints {l : List ByteArray} {id ver I J : Int} {n : Nat} {E : List En} {P S : List ByteArray} (h : MadF l id ver I J n E P S) : (1 ≤ I ∧ I ≤ 1000000) ∧ 1 ≤ J ∧ J ≤ 1000000 := by
  obtain ⟨rfl, rfl, -, -, -, -⟩ := h
  exact ⟨withinB_iff.1 (madI_ok id), withinB_iff.1 (madI_ok ver)⟩
theorem MadF.at_ {l : List ByteArray} {id ver I J : Int} {n : Nat} {E : List En} {P S : List ByteArray} (h : MadF l id ver I J n E P S) {i : Nat} (hi : i < n) : ∃ f s, E[i]? = some (mkEn (pathOf i) f s) ∧ 0 ≤ f ∧ f < 5 ∧ s.size ≤ 40 ∧ S[i]? = some s ∧ P[i]? = some (pathOf i) := by
  obtain ⟨-, -, rfl, rfl, rfl, rfl⟩ := h; exact madE_at hi
theorem pathOf_size (i : Nat) : (pathOf i).size = 3 := rfl
theorem MadF.eSmall {l : List ByteArray} {id ver I J : Int} {n : Nat} {E : List En} {P S : List ByteArray} (h : MadF l id ver I J n E P S) : ∀ x ∈ E, x.path.size = 3 ∧ x.dig.size = 32 ∧ I64 x.fmt ∧ I64 x.len := by
  intro x hx
  obtain ⟨i, hi⟩ := List.getElem?_of_mem hx
  have hl := (List.getElem?_eq_some_iff.1 hi).1
  rw [h.eLen] at hl
  obtain ⟨f, s, he, h0, h5, hs, -⟩ := h.at_ hl
  obtain rfl := Option.some.inj (he.symm.trans hi)
  unfold mkEn I64
  simp only
  exact ⟨rfl, sha_size _, by omega, by omega⟩
theorem MadF.ePath {l : List ByteArray} {id ver I J : Int} {n : Nat} {E : List En} {P S : List ByteArray} (h : MadF l id ver I J n E P S) : ∀ x ∈ E, x.path.size ≤ 9223372036854775807 := fun x hx => by rw [(h.eSmall x hx).1]; decide
theorem MadF.pSmall {l : List ByteArray} {id ver I J : Int} {n : Nat} {E : List En} {P S : List ByteArray} (h : MadF l id ver I J n E P S) : ∀ x ∈ P, x.size = 3 := by
  obtain ⟨-, -, -, -, rfl, -⟩ := h; exact (mad_sizes l).2.2
theorem MadF.sSmall {l : List ByteArray} {id ver I J : Int} {n : Nat} {E : List En} {P S : List ByteArray} (h : MadF l id ver I J n E P S) : ∀ x ∈ S, x.size ≤ 40 := by
  obtain ⟨-, -, -, -, -, rfl⟩ := h; exact (mad_sizes l).2.1
/-- what made gives, each part under a name -/
def Mad2 (w : World) (l : List ByteArray) (id ver : Int) (e : Ending) (w' : World) : Prop :=
  ∃ (I J : Int) (n : Nat) (E : List En) (P S : List ByteArray) (p pp ps : Option Addr) (c cp cs : Nat), e = .returned (.tuple #[.agg #[.int .i64 I, .int .i64 J, .slice p n c], .slice pp n cp, .slice ps n cs]) ∧ MadF l id ver I J n E P S ∧
    Rws 4 enC (.slice p n c) E w' ∧ OwnL w.heap.size P (.slice pp n cp) w' ∧ OwnL w.heap.size S (.slice ps n cs) w' ∧ Own w.heap.size 4 (.slice p n c) n (E.flatMap enC) w' ∧ Gr w w'
theorem made2_any (v : Value) (l : List ByteArray) (id ver : Int) (w : World) (hv : StrsIn v l w) (hl : l.length ≤ 9223372036854775806) (hs : ∀ x ∈ l, x.size ≤ 140737488355000) (hi : I64 id) (hj : I64 ver) (hT : Tab w) :
    Calls Tryz.prog 17 #[v, .int .i64 id, .int .i64 ver] w (Mad2 w l id ver) := by
  refine (made_any v l id ver w hv hl hs hi hj hT).mono ?_
  rintro e w' ⟨u, p, s, rfl, hO, hP, hS, hg⟩
  obtain ⟨a, c, rfl⟩ := hO.slice
  obtain ⟨ap, cp, rfl⟩ := hP.strs.shape
  obtain ⟨asx, cs, rfl⟩ := hS.strs.shape
  have hR := own_rws (l := madE l) enC_len hO
  rw [madE_len] at hO hR
  rw [madP_len] at hP
  rw [madS_len] at hS
  refine ⟨_, _, madN l, _, _, _, a, ap, asx, c, cp, cs, ?_, ⟨rfl, rfl, rfl, rfl, rfl, rfl⟩, hR, hP, hS, hO, hg⟩
  rw [madE_len, madP_len, madS_len]
/-- the package that made built lies in block b, with its paths and streams -/
structure MadAt (w0 : World) (b : Nat) (I J : Int) (n : Nat) (E : List En) (P S : List ByteArray) (p pp ps : Option Addr) (c cp cs : Nat) (w : World) : Prop where
  g : Gr w0 w
  r : w.heap[b]? = some (.cells #[.int .i64 I, .int .i64 J, .slice p n c] 24 (0, 0))
  e : Rws 4 enC (.slice p n c) E w
  p : StrsAt (.slice pp n cp) P w
  s : StrsAt (.slice ps n cs) S w
theorem MadAt.gr {w0 : World} {b : Nat} {I J : Int} {n : Nat} {E : List En} {P S : List ByteArray} {p pp ps : Option Addr} {c cp cs : Nat} {w x : World} (h : MadAt w0 b I J n E P S p pp ps c cp cs w) (hg : Gr w x) : MadAt w0 b I J n E P S p pp ps c cp cs x :=
  ⟨h.g.trans hg, hg.block h.r, h.e.gr hg, h.p.gr hg, h.s.gr hg⟩
/-- behind the store of what made gave -/
theorem MadAt.start {w0 w1 : World} {I J : Int} {n : Nat} {E : List En} {P S : List ByteArray} {p pp ps : Option Addr} {c cp cs : Nat} (hg : Gr w0 w1) (he : Rws 4 enC (.slice p n c) E w1) (hp : StrsAt (.slice pp n cp) P w1) (hs : StrsAt (.slice ps n cs) S w1) :
    MadAt w0 w1.heap.size I J n E P S p pp ps c cp cs (w1.alloc (.cells #[.int .i64 I, .int .i64 J, .slice p n c] 24)) :=
  ⟨hg.trans (Gr.alloc _ _), heap_alloc_new _ _, he.gr (Gr.alloc _ _), hp.gr (Gr.alloc _ _), hs.gr (Gr.alloc _ _)⟩
end
section
open Go Go.RowKit Go.Shelf

section
variable {P : Program} {ops : Array Oper} {w0 : World} {D : List Deferred} {N : Nat} {QT : Act → World → Prop} {Γ : Opn} {a : Act} {o : Oper} {rest : List Oper}
/-- an operation that looks at two open temporaries and whose value is known -/
theorem grow_det2 (t1 t2 : Tmp) {V1 V2 : Value → World → Prop} (hN : a.tmps.size = N) (ht : t1 < N) (ht2 : t2 < N) (ho : Γ.lookup t1 = some V1) (ho2 : Γ.lookup t2 = some V2) (hs : isSelect o.op = false)
    (hf : free Γ ((o.looksAt ops).filter (fun t => t != t1 && t != t2)) = true) (hm : t1 ∈ o.looksAt ops) (hm2 : t2 ∈ o.looksAt ops)
    (hg : guardOff ops o t1 = true) (hg2 : guardOff ops o t2 = true) (hw : Region.wanted o (yielded ops a.tmps) = true) (hd : dstOk Γ N o.dst = true)
    {v : Value} (hob : ∀ w u u2, Gr w0 w → V1 u w → V2 u2 w → gAt P o ((a.put (some t1) u).put (some t2) u2) w (fun u _ => u = v)) (h : wpG P ops w0 D N QT rest (EG Γ (a.put o.dst v))) : wpG P ops w0 D N QT (o :: rest) (EG Γ a) := by
  refine ⟨fun u _ => u = v, stb_pure _, ?_, by rw [EG_put (dstOk_spec hN hd)]; exact h⟩
  intro a' w hG _ _ hl
  have hsame := same_two (t1 := t1) (t2 := t2) (by rw [hN]; exact ht) (by rw [hN]; exact ht2) hf hl
  have h1 := hl t1 hm
  simp only [EG, ho] at h1
  have h2 := hl t2 hm2
  simp only [EG, ho2] at h2
  exact .inl ⟨by rw [wanted_same hsame, wanted_put1 hg2, wanted_put1 hg]; exact hw, gAt_same hs hsame (hob w _ _ hG h1 h2)⟩
end
theorem infoEn_size (P : Program) (h : P = Tryz.prog) : (P.info? 28).map (·.size) = some 4 := by
  subst h
  kernel_rfl
/-- few's entries, shortly -/
theorem fewL_facts (l : List En) : (fewL l).length ≤ 66 ∧ ∀ x ∈ fewL l, x.path.size ≤ 70 ∧ x.dig.size ≤ 40 := by
  unfold fewL
  refine ⟨by rw [List.length_map, List.length_take]; omega, fun x hx => ?_⟩
  obtain ⟨y, -, rfl⟩ := List.mem_map.1 hx
  show (cutD y.path 70).size ≤ 70 ∧ (cutD y.dig 40).size ≤ 40
  rw [cutD_size, cutD_size]; omega
/-- few's result as a value -/
def PkU (B : Nat) (id ver : Int) (m : Nat) (l : List En) (v : Value) (w : World) : Prop := ∃ p c, v = .agg #[.int .i64 id, .int .i64 ver, .slice p m c] ∧ Own B 4 (.slice p m c) m (l.flatMap enC) w ∧ Rws 4 enC (.slice p m c) l w
theorem PkU.stb (B : Nat) (id ver : Int) (m : Nat) (l : List En) : Stb (PkU B id ver m l) := fun _ _ _ hg ⟨p, c, h1, h2, h3⟩ => ⟨p, c, h1, h2.gr hg, h3.gr hg⟩
theorem few2_any (id ver : Int) (v : Value) (l : List En) (w : World) (hv : PkIn v l w) : ∃ (m : Nat) (F : List En), fewL l = F ∧ F.length = m ∧ m ≤ 66 ∧ (∀ x ∈ F, x.path.size ≤ 70 ∧ x.dig.size ≤ 40) ∧
    ∀ y, Gr w y → Calls Tryz.prog 19 #[.agg #[.int .i64 id, .int .i64 ver, v]] y fun e w' => ∃ u, e = .returned u ∧ Gr y w' ∧ PkU y.heap.size id ver m F u w' := by
  refine ⟨_, _, rfl, rfl, (fewL_facts l).1, (fewL_facts l).2, fun y hg => (few_any id ver v l y (hv.1.gr hg) hv.2).mono ?_⟩
  rintro e w' ⟨u, rfl, h2, h3⟩
  obtain ⟨q, d, rfl⟩ := h2.slice
  exact ⟨_, rfl, h3, q, d, rfl, h2, own_rws (l := fewL l) enC_len h2⟩
/-- a package as a value -/
def PkR (id ver : Int) (m : Nat) (l : List En) (v : Value) (w : World) : Prop := ∃ p c, v = .agg #[.int .i64 id, .int .i64 ver, .slice p m c] ∧ Rws 4 enC (.slice p m c) l w
theorem PkR.stb (id ver : Int) (m : Nat) (l : List En) : Stb (PkR id ver m l) := fun _ _ _ hg ⟨p, c, h1, h2⟩ => ⟨p, c, h1, h2.gr hg⟩
theorem PkU.rws {B : Nat} {id ver : Int} {m : Nat} {l : List En} {v : Value} {w : World} (h : PkU B id ver m l v w) : PkR id ver m l v w := by
  obtain ⟨p, c, h1, -, h3⟩ := h; exact ⟨p, c, h1, h3⟩
theorem StrsAt.stb (L : List ByteArray) : Stb (fun v w => StrsAt v L w) := fun _ _ _ hg h => h.gr hg
theorem rowSix {W : World} {g : Nat} {a b c d e f : Value} {t : TypeId} (h : W.heap[g]? = some (.cells #[a, b, c, d, e, f] t (0, 0))) :
    W.cell? ⟨g, 0, none⟩ = some a ∧ W.cell? ⟨g, 1, none⟩ = some b ∧ W.cell? ⟨g, 2, none⟩ = some c ∧ W.cell? ⟨g, 3, none⟩ = some d ∧ W.cell? ⟨g, 4, none⟩ = some e ∧ W.cell? ⟨g, 5, none⟩ = some f := by
  have hc := row_at (cs := [a, b, c, d, e, f]) h
  exact ⟨hc 0 _ rfl, hc 1 _ rfl, hc 2 _ rfl, hc 3 _ rfl, hc 4 _ rfl, hc 5 _ rfl⟩
/-- an entry of a package that the call owns is replaced -/
theorem own_put {B g off n c : Nat} {F : List En} {w : World} (h : Own B 4 (.slice (some ⟨g, off, none⟩) n c) n (F.flatMap enC) w) (hF : F.length = n) (k : Nat) (hk : k < n) (o : En) :
    Own B 4 (.slice (some ⟨g, off, none⟩) n c) n ((F.set k o).flatMap enC) (w.setCells g (off + k * 4) (enC o)) ∧ Rws 4 enC (.slice (some ⟨g, off, none⟩) n c) (F.set k o) (w.setCells g (off + k * 4) (enC o)) ∧ Chg (some g) w (w.setCells g (off + k * 4) (enC o)) := by
  have h1 := h.store k hk (enC o) rfl
  rw [← flat_set enC_len F k o (by omega)] at h1
  refine ⟨h1, ?_, setCells_chg g (enC o) (off + k * 4) w⟩
  have hl : (F.set k o).length = n := by rw [List.length_set]; exact hF
  exact own_rws (l := F.set k o) enC_len (by rw [hl]; exact h1)
/-- a package in a block of its own -/
def QAt (bq : Nat) (I J : Int) (n : Nat) (p : Option Addr) (c : Nat) (Q : List En) (w : World) : Prop := w.heap[bq]? = some (.cells #[.int .i64 I, .int .i64 J, .slice p n c] 24 (0, 0)) ∧ Rws 4 enC (.slice p n c) Q w
theorem QAt.gr {bq : Nat} {I J : Int} {n : Nat} {p : Option Addr} {c : Nat} {Q : List En} {w x : World} (h : QAt bq I J n p c Q w) (hg : Gr w x) : QAt bq I J n p c Q x := ⟨hg.block h.1, h.2.gr hg⟩
end
section
open Go Go.RowKit Go.Shelf
attribute [local go_sem] gAt gUpon
attribute [local simp] Gr.refl Gr.alloc

theorem cat_size1 (m : UInt8) (a : ByteArray) : (cat m [a]).size = 1 + a.size := by rw [cat_size]; simp
theorem cat_size2 (m : UInt8) (a b : ByteArray) : (cat m [a, b]).size = 1 + (a.size + b.size) := by rw [cat_size]; simp
theorem hashD_sizes : ∀ (n : Nat) (l : List ByteArray), l.length = n → (∀ x ∈ l, x.size ≤ 1000) → ∀ y ∈ hashD l, y.size ≤ 10000 := by
  intro n
  induction n using Nat.strongRecOn with
  | _ n ih =>
    intro l hl hs y hy
    by_cases h0 : n = 0
    · rw [List.eq_nil_of_length_eq_zero (hl.trans h0), hashD_nil] at hy
      obtain rfl := List.mem_singleton.1 hy
      decide
    by_cases h1 : n = 1
    · obtain ⟨x, rfl⟩ := List.length_eq_one_iff.1 (hl.trans h1)
      rw [hashD_one] at hy
      obtain rfl := List.mem_singleton.1 hy
      have := hs x (by simp)
      rw [cat_size1]; omega
    · have h2 : 2 ≤ l.length := by omega
      have hsp := lp_spec l.length h2
      have hp := lp_pos l.length
      rw [hashD_split l h2] at hy
      rcases List.mem_append.1 hy with hy | hy
      · rcases List.mem_append.1 hy with hy | hy
        · exact ih (lp l.length) (by omega) (l.take (lp l.length)) (by rw [List.length_take]; omega) (fun x hx => hs x (List.mem_of_mem_take hx)) y hy
        · exact ih (l.length - lp l.length) (by omega) (l.drop (lp l.length)) List.length_drop (fun x hx => hs x (List.mem_of_mem_drop hx)) y hy
      · obtain rfl := List.mem_singleton.1 hy
        rw [cat_size2, rootD_size, rootD_size]; omega
theorem line_small {x : En} (h : entB x = true) : (lineD x).size ≤ 1000 := by
  unfold entB at h
  simp only [Bool.and_eq_true, withinB_iff, decide_eq_true_eq] at h
  obtain ⟨h1, h2, h3, h4⟩ := h
  unfold goodB at h1
  simp only [Bool.and_eq_true, decide_eq_true_eq] at h1
  unfold lineD putD
  have s3 : (numsB [x.fmt, x.len]).size ≤ 20 := by have := numsB_len [x.fmt, x.len] 2; simpa using this
  have := numB_size x.path.size
  have := numB_size x.dig.size
  simp only [ByteArray.size_append]
  omega
/-- the strings that are hashed for a package's root -/
def hash14 (id ver : Int) (l : List En) : List ByteArray := hashD (l.map lineD) ++ [cat 0 [hdB id ver l.length]] ++ [cat 1 [leafD (hdB id ver l.length), rootD (l.map lineD)]]
theorem hash14_sizes {id ver : Int} {l : List En} (h : validD id ver l = true) : (hash14 id ver l).length ≤ 100000 ∧ ∀ y ∈ hash14 id ver l, y.size ≤ 1000000 := by
  obtain ⟨h1, h64, hp, hL, hE⟩ := valid_head h
  refine ⟨?_, fun y hy => ?_⟩
  · unfold hash14
    have := (hashD_len (l.map lineD)).2
    rw [List.length_map] at this
    simp only [List.length_append, List.length_singleton]
    omega
  · unfold hash14 at hy
    rcases List.mem_append.1 hy with hy | hy
    · rcases List.mem_append.1 hy with hy | hy
      · refine Nat.le_trans (hashD_sizes _ _ rfl (fun x hx => ?_) y hy) (by decide)
        obtain ⟨z, hz, rfl⟩ := List.mem_map.1 hx
        exact line_small (hE z hz)
      · obtain rfl := List.mem_singleton.1 hy
        have := hdB_size id ver l.length
        rw [cat_size1]; omega
    · obtain rfl := List.mem_singleton.1 hy
      rw [cat_size2, leafD_size, rootD_size]; decide
/-- two valid packages with one root, and no two different strings with one digest: they are the same -/
theorem roots_law {ia va ib vb : Int} {l m : List En} (hl : validD ia va l = true) (hm : validD ib vb m = true) (he : rootP ia va l = rootP ib vb m) (hn : NoHit (hash14 ia va l) (hash14 ib vb m)) : ia = ib ∧ va = vb ∧ l = m := by
  obtain ⟨a1, -, -, a4, -⟩ := valid_head hl
  obtain ⟨b1, -, -, b4, -⟩ := valid_head hm
  unfold rootP at he
  rw [if_pos hl, if_pos hm] at he
  have hc := hn (cat 1 [leafD (hdB ia va l.length), rootD (l.map lineD)]) (List.mem_append_right _ List.mem_cons_self) (cat 1 [leafD (hdB ib vb m.length), rootD (m.map lineD)]) (List.mem_append_right _ List.mem_cons_self) he
  obtain ⟨e1, e2⟩ := cat2_inj hc (by rw [leafD_size, leafD_size])
  have hd := hn (cat 0 [hdB ia va l.length]) (List.mem_append_left _ (List.mem_append_right _ List.mem_cons_self)) (cat 0 [hdB ib vb m.length]) (List.mem_append_left _ (List.mem_append_right _ List.mem_cons_self)) e1
  obtain ⟨i1, i2, i3⟩ := head_inj a1 b1 (cat1_inj hd)
  refine ⟨i1, i2, ?_⟩
  have hlen : l.length = m.length := by omega
  have := noHit_tree l.length (l.map lineD) (m.map lineD) (List.length_map _) (by rw [List.length_map]; exact hlen.symm) e2
    (hn.sub (fun x hx => List.mem_append_left _ (List.mem_append_left _ hx)) (fun x hx => List.mem_append_left _ (List.mem_append_left _ hx)))
  exact lines_inj l m a4 b4 this
set_option maxRecDepth 100000 in
set_option maxHeartbeats 1000000 in
theorem hashed14_any (id ver : Int) (v : Value) (l : List En) (w : World) (hv : Rws 4 enC v l w) (hB : validD id ver l = true) :
    Calls Tryz.prog 40 #[.agg #[.int .i64 id, .int .i64 ver, v]] w fun e w' => ∃ u, e = .returned u ∧ OwnL w.heap.size (hash14 id ver l) u w' ∧ Gr w w' := by
  obtain ⟨iS, hi, hz0, hz1, hz2⟩ := info_parts infoStr
  have HI := Lib.hid hi
  have HI0 := Lib.hid hz0
  have HI1 := Lib.hid hz1
  have HI2 := Lib.hid hz2
  obtain ⟨hHd, h64, hp1, hLn, hE⟩ := valid_head hB
  obtain ⟨p, c, rfl⟩ := hv.shape
  have HV := Lib.hid hv
  have HHd := Lib.hid (fun (y : World) => headR_any id ver (l.length : Int) hHd y)
  have HLs := Lib.hid (fun (y : World) (hg : Gr w y) => linesR_any id ver _ l y (hv.gr hg) (by omega) hLn)
  have hsm : ∀ x ∈ l.map lineD, x.size ≤ 1000 := fun x hx => by
    obtain ⟨z, hz, rfl⟩ := List.mem_map.1 hx
    exact line_small (hE z hz)
  have hML : (l.map lineD).length ≤ 64 := by rw [List.length_map]; exact h64
  have hLen := (hashD_len (l.map lineD))
  obtain ⟨n, hn⟩ : ∃ n, l.length = n := ⟨_, rfl⟩
  have hD : hash14 id ver l = hashD (l.map lineD) ++ [cat 0 [hdB id ver n]] ++ [cat 1 [leafD (hdB id ver n), rootD (l.map lineD)]] := by rw [← hn]; rfl
  rw [hD]
  rw [hn] at HHd
  have hhs := hdB_size id ver n
  obtain ⟨HD, hHD⟩ : ∃ z, hdB id ver n = z := ⟨_, rfl⟩
  rw [hHD] at HHd hhs ⊢
  clear hD hHD hi hz0 hz1 hz2 hv
  obtain ⟨M, hM⟩ : ∃ z, l.map lineD = z := ⟨_, rfl⟩
  rw [hM] at HLs hsm hML hLen ⊢
  clear hM
  have HHa := Lib.hid (fun (u : Value) (y : World) (hu : StrsAt u M y) => hashedR_any u M y (by omega) hu (fun x hx => Nat.le_trans (hsm x hx) (by decide)))
  have HRt := Lib.hid (fun (u : Value) (y : World) (hu : StrsAt u M y) => rootR_any u M y hu (by omega) (fun x hx => Nat.le_trans (hsm x hx) (by decide)))
  have HLf := Lib.hid (fun (y : World) => leafR_any HD y (by omega))
  obtain ⟨LA, hLA⟩ : ∃ z, hashD M = z := ⟨_, rfl⟩
  obtain ⟨RT, hRT⟩ : ∃ z, rootD M = z := ⟨_, rfl⟩
  obtain ⟨LF, hLF⟩ : ∃ z, leafD HD = z := ⟨_, rfl⟩
  have hRs : RT.size = 32 := by rw [← hRT]; exact rootD_size _
  have hFs : LF.size = 32 := by rw [← hLF]; exact leafD_size _
  rw [hLA] at HHa hLen ⊢
  rw [hRT] at HRt ⊢
  rw [hLF] at HLf ⊢
  have hLn2 : LA.length ≤ 1000 := by omega
  obtain ⟨X0, hX0⟩ : ∃ z, (⟨#[0]⟩ : ByteArray) ++ HD = z := ⟨_, rfl⟩
  obtain ⟨X1, hX1⟩ : ∃ z, (⟨#[1]⟩ : ByteArray) ++ LF = z := ⟨_, rfl⟩
  obtain ⟨X2, hX2⟩ : ∃ z, X1 ++ RT = z := ⟨_, rfl⟩
  rw [show cat 0 [HD] = X0 by rw [← hX0, cat_add1r], show cat 1 [LF, RT] = X2 by rw [← hX2, ← hX1, cat_add2r]]
  have hX1s : X1.size = 33 := by rw [← hX1, ByteArray.size_append, hFs]; rfl
  have hadd0 : ∀ w1, (Op.stringOp .add (⟨#[0]⟩ : ByteArray) HD).run Tryz.prog w1 = .ok (.string X0) w1 := fun w1 => by
    rw [run_string_add_sum, hX0]; rw [show (⟨#[0]⟩ : ByteArray).size = 1 from rfl]; omega
  have hadd1 : ∀ w1, (Op.stringOp .add (⟨#[1]⟩ : ByteArray) LF).run Tryz.prog w1 = .ok (.string X1) w1 := fun w1 => by
    rw [run_string_add_sum, hX1]; rw [show (⟨#[1]⟩ : ByteArray).size = 1 from rfl]; omega
  have hadd2 : ∀ w1, (Op.stringOp .add X1 RT).run Tryz.prog w1 = .ok (.string X2) w1 := fun w1 => by
    rw [run_string_add_sum, hX2]; omega
  clear hX0 hX1 hX2 hLA hRT hLF hsm hLen
  obtain ⟨R, hR⟩ : ∃ z, LA ++ [X0] ++ [X2] = z := ⟨_, rfl⟩
  rw [hR]
  have HR := Lib.hid hR
  clear hR
  rw [hn] at HV ⊢ HLs
  go_enter Tryz.func40, Tryz.ntmps40
  go_upto_region 1 with fail
  obtain ⟨bx, hbx⟩ : ∃ b, w.heap.size = b := ⟨_, rfl⟩
  have hrow := heap_alloc_new w (.cells #[.int .i64 id, .int .i64 ver, .slice p n c] 24)
  rw [hbx] at hrow
  simp only [hbx]
  have HG0 := Lib.hid (Gr.alloc w (.cells #[.int .i64 id, .int .i64 ver, .slice p n c] 24))
  have HB0 := Lib.hid hrow
  have Hbx := Lib.hid hbx
  clear hrow hbx
  generalize w.alloc (.cells #[.int .i64 id, .int .i64 ver, .slice p n c] 24) = w0 at *
  obtain ⟨k0, k1, k2⟩ := row3 HB0.out
  go_wp2_with fail
  clear k0 k1 k2
  refine (HHd.out _).mono ?_
  rintro e w1 ⟨rfl, hg1⟩
  have HG1 := Lib.hid (HG0.out.trans hg1)
  have HB1 := Lib.hid (hg1.block HB0.out)
  clear hg1 HG0 HB0
  obtain ⟨k0, k1, k2⟩ := row3 HB1.out
  go_wp2_with fail
  clear k0 k1 k2
  refine (HLs.out _ HG1.out).mono ?_
  rintro e w2 ⟨u2, rfl, ho2, hg2⟩
  obtain ⟨p2, c2, rfl⟩ := ho2.strs.shape
  have HG2 := Lib.hid (HG1.out.trans hg2)
  have HL2 := Lib.hid ho2.strs
  clear ho2 hg2 HG1 HB1
  go_wp2_with fail
  refine (HHa.out _ _ HL2.out).mono ?_
  rintro e w3 ⟨u3, rfl, ho3, hg3⟩
  have HG3 := Lib.hid (HG2.out.trans hg3)
  have HO3 := Lib.hid (ho3.mono HG2.out.size)
  have HN3 := Lib.hid (And.intro ho3 hg3)
  clear ho3 hg3 HG2 HHa
  go_wp2_with ((with_reducible show wpList _ _ _ (⟨some 21, _, _, _, _, _⟩ :: _) _ _); refine wpList_append_Own rfl (.tmp 17) (.tmp 20) 25 rfl 9 iS (.string ⟨#[]⟩) 1 16 Tryz.underlying25 HI.out HI0.out HI1.out HI2.out rfl (by decide) rfl (HO3.out.gr (Gr.alloc _ _)) ⟨w3.heap.size, 0, none⟩ 1 1 [.string X0] rfl rfl ?hcZ ?h1Z (by decide) ?b1Z ?b2Z ?hBZ ?_)
  case hcZ => exact fun j u hj => row_at (heap_alloc_new w3 (.cells #[.string X0] 9)) j u hj
  case h1Z => first | rfl | exact sC_one [X0]
  case b1Z => unfold maxLen; omega
  case b2Z => omega
  case hBZ => exact (HG3.out.trans (Gr.alloc _ _)).size
  intro v4 w4 hown hchg _
  have HG4 : Hid (Gr w w4) := Lib.hid (gr_step (HG3.out.trans (Gr.alloc _ _)) (Gr.refl _) hchg (fun g hg => Own.ge HO3.out hg))
  have HO4 : Hid (OwnL w.heap.size (LA ++ [X0]) v4 w4) := Lib.hid (OwnL.join (M := [X0]) hown rfl)
  have HL4 : Hid (StrsAt (.slice p2 M.length c2) M w4) := Lib.hid (HL2.out.gr (gr_step (HN3.out.2.trans (Gr.alloc _ _)) (Gr.refl _) hchg (fun g hg => Own.ge HN3.out.1 hg)))
  have hl4 : (LA ++ [X0]).length ≤ 1001 := by rw [List.length_append, List.length_singleton]; omega
  clear hown hchg HO3 HG3 HL2 HN3
  obtain ⟨LB, hLB⟩ : ∃ z, LA ++ [X0] = z := ⟨_, rfl⟩
  rw [hLB] at HO4 hl4 HR
  clear hLB
  go_wp2_with fail
  refine (HLf.out _).mono ?_
  rintro e w5 ⟨rfl, hg5⟩
  have HG5 := Lib.hid (HG4.out.trans hg5)
  have HL5 := Lib.hid (HL4.out.gr hg5)
  have HO5 := Lib.hid (HO4.out.gr hg5)
  clear hg5 HG4 HL4 HO4
  go_wp2_with fail
  refine (HRt.out _ _ HL5.out).mono ?_
  rintro e w6 ⟨rfl, hg6⟩
  have HG6 := Lib.hid (HG5.out.trans hg6)
  have HO6 := Lib.hid (HO5.out.gr hg6)
  clear hg6 HG5 HL5 HO5
  go_wp2_with ((with_reducible show wpList _ _ _ (⟨some 30, _, _, _, _, _⟩ :: _) _ _); refine wpList_append_Own rfl (.tmp 22) (.tmp 29) 25 rfl 9 iS (.string ⟨#[]⟩) 1 16 Tryz.underlying25 HI.out HI0.out HI1.out HI2.out rfl (by decide) rfl (HO6.out.gr (Gr.alloc _ _)) ⟨w6.heap.size, 0, none⟩ 1 1 [.string X2] rfl rfl ?hcZ ?h1Z (by decide) ?b1Z ?b2Z ?hBZ ?_)
  case hcZ => exact fun j u hj => row_at (heap_alloc_new w6 (.cells #[.string X2] 9)) j u hj
  case h1Z => first | rfl | exact sC_one [X2]
  case b1Z => unfold maxLen; omega
  case b2Z => omega
  case hBZ => exact (HG6.out.trans (Gr.alloc _ _)).size
  intro v7 w7 hown hchg _
  have HG7 : Hid (Gr w w7) := Lib.hid (gr_step (HG6.out.trans (Gr.alloc _ _)) (Gr.refl _) hchg (fun g hg => Own.ge HO6.out hg))
  have HO7 : Hid (OwnL w.heap.size R v7 w7) := Lib.hid (by rw [← HR.out]; exact OwnL.join (M := [X2]) hown rfl)
  clear hown hchg HO6 HG6
  go_wp2_with fail
  go_ret
  exact ⟨_, rfl, HO7.out, HG7.out⟩
end
end Go.Proofs.YtjnnhhengpinmaaGreatDoor
