/- The contract of the reference's Collided. -/
import Derived.Test.YtakhomofckcckaaGreatDoorHaA
namespace Go.Proofs.YtakhomofckcckaaGreatDoor
open Go Go.RowKit Go.Shelf
attribute [local go_sem] gAt gUpon
attribute [local simp] Gr.refl Gr.alloc

def hitRow (x : ByteArray) (B : List ByteArray) : Bool := B.any fun b => decide (x ≠ b) && decide (sha x = sha b)
theorem hit_step {a b : List ByteArray} {i : Nat} {x : ByteArray} (h : a[i]? = some x) : hitD (a.drop i) b = (hitRow x b || hitD (a.drop (i + 1)) b) := by
  obtain ⟨h1, rfl⟩ := List.getElem?_eq_some_iff.1 h
  rw [List.drop_eq_getElem_cons h1]
  rfl
theorem row_step {x : ByteArray} {b : List ByteArray} {k : Nat} {y : ByteArray} (h : b[k]? = some y) : hitRow x (b.drop k) = ((decide (x ≠ y) && decide (sha x = sha y)) || hitRow x (b.drop (k + 1))) := by
  obtain ⟨h1, rfl⟩ := List.getElem?_eq_some_iff.1 h
  rw [List.drop_eq_getElem_cons h1]
  rfl
theorem hit_end {a b : List ByteArray} {i : Nat} (h : a.length ≤ i) : hitD (a.drop i) b = false := by
  rw [List.drop_eq_nil_of_le h]; rfl
theorem row_end {x : ByteArray} {b : List ByteArray} {i : Nat} (h : b.length ≤ i) : hitRow x (b.drop i) = false := by
  rw [List.drop_eq_nil_of_le h]; rfl

set_option maxRecDepth 100000 in
set_option maxHeartbeats 4000000 in
theorem collided_any (v u : Value) (a b : List ByteArray) (w : World) (hv : StrsAt v a w) (hu : StrsAt u b w) (ha : a.length ≤ 100000) (hb : b.length ≤ 100000) (hsa : ∀ x ∈ a, x.size ≤ 1000000) (hsb : ∀ x ∈ b, x.size ≤ 1000000) :
    Calls Tryz.prog 25 #[v, u] w fun e w' => e = .returned (.bool (hitD a b)) ∧ Gr w w' := by
  obtain ⟨iS, hi, hz0, hz1, hz2⟩ := info_parts infoStr
  have HI := Lib.hid hi
  have HI0 := Lib.hid hz0
  have HI1 := Lib.hid hz1
  have HI2 := Lib.hid hz2
  clear hi hz0 hz1 hz2
  obtain ⟨p, cap, rfl⟩ := hv.shape
  obtain ⟨p', cap', rfl⟩ := hu.shape
  have HV := Lib.hid hv
  have HU := Lib.hid hu
  have HSA := Lib.hid hsa
  have HSB := Lib.hid hsb
  clear hv hu hsa hsb
  go_enter Tryz.func25, Tryz.ntmps25
  go_wp2_with fail
  go_loopw [5, 6] (fun v5 v6 W => ∃ (k : Nat) (V : Value), k ≤ b.length ∧ v6 = .int .i64 (k : Int) ∧ V = v5 ∧ Hid (OwnL w.heap.size ((b.take k).map sha) V W) ∧ Hid (Gr w W)) (fun _ v6 _ => b.length - (intOf v6).toNat)
  case atStart => exact ⟨0, _, Nat.zero_le _, rfl, rfl, Lib.hid (Own.nil _ _ _), Lib.hid (Gr.refl _)⟩
  case round =>
    obtain ⟨k, v5, hk, rfl, rfl, HO, HG⟩ := hrel
    by_cases hlt : k < b.length
    · have ht : decide (k < b.length) = true := decide_eq_true hlt
      obtain ⟨y, hy⟩ : ∃ y, b[k]? = some y := ⟨_, List.getElem?_eq_getElem hlt⟩
      obtain ⟨g', off', cc', he', hc4'⟩ : ∃ g off cap'', Value.slice p' b.length cap' = .slice (some ⟨g, off, none⟩) b.length cap'' ∧ ∀ (j : Nat) x, b[j]? = some x → wr.cell? ⟨g, off + j, none⟩ = some (.string x) := by
        rcases HU.out with ⟨_, rfl⟩ | ⟨g, off, cap', h1, _, _, h2⟩
        · simp at hlt
        · exact ⟨g, off, cap', h1, fun j x hj => HG.out.cell (h2 j x hj)⟩
      injection he' with he1 _ he2
      subst he1 he2
      have hcy := hc4' k y hy
      have HS := Lib.hid (sumR_any y wr (by have := HSB.out y (List.mem_of_getElem? hy); omega))
      have HX : Hid ((b.take (k + 1)).map sha = (b.take k).map sha ++ [sha y]) := Lib.hid (by
        rw [List.take_add_one, hy, Option.toList_some, List.map_append]; rfl)
      have HL : Hid (((b.take k).map sha).length = k) := Lib.hid (by rw [List.length_map, List.length_take]; omega)
      generalize sha y = SY at HS HX
      clear hc4' hy
      go_wp2_with fail
      refine HS.out.mono ?_
      rintro e w1 ⟨rfl, hg⟩
      have HG1 := Lib.hid (HG.out.trans hg)
      have HO1 := Lib.hid (HO.out.gr hg)
      clear hg HG HO HS hcy
      generalize (b.take k).map sha = LK at HO1 HX HL
      have hl := HL.out
      go_wp2_with ((with_reducible show wpList _ _ _ (⟨some 23, _, _, _, _, _⟩ :: _) _ _); refine wpList_append_Own rfl (.tmp 16) (.tmp 22) 58 rfl 9 iS (.string ⟨#[]⟩) 1 16 Tryz.underlying58 HI.out HI0.out HI1.out HI2.out rfl (by decide) rfl (HO1.out.gr (Gr.alloc w1 _)) ⟨w1.heap.size, 0, none⟩ 1 1 [.string SY] rfl rfl (cells_new_at w1 [.string SY] 9) ?h1 (by decide) ?b1 ?b2 ?hB ?_)
      case h1 => exact sC_one [SY]
      case b1 => unfold maxLen; omega
      case b2 => omega
      case hB => have := HG1.out.size; simp; omega
      intro v18 w18 hown hchg _
      have HG2 : Hid (Gr w w18) := Lib.hid (gr_step HG1.out (Gr.alloc _ _) hchg (fun g hg => Own.ge HO1.out hg))
      have HO2 : Hid (OwnL w.heap.size ((b.take (k + 1)).map sha) v18 w18) := Lib.hid (by rw [HX.out]; exact OwnL.join (M := [SY]) hown (by rw [hl]; rfl))
      clear hown hchg HG1 HO1 HX hl
      go_wp2_with fail
      go_roundw
      case rel => exact ⟨k + 1, _, by omega, by go_num, rfl, HO2, HG2⟩
      case measure => simp [intOf]; omega
    · have ht : decide (k < b.length) = false := decide_eq_false hlt
      have HS : Hid (OwnL w.heap.size (b.map sha) v5 wr) := Lib.hid (by
        have h := HO.out
        rw [List.take_of_length_le (by omega)] at h
        exact h)
      obtain ⟨wo, hwo⟩ : ∃ wo, wo = wr := ⟨_, rfl⟩
      have HGo : Hid (Gr w wo) := Lib.hid (by rw [hwo]; exact HG.out)
      have HSo : Hid (OwnL w.heap.size (b.map sha) v5 wo) := Lib.hid (by rw [hwo]; exact HS.out)
      have HWo : Hid (Gr wo wr) := Lib.hid (by rw [hwo]; exact Gr.refl _)
      have HVo := Lib.hid (HV.out.gr HGo.out)
      have HUo := Lib.hid (HU.out.gr HGo.out)
      clear HS HO HG hwo hk hlt HV HU
      go_wp2_with fail
      go_loopw [7] (fun v7 W => ∃ i : Nat, i ≤ a.length ∧ v7 = .int .i64 (i : Int) ∧ Hid (Gr wo W) ∧ Hid (hitD a b = hitD (a.drop i) b)) (fun v7 _ => a.length - (intOf v7).toNat)
      case atStart => exact ⟨0, Nat.zero_le _, rfl, HWo, Lib.hid rfl⟩
      clear HWo
      case round =>
        obtain ⟨i, hi, rfl, HG, HH⟩ := hrel
        by_cases hla : i < a.length
        · have ht2 : decide (i < a.length) = true := decide_eq_true hla
          obtain ⟨x, hx⟩ : ∃ x, a[i]? = some x := ⟨_, List.getElem?_eq_getElem hla⟩
          obtain ⟨ga, oa, ca, hea, hca⟩ : ∃ g off cap'', Value.slice p a.length cap = .slice (some ⟨g, off, none⟩) a.length cap'' ∧ ∀ (j : Nat) x, a[j]? = some x → wo.cell? ⟨g, off + j, none⟩ = some (.string x) := by
            rcases HVo.out with ⟨_, rfl⟩ | ⟨g, off, cap', h1, _, _, h2⟩
            · simp at hla
            · exact ⟨g, off, cap', h1, h2⟩
          injection hea with he1 _ he2
          subst he1 he2
          have hcxo := hca i x hx
          have HXo := Lib.hid hcxo
          have hcx := HG.out.cell hcxo
          have HS := Lib.hid (sumR_any x wr (by have := HSA.out x (List.mem_of_getElem? hx); omega))
          have HSt := Lib.hid (hit_step (b := b) hx)
          have HR : Hid (∀ k y, b[k]? = some y → hitRow x (b.drop k) = ((decide (x ≠ y) && decide (sha x = sha y)) || hitRow x (b.drop (k + 1)))) := Lib.hid (fun k y h => row_step h)
          generalize hSX : sha x = SX at HS HR
          clear hSX hca hcxo hx
          go_wp2_with fail
          refine HS.out.mono ?_
          rintro e w2 ⟨rfl, hg⟩
          have HG2 := Lib.hid (HG.out.trans hg)
          clear hg HS HG hcx
          go_wp2_with fail
          go_loopw [9] (fun v9 W => ∃ k : Nat, k ≤ b.length ∧ v9 = .int .i64 (k : Int) ∧ Hid (Gr wo W) ∧ Hid (hitRow x b = hitRow x (b.drop k))) (fun v9 _ => b.length - (intOf v9).toNat)
          case atStart => exact ⟨0, Nat.zero_le _, rfl, HG2, Lib.hid rfl⟩
          clear HG2
          case round =>
            obtain ⟨k, hkb, rfl, HG, HK⟩ := hrel
            by_cases hlb : k < b.length
            · have ht3 : decide (k < b.length) = true := decide_eq_true hlb
              obtain ⟨y, hy⟩ : ∃ y, b[k]? = some y := ⟨_, List.getElem?_eq_getElem hlb⟩
              obtain ⟨gb, ob, cb, heb, hcb⟩ : ∃ g off cap'', Value.slice p' b.length cap' = .slice (some ⟨g, off, none⟩) b.length cap'' ∧ ∀ (j : Nat) x, b[j]? = some x → wo.cell? ⟨g, off + j, none⟩ = some (.string x) := by
                rcases HUo.out with ⟨_, rfl⟩ | ⟨g, off, cap', h1, _, _, h2⟩
                · simp at hlb
                · exact ⟨g, off, cap', h1, h2⟩
              injection heb with he1 _ he2
              subst he1 he2
              have hcy := HG.out.cell (hcb k y hy)
              have hcx := HG.out.cell HXo.out
              have hsl : (b.map sha).length = b.length := List.length_map _
              obtain ⟨gs, os, cs, rfl, _, hcs1, _⟩ := HSo.out.shape (by omega)
              have hcs : wr.cell? ⟨gs, os + k, none⟩ = some (.string (sha y)) := HG.out.cell (Own.cell HSo.out k _ (by simp [sC, hy]))
              have HStep := Lib.hid (HR.out k y hy)
              have ht4 : decide (k < (b.map sha).length) = true := decide_eq_true (by omega)
              rw [hsl]
              generalize sha y = SY at hcs HStep
              clear hcb hy ht4 hsl
              by_cases hxy : x = y
              · have hb1 : (x.toList == y.toList) = true := by rw [beq_str]; exact decide_eq_true hxy
                have HN : Hid (hitRow x b = hitRow x (b.drop (k + 1))) := Lib.hid (by
                  rw [HK.out, HStep.out, decide_eq_false (fun h => h hxy)]; simp)
                clear hxy HStep HK
                go_upto_region 13 with fail
                go_quiet (fail)
                rename_i nq
                have hg5 : Gr wr (wr.drewN nq) := ⟨rfl, rfl, rfl, Nat.le_refl _, fun _ _ => rfl⟩
                generalize wr.drewN nq = w5 at hg5 ⊢
                have HG5 := Lib.hid (HG.out.trans hg5)
                clear hg5 hcx hcy hcs
                go_wp2_with fail
                go_roundw
                case rel => exact ⟨k + 1, by omega, by go_num, HG5, HN⟩
                case measure => simp [intOf]; omega
              · have hb1 : (x.toList == y.toList) = false := by rw [beq_str]; exact decide_eq_false hxy
                by_cases hXY : SX = SY
                · have hb2 : (SX.toList == SY.toList) = true := by rw [beq_str]; exact decide_eq_true hXY
                  have HR2 : Hid (hitD a b = true) := Lib.hid (by
                    rw [HH.out, HSt.out, HK.out, HStep.out, decide_eq_true hxy, decide_eq_true hXY]; rfl)
                  clear hxy hXY HStep HK HSt HH HR
                  go_upto_region 13 with fail
                  go_quiet (fail)
                  rename_i nq
                  have hg5 : Gr wr (wr.drewN nq) := ⟨rfl, rfl, rfl, Nat.le_refl _, fun _ _ => rfl⟩
                  generalize wr.drewN nq = w5 at hg5 ⊢
                  have HG5 := Lib.hid (HG.out.trans hg5)
                  clear hg5 hcx hcy hcs
                  go_wp2_with fail
                  go_ret
                  exact ⟨by rw [HR2.out]; rfl, HGo.out.trans HG5.out⟩
                · have hb2 : (SX.toList == SY.toList) = false := by rw [beq_str]; exact decide_eq_false hXY
                  have HN : Hid (hitRow x b = hitRow x (b.drop (k + 1))) := Lib.hid (by
                    rw [HK.out, HStep.out, decide_eq_false hXY]; simp)
                  clear hxy hXY HStep HK
                  go_upto_region 13 with fail
                  go_quiet (fail)
                  rename_i nq
                  have hg5 : Gr wr (wr.drewN nq) := ⟨rfl, rfl, rfl, Nat.le_refl _, fun _ _ => rfl⟩
                  generalize wr.drewN nq = w5 at hg5 ⊢
                  have HG5 := Lib.hid (HG.out.trans hg5)
                  clear hg5 hcx hcy hcs
                  go_wp2_with fail
                  go_roundw
                  case rel => exact ⟨k + 1, by omega, by go_num, HG5, HN⟩
                  case measure => simp [intOf]; omega
            · have ht3 : decide (k < b.length) = false := decide_eq_false hlb
              have HN : Hid (hitD a b = hitD (a.drop (i + 1)) b) := Lib.hid (by
                rw [HH.out, HSt.out, HK.out, row_end (by omega)]; rfl)
              clear HK HH HSt
              go_wp2_with fail
              go_roundw
              case rel => exact ⟨i + 1, by omega, by go_num, HG, HN⟩
              case measure => simp [intOf]; omega
        · have ht2 : decide (i < a.length) = false := decide_eq_false hla
          have HR2 : Hid (hitD a b = false) := Lib.hid (by rw [HH.out]; exact hit_end (by omega))
          clear HH
          go_wp2_with fail
          go_ret
          exact ⟨by rw [HR2.out]; rfl, HGo.out.trans HG.out⟩
end Go.Proofs.YtakhomofckcckaaGreatDoor
