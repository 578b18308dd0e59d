/- ManifestRoundTrip, the plain law. -/
import Derived.Test.YtjnnhhengpinmaaGreatDoorND
import Derived.Test.YtjnnhhengpinmaaGreatDoorNF
import Derived.Test.YtjnnhhengpinmaaGreatDoorNM
namespace Go.Proofs.YtjnnhhengpinmaaGreatDoor
open Go Go.RowKit Go.Shelf

theorem decL_err {l : List UInt8} {c : Int} (h : decL l = .error c) : c = 10 ∨ c = 140 := by
  unfold decL at h
  repeat' split at h
  all_goals first | (injection h with h; subst h; first | exact .inl rfl | exact .inr rfl) | cases h
theorem dcE_no {l : List UInt8} (h : ∀ p, decL l ≠ .ok p) : dcE (decL l) = 10 ∨ dcE (decL l) = 140 := by
  cases hd : decL l with
  | error c => exact decL_err hd
  | ok p => exact absurd hd (h p)
theorem enc_on {id ver : Int} {l : List En} (h : validD id ver l = true) : (encB id ver l).data.toList = enL id ver l ∧ encE id ver l = 0 := by
  unfold encB encE enL
  rw [if_pos h, if_pos h]
  exact ⟨rfl, rfl⟩
theorem enc_off {id ver : Int} {l : List En} (h : validD id ver l = false) : encB id ver l = ⟨#[]⟩ ∧ encE id ver l = 140 ∧ rootP id ver l = ⟨#[]⟩ := by
  unfold encB encE rootP
  simp [h]
theorem enc_pos {id ver : Int} {l : List En} (h : validD id ver l = true) : 1 ≤ (encB id ver l).size := by
  have h1 := (enc_on h).1
  apply Nat.one_le_iff_ne_zero.2
  intro e
  have h2 : (encB id ver l).data.toList = [] := List.eq_nil_of_length_eq_zero (by rw [Array.length_toList]; exact e)
  have h3 := decL_enc h
  rw [← h1, h2] at h3
  cases h3
theorem catL_len : ∀ (L : List ByteArray) (m : Nat), (∀ x ∈ L, x.size ≤ m) → (catL L).size ≤ L.length * m := by
  intro L m h
  have h1 : (catL L).size = ((L.map (·.data.toList)).flatten).length := by
    have := catL_data L
    rw [← this, Array.length_toList]; rfl
  rw [h1]
  clear h1
  induction L with
  | nil => simp
  | cons x L ih =>
    have h2 := ih (fun y hy => h y (List.mem_cons_of_mem _ hy))
    have h3 := h x (List.mem_cons_self ..)
    rw [List.map_cons, List.flatten_cons, List.length_append, List.length_cons, Nat.add_mul]
    have h4 : x.data.toList.length = x.size := by rw [Array.length_toList]; rfl
    omega
theorem enc_size (id ver : Int) (l : List En) : (encB id ver l).size ≤ 9000000 := by
  cases h : validD id ver l with
  | false => rw [(enc_off h).1]; decide
  | true =>
    obtain ⟨-, h64, -, hL, -⟩ := valid_head h
    unfold encB
    rw [if_pos h, ByteArray.size_append]
    have h1 := hdB_size id ver l.length
    have h2 := catL_len (l.map lineD) 131200 (fun x hx => by
      obtain ⟨y, hy, rfl⟩ := List.mem_map.1 hx
      exact lineD_size (hL y hy))
    rw [List.length_map] at h2
    omega
/-- a valid package's encoding: its front, itself, and more -/
theorem trip_law {id ver : Int} {l : List En} (h : validD id ver l = true) (more : ByteArray) :
    decL (encB id ver l).data.toList = .ok (id, ver, l) ∧ (dcE (decL ((encB id ver l).extract 0 ((encB id ver l).size - 1)).data.toList) = 10 ∨ dcE (decL ((encB id ver l).extract 0 ((encB id ver l).size - 1)).data.toList) = 140) ∧
      dcE (decL (encB id ver l ++ more).data.toList) = if more.toList == [] then 0 else 10 := by
  have h1 := (enc_on h).1
  refine ⟨by rw [h1]; exact decL_enc h, dcE_no (fun p => ?_), ?_⟩
  · have h2 := enc_pos h
    have hne : (encB id ver l).data.toList ≠ [] := fun e => by
      have h4 := congrArg List.length e
      rw [Array.length_toList] at h4
      have h5 : 1 ≤ (encB id ver l).data.size := h2
      rw [h4] at h5
      cases h5
    refine decL_front h (t := [(encB id ver l).data.toList.getLast hne]) ?_ (by simp) p
    rw [← h1]
    have h3 : ((encB id ver l).extract 0 ((encB id ver l).size - 1)).data.toList = (encB id ver l).data.toList.dropLast := by
      rw [show (encB id ver l).size - 1 = 0 + ((encB id ver l).size - 1) by omega, cut_bytes, List.drop_zero, List.dropLast_eq_take, Array.length_toList]
      rfl
    rw [h3, List.dropLast_concat_getLast]
  · rw [app_data, h1, decL_end h]
    by_cases hm : more.data.toList = []
    · rw [hm, if_neg (by simp)]
      have : (more.toList == []) = true := by rw [ByteArray.toList_eq, hm]; rfl
      rw [this]; rfl
    · rw [if_pos hm]
      have : (more.toList == []) = false := by rw [ByteArray.toList_eq, beq_eq_false_iff_ne]; exact hm
      rw [this]; rfl
end Go.Proofs.YtjnnhhengpinmaaGreatDoor
