/- Reading numbers, as plain Lean: what is read is what was written, and nothing else is read. -/
import Derived.Test.YtaoggehdkddgeaaGreatDoorGPiR
import Derived.Test.YtaoggehdkddgeaaGreatDoorGEnA
namespace Go.Proofs.YtaoggehdkddgeaaGreatDoor
section
open Go Go.RowKit Go.Shelf
/-- the bytes of a number's groups -/
def bysL (f z : Nat) : List UInt8 := (grpL f z).map fun x => UInt8.ofNat (grpN x)
theorem bysL_low (f : Nat) {z : Nat} (h : z < 128) : bysL (f + 1) z = [UInt8.ofNat z] := by
  unfold bysL; rw [grpL, if_pos h]; rfl
theorem bysL_high (f : Nat) {z : Nat} (h : ¬ z < 128) : bysL (f + 1) z = UInt8.ofNat (z % 128 + 128) :: bysL f (z / 128) := by
  unfold bysL; rw [grpL, if_neg h, List.map_cons]
  congr 2
  unfold grpN; rw [if_neg (by simp), or128 _ (Nat.mod_lt _ (by decide))]
theorem bysL_fuel : ∀ (f g z : Nat), z < 128 ^ (f + 1) → z < 128 ^ (g + 1) → bysL (f + 1) z = bysL (g + 1) z := by
  intro f
  induction f with
  | zero =>
    intro g z h _
    have h : z < 128 := by simpa using h
    rw [bysL_low 0 h, bysL_low g h]
  | succ f ih =>
    intro g z h h2
    by_cases hz : z < 128
    · rw [bysL_low _ hz, bysL_low _ hz]
    · rw [bysL_high _ hz, bysL_high _ hz]
      cases g with
      | zero => exact absurd (by simpa using h2) hz
      | succ g =>
        rw [ih g (z / 128) (Nat.div_lt_of_lt_mul (by rw [Nat.pow_succ] at h; omega)) (Nat.div_lt_of_lt_mul (by rw [Nat.pow_succ] at h2; omega))]
/-- reads groups: the number, and what is left -/
def rdZ : Nat → Nat → Nat → List UInt8 → Option (Nat × List UInt8)
  | 0, _, _, _ => none
  | _ + 1, _, _, [] => none
  | f + 1, i, z, b :: l =>
    if 128 ≤ b.toNat then rdZ f (i + 1) (z + b.toNat % 128 * 128 ^ i) l
    else if (b.toNat = 0 ∧ 0 < i) ∨ z + b.toNat % 128 * 128 ^ i = 9223372036854775807 then none
    else some (z + b.toNat % 128 * 128 ^ i, l)
theorem rdZ_inv : ∀ (f i z : Nat) (l : List UInt8) (y : Nat) (r : List UInt8), rdZ f i z l = some (y, r) →
    ∃ v, y = z + 128 ^ i * v ∧ l = bysL f v ++ r ∧ v < 128 ^ f ∧ y ≠ 9223372036854775807 ∧ (0 < i → 0 < v) := by
  intro f
  induction f with
  | zero => intro i z l y r h; simp [rdZ] at h
  | succ f ih =>
    intro i z l y r h
    cases l with
    | nil => simp [rdZ] at h
    | cons b l =>
      rw [rdZ] at h
      have hb := b.toNat_lt
      split at h
      · rename_i h1
        obtain ⟨v, hy, hl, hv, hn, h0⟩ := ih _ _ _ _ _ h
        have h0 := h0 (by omega)
        refine ⟨b.toNat % 128 + 128 * v, ?_, ?_, ?_, hn, fun _ => by omega⟩
        · rw [hy, Nat.pow_succ, Nat.mul_add, Nat.mul_comm (b.toNat % 128), Nat.mul_assoc, Nat.add_assoc]
        · rw [bysL_high f (by omega), hl, show (b.toNat % 128 + 128 * v) / 128 = v by omega, show (b.toNat % 128 + 128 * v) % 128 + 128 = b.toNat by omega]
          rw [UInt8.ofNat_toNat]; rfl
        · rw [Nat.pow_succ]; omega
      · rename_i h1
        split at h
        · cases h
        · rename_i h2
          injection h with h; injection h with e1 e2
          subst e2
          refine ⟨b.toNat, ?_, ?_, ?_, by rw [← e1]; exact fun h => h2 (.inr h), fun h3 => by omega⟩
          · rw [← e1, Nat.mod_eq_of_lt (by omega), Nat.mul_comm]
          · rw [bysL_low f (by omega), UInt8.ofNat_toNat]; rfl
          · rw [Nat.pow_succ]; have : 0 < 128 ^ f := Nat.pow_pos (by decide); omega
def unzig (z : Nat) : Int := if z % 2 = 0 then ((z / 2 : Nat) : Int) else -((z / 2 : Nat) : Int) - 1
theorem zig_unzig (z : Nat) : zig (unzig z) = z := by
  unfold unzig zig
  split <;> split <;> omega
theorem unzig_ok {z : Nat} : zigOk (unzig z) = true ↔ z < 9223372036854775807 := by
  unfold zigOk unzig; simp only [Bool.and_eq_true, decide_eq_true_eq]
  split <;> omega
/-- reads a number -/
def rdI (l : List UInt8) : Option (Int × List UInt8) := (rdZ 9 0 0 l).map fun p => (unzig p.1, p.2)
theorem encZ_bys {z : Nat} (h : z < 9223372036854775808) : (encZ z).data.toList = bysL 9 z := by
  show bysL 10 z = _
  exact bysL_fuel 9 8 z (by omega) (by omega)
theorem rdI_inv {l r : List UInt8} {n : Int} (h : rdI l = some (n, r)) : zigOk n = true ∧ l = (encZ (zig n)).data.toList ++ r := by
  unfold rdI at h
  rw [Option.map_eq_some_iff] at h
  obtain ⟨⟨y, r'⟩, h1, h2⟩ := h
  injection h2 with e1 e2
  simp only at e1 e2
  subst e1 e2
  obtain ⟨v, hy, hl, hv, hn, -⟩ := rdZ_inv _ _ _ _ _ _ h1
  have hy : y = v := by simpa using hy
  subst hy
  have hlt : y < 9223372036854775807 := by omega
  exact ⟨unzig_ok.2 hlt, by rw [zig_unzig, encZ_bys (by omega)]; exact hl⟩
end
section
open Go Go.RowKit Go.Shelf
/-- reads a string -/
def rdS (l : List UInt8) : Option (ByteArray × List UInt8) :=
  match rdI l with
  | none => none
  | some (n, r) => if 0 ≤ n ∧ n ≤ 65536 ∧ n ≤ (r.length : Int) then some (⟨(r.take n.toNat).toArray⟩, r.drop n.toNat) else none
end
section
open Go Go.RowKit Go.Shelf
attribute [local go_sem] gAt gUpon
attribute [local simp] Gr.refl Gr.alloc

theorem and_u8_127 (b : Nat) (hb : b < 256) : bits .and .u8 (b : Int) 127 = ((b % 128 : Nat) : Int) := by
  rw [← and127]
  show IntKind.u8.wrap ((BitVec.ofInt 8 (b : Int) &&& BitVec.ofInt 8 ((127 : Nat) : Int)).toNat : Int) = _
  have h : b &&& 127 < 2 ^ 8 := Nat.and_lt_two_pow _ (by omega)
  have hw : ∀ n : Int, IntKind.u8.wrap n = n % 256 := fun n => by simp [IntKind.wrap, IntKind.bits, IntKind.signed]
  rw [BitVec.toNat_and, BitVec.ofInt_natCast, BitVec.ofInt_natCast, BitVec.toNat_ofNat, BitVec.toNat_ofNat, Nat.mod_eq_of_lt (by omega), Nat.mod_eq_of_lt (by decide), hw]; omega
theorem and_u64_1 (z : Nat) (hz : z < 18446744073709551616) : bits .and .u64 (z : Int) 1 = ((z % 2 : Nat) : Int) := by
  rw [show z % 2 = z &&& 1 from (Nat.and_two_pow_sub_one_eq_mod z 1).symm]
  show IntKind.u64.wrap ((BitVec.ofInt 64 (z : Int) &&& BitVec.ofInt 64 ((1 : Nat) : Int)).toNat : Int) = _
  have h : z &&& 1 < 2 ^ 64 := Nat.and_lt_two_pow _ (by omega)
  rw [BitVec.toNat_and, BitVec.ofInt_natCast, BitVec.ofInt_natCast, BitVec.toNat_ofNat, BitVec.toNat_ofNat, Nat.mod_eq_of_lt (by omega), Nat.mod_eq_of_lt (by decide), wrap_u64]; omega
theorem or_u64_hi {z y k : Nat} (hz : z < 2 ^ k) (h : z + y * 2 ^ k < 18446744073709551616) : bits .or .u64 (z : Int) ((y * 2 ^ k : Nat) : Int) = ((z + y * 2 ^ k : Nat) : Int) := by
  have e : z + y * 2 ^ k = z ||| y * 2 ^ k := by
    rw [Nat.or_comm, Nat.mul_comm, ← Nat.two_pow_add_eq_or_of_lt hz, Nat.add_comm]
  show IntKind.u64.wrap ((BitVec.ofInt 64 (z : Int) ||| BitVec.ofInt 64 ((y * 2 ^ k : Nat) : Int)).toNat : Int) = _
  rw [BitVec.toNat_or, BitVec.ofInt_natCast, BitVec.ofInt_natCast, BitVec.toNat_ofNat, BitVec.toNat_ofNat, Nat.mod_eq_of_lt (by omega), Nat.mod_eq_of_lt (by omega), ← e, wrap_u64]; omega
theorem xor_i64_zig (c p : Nat) (hc : c < 9223372036854775808) (hp : p < 2) : bits .xor .i64 (c : Int) (-(p : Int)) = if p = 0 then (c : Int) else -(c : Int) - 1 := by
  show IntKind.i64.wrap ((BitVec.ofInt 64 (c : Int) ^^^ BitVec.ofInt 64 (-(p : Int))).toNat : Int) = _
  have hw : ∀ n : Int, IntKind.i64.wrap n = (n + 9223372036854775808) % 18446744073709551616 - 9223372036854775808 := fun n => by
    simp [IntKind.wrap, IntKind.bits, IntKind.signed]; omega
  match p, hp with
  | 0, _ =>
    have e : (BitVec.ofInt 64 (c : Int) ^^^ BitVec.ofInt 64 (-((0 : Nat) : Int))).toNat = c := by
      rw [show (-((0 : Nat) : Int)) = ((0 : Nat) : Int) from rfl, BitVec.toNat_xor, BitVec.ofInt_natCast, BitVec.ofInt_natCast, BitVec.toNat_ofNat, BitVec.toNat_ofNat, Nat.mod_eq_of_lt (by omega), Nat.mod_eq_of_lt (by decide), Nat.xor_zero]
    rw [e, hw, if_pos rfl]; omega
  | 1, _ =>
    have e : (BitVec.ofInt 64 (c : Int) ^^^ BitVec.ofInt 64 (-((1 : Nat) : Int))).toNat = 18446744073709551615 - c := by
      rw [show BitVec.ofInt 64 (-((1 : Nat) : Int)) = BitVec.allOnes 64 by decide, BitVec.xor_allOnes, BitVec.toNat_not, BitVec.ofInt_natCast, BitVec.toNat_ofNat, Nat.mod_eq_of_lt (by omega)]
    rw [e, hw, if_neg (by decide)]; omega
theorem wrap64_in {x : Int} (h1 : -9223372036854775808 ≤ x) (h2 : x ≤ 9223372036854775807) : wrap64 x = x := by unfold wrap64; omega
theorem results_tmp3 {fn : Func} {t u x : Tmp} (h : fn.results = #[.tmp t, .tmp u, .tmp x]) (tmps : Array Value) (P : Program) (w : World) :
    (results fn tmps).run P w = .ok (.tuple #[tmps.getD t undef, tmps.getD u undef, tmps.getD x undef]) w := by
  simp [results, h]
/-- one group more -/
theorem grp_step {k z c7 : Nat} (hk : k < 9) (hz : z < 128 ^ k) (h7 : c7 < 128) :
    z + c7 * 128 ^ k < 128 ^ (k + 1) ∧ z + c7 * 128 ^ k < 9223372036854775808 ∧ bits .or .u64 (z : Int) (IntKind.u64.wrap ((c7 : Int) * 2 ^ (7 * k))) = ((z + c7 * 128 ^ k : Nat) : Int) := by
  have h1 : c7 * 128 ^ k ≤ 127 * 128 ^ k := Nat.mul_le_mul_right _ (by omega)
  have h2 : z + c7 * 128 ^ k < 128 ^ (k + 1) := by rw [Nat.pow_succ]; omega
  have h3 : 128 ^ (k + 1) ≤ 128 ^ 9 := Nat.pow_le_pow_right (by decide) (by omega)
  have h4 : (128 : Nat) ^ 9 = 9223372036854775808 := by decide
  rw [h4] at h3
  have h5 : z + c7 * 128 ^ k < 9223372036854775808 := Nat.lt_of_lt_of_le h2 h3
  have hpow : (2 : Nat) ^ (7 * k) = 128 ^ k := by rw [Nat.pow_mul]
  refine ⟨h2, h5, ?_⟩
  have e1 : (c7 : Int) * 2 ^ (7 * k) = ((c7 * 2 ^ (7 * k) : Nat) : Int) := by rw [Int.natCast_mul, Int.natCast_pow]; rfl
  have h6 : c7 * 2 ^ (7 * k) < 18446744073709551616 := by
    rw [hpow]; exact Nat.lt_of_le_of_lt (Nat.le_add_left _ _) (Nat.lt_trans h5 (by decide))
  have h7 : ∀ y : Nat, y < 18446744073709551616 → ((y : Nat) : Int) % 18446744073709551616 = (y : Int) := fun y hy => by omega
  rw [e1, wrap_u64, h7 _ h6, or_u64_hi (by rw [hpow]; exact hz) (by rw [hpow]; exact Nat.lt_trans h5 (by decide)), hpow]
theorem unzig_lo (z : Nat) : unzig z < -4611686018427387903 ↔ 9223372036854775806 < z ∧ z % 2 = 1 := by
  unfold unzig; split <;> omega
/-- the number of a value -/
theorem num_step {z h q : Nat} (hz : z < 9223372036854775808) (hh : z / 2 = h) (hq : z % 2 = q) :
    (z : Int) / 2 = (h : Int) ∧ wrap64 (h : Int) = (h : Int) ∧ bits .and .u64 (z : Int) 1 = (q : Int) ∧ wrap64 (q : Int) = (q : Int) ∧ wrap64 (-(q : Int)) = -(q : Int) ∧ bits .xor .i64 (h : Int) (-(q : Int)) = unzig z := by
  have h1 : h < 9223372036854775808 := by omega
  have h2 : q < 2 := by omega
  refine ⟨by omega, wrap64_in (by omega) (by omega), ?_, wrap64_in (by omega) (by omega), wrap64_in (by omega) (by omega), ?_⟩
  · rw [← hq]; exact and_u64_1 z (Nat.lt_trans hz (by decide))
  · rw [xor_i64_zig h q h1 h2, unzig, hq, hh]
theorem drop_at {l : List UInt8} {i : Nat} {x : UInt8} (h : l[i]? = some x) : l.drop i = x :: l.drop (i + 1) := by
  have hi := (List.getElem?_eq_some_iff.1 h)
  rw [List.drop_eq_getElem_cons hi.1, hi.2]
theorem rdZ_nil (f i z : Nat) : rdZ f i z [] = none := by cases f <;> rfl
/-- what Int gives -/
def intV (n : Nat) : Option (Int × List UInt8) → Value
  | none => .tuple #[.int .i64 0, .int .i64 0, .int .i64 10]
  | some (x, r) => .tuple #[.int .i64 x, .int .i64 ((n - r.length : Nat) : Int), .int .i64 0]
set_option maxRecDepth 100000 in
set_option maxHeartbeats 1000000 in
theorem int_any (s : ByteArray) (at_ : Nat) (hs : s.size ≤ 9223372036854775000) (ha : at_ ≤ s.size) (w : World) :
    Calls Tryz.prog 163 #[.string s, .int .i64 (at_ : Int)] w fun e w' => e = .returned (intV s.size (rdI (s.data.toList.drop at_))) ∧ w = w' := by
  have hlen : s.data.toList.length = s.size := by simp
  obtain ⟨R, hR⟩ : ∃ R, rdZ 9 0 0 (s.data.toList.drop at_) = R := ⟨_, rfl⟩
  have HR : Hid (rdI (s.data.toList.drop at_) = R.map fun p => (unzig p.1, p.2)) := Lib.hid (by unfold rdI; rw [hR])
  rw [HR.out]
  have H0 : Hid (rdZ (9 - 0) 0 0 (s.data.toList.drop (at_ + 0)) = R ∧ 0 < 128 ^ 0) := Lib.hid ⟨hR, by decide⟩
  clear hR HR
  have t1 : decide ((at_ : Int) < 0) = false := decide_eq_false (by omega)
  have t2 : decide ((s.size : Int) < (at_ : Int)) = false := decide_eq_false (by omega)
  have t2' : decide (s.size < at_) = false := decide_eq_false (by omega)
  go_enter Tryz.func163, Tryz.ntmps163
  go_wp2_with fail
  go_loopw [7, 19] (fun v7 v19 W => ∃ (z k : Nat), k ≤ 9 ∧ v7 = .int .u64 (z : Int) ∧ v19 = .int .i64 (k : Int) ∧ Hid (rdZ (9 - k) k z (s.data.toList.drop (at_ + k)) = R ∧ z < 128 ^ k) ∧ W = w) (fun _ v19 _ => 9 - (intOf v19).toNat)
  case atStart => exact ⟨0, 0, by omega, rfl, rfl, H0, rfl⟩
  clear H0
  case round =>
    obtain ⟨z, k, hk, rfl, rfl, HI, rfl⟩ := hrel
    by_cases h9 : k < 9
    · have t3 : decide (k < 9) = true := decide_eq_true h9
      have t3' : decide ((k : Int) < 9) = true := decide_eq_true (by omega)
      obtain ⟨p, hp⟩ : ∃ p, at_ + k = p := ⟨_, rfl⟩
      have ea : (at_ : Int) + (k : Int) = (p : Int) := by omega
      have ew : IntKind.i64.wrap (p : Int) = (p : Int) := IntWalk.i64_in _ (by omega)
      by_cases hin : p < s.size
      · have t4 : decide (s.size ≤ p) = false := decide_eq_false (by omega)
        have t4' : decide ((s.size : Int) ≤ (p : Int)) = false := decide_eq_false (by omega)
        obtain ⟨cb, hcb⟩ : ∃ cb, s[p]'hin = cb := ⟨_, rfl⟩
        have hgl : s.data.toList[p]? = some cb := by
          rw [List.getElem?_eq_getElem (by omega), ← hcb]; rfl
        obtain ⟨c, hc⟩ : ∃ c, cb.toNat = c := ⟨_, rfl⟩
        have hc256 : c < 256 := by rw [← hc]; exact cb.toNat_lt
        obtain ⟨c7, hc7⟩ : ∃ c7, c % 128 = c7 := ⟨_, rfl⟩
        have b1 : bits .and .u8 (c : Int) 127 = (c7 : Int) := by rw [← hc7]; exact and_u8_127 c hc256
        have b2 : IntKind.u64.wrap (c7 : Int) = (c7 : Int) := by rw [wrap_u64]; omega
        have b3 : IntKind.i64.wrap (7 * (k : Int)) = 7 * (k : Int) := IntWalk.i64_in _ (by omega)
        obtain ⟨hz1, hz63, b4⟩ := grp_step h9 HI.out.2 (show c7 < 128 by omega)
        obtain ⟨z', hz'⟩ : ∃ z', z + c7 * 128 ^ k = z' := ⟨_, rfl⟩
        have hstep : ∀ l, rdZ (9 - k) k z (cb :: l) = if 128 ≤ c then rdZ (9 - (k + 1)) (k + 1) z' l else if (c = 0 ∧ 0 < k) ∨ z' = 9223372036854775807 then none else some (z', l) := fun l => by
          rw [show 9 - k = (9 - (k + 1)) + 1 by omega, rdZ, hc, hc7, hz']
        have hRw : R = if 128 ≤ c then rdZ (9 - (k + 1)) (k + 1) z' (s.data.toList.drop (at_ + (k + 1))) else if (c = 0 ∧ 0 < k) ∨ z' = 9223372036854775807 then none else some (z', s.data.toList.drop (at_ + (k + 1))) := by
          rw [← HI.out.1, drop_at (show s.data.toList[at_ + k]? = some cb by rw [hp]; exact hgl), hstep]
          rw [show at_ + k + 1 = at_ + (k + 1) by omega]
        rw [hz'] at hz1 hz63 b4
        have HRw := Lib.hid hRw
        have Hz1 : Hid (z' < 128 ^ (k + 1)) := Lib.hid hz1
        clear hRw hstep hz1 hz' HI hgl
        by_cases hhi : 128 ≤ c
        · have t5 : decide (128 ≤ (c : Int)) = true := decide_eq_true (by omega)
          have t5' : decide (128 ≤ c) = true := decide_eq_true hhi
          have HR2 := Lib.hid (HRw.out.trans (if_pos hhi))
          clear HRw
          go_wp2_with fail
          exact ⟨⟨z', k + 1, by omega, rfl, by go_num, Lib.hid ⟨HR2.out.symm, Hz1.out⟩, trivial⟩, by simp [intOf]; omega⟩
        · have t5 : decide (128 ≤ (c : Int)) = false := decide_eq_false (by omega)
          have t5' : decide (128 ≤ c) = false := decide_eq_false hhi
          have HR2 := Lib.hid (HRw.out.trans (if_neg hhi))
          clear HRw
          obtain ⟨h, hh⟩ : ∃ h, z' / 2 = h := ⟨_, rfl⟩
          obtain ⟨q, hq⟩ : ∃ q, z' % 2 = q := ⟨_, rfl⟩
          obtain ⟨d1, d2, d3, d4, d5, d6⟩ := num_step hz63 hh hq
          have hn0 := unzig_lo z'
          obtain ⟨n, hn⟩ : ∃ n, unzig z' = n := ⟨_, rfl⟩
          rw [hn] at d6 hn0
          have Hn0 := Lib.hid hn0
          have Hn := Lib.hid hn
          have Hz63 : Hid (z' < 9223372036854775807 + 1) := Lib.hid hz63
          clear hn0 hn hh hq hz63
          by_cases hc0 : c = 0 ∧ 0 < k
          · obtain ⟨rfl, hk0⟩ := hc0
            have t6 : decide (0 < k) = true := decide_eq_true hk0
            have t6' : decide (0 < (k : Int)) = true := decide_eq_true (by omega)
            obtain rfl : R = none := HR2.out.trans (if_pos (.inl ⟨rfl, hk0⟩))
            clear HR2
            go_wp2_with fail
            refine bodyPost_ret (results_tmp3 rfl _ _ _) rfl ?_
            exact ⟨rfl, rfl⟩
          · by_cases hmx : z' = 9223372036854775807
            · obtain rfl : R = none := HR2.out.trans (if_pos (.inr hmx))
              have t7 : decide (n < -4611686018427387903) = true := decide_eq_true (Hn0.out.2 (by rw [hmx]; exact ⟨by decide, by decide⟩))
              clear HR2 hmx
              by_cases c0 : c = 0
              · subst c0
                have b1' : bits .and .u8 0 127 = (c7 : Int) := b1
                clear b1
                have t6 : decide (0 < k) = false := decide_eq_false (fun h => hc0 ⟨rfl, h⟩)
                have t6' : decide (0 < (k : Int)) = false := decide_eq_false (fun h => hc0 ⟨rfl, by omega⟩)
                clear hc0
                go_wp2_with fail
                refine bodyPost_ret (results_tmp3 rfl _ _ _) rfl ?_
                exact ⟨rfl, rfl⟩
              · have t8 : ((c : Int) == 0) = false := by rw [beq_eq_false_iff_ne]; omega
                clear hc0
                go_wp2_with fail
                refine bodyPost_ret (results_tmp3 rfl _ _ _) rfl ?_
                exact ⟨rfl, rfl⟩
            · have HRs : Hid (R = some (z', s.data.toList.drop (p + 1))) := Lib.hid (by
                rw [HR2.out, if_neg (fun h => h.elim hc0 hmx), show at_ + (k + 1) = p + 1 by omega])
              have t7 : decide (n < -4611686018427387903) = false := decide_eq_false (fun h => hmx (by have := (Hn0.out.1 h).1; have := Hz63.out; exact Nat.le_antisymm (Nat.le_of_lt_succ (by assumption)) (by assumption)))
              have HV : Hid (Value.tuple #[.int .i64 n, .int .i64 ((p : Int) + 1), .int .i64 0] = intV s.size (Option.map (fun p => (unzig p.fst, p.snd)) R)) := Lib.hid (by
                rw [HRs.out, Option.map_some, intV, Hn.out, List.length_drop, hlen, show s.size - (s.size - (p + 1)) = p + 1 by omega]
                rfl)
              have ew2 : IntKind.i64.wrap ((p : Int) + 1) = (p : Int) + 1 := IntWalk.i64_in _ (by omega)
              clear HR2 HRs hmx
              by_cases c0 : c = 0
              · subst c0
                have b1' : bits .and .u8 0 127 = (c7 : Int) := b1
                clear b1
                have t6 : decide (0 < k) = false := decide_eq_false (fun h => hc0 ⟨rfl, h⟩)
                have t6' : decide (0 < (k : Int)) = false := decide_eq_false (fun h => hc0 ⟨rfl, by omega⟩)
                clear hc0
                go_wp2_with fail
                refine bodyPost_ret (results_tmp3 rfl _ _ _) rfl ?_
                exact ⟨by rw [← HV.out]; rfl, rfl⟩
              · have t8 : ((c : Int) == 0) = false := by rw [beq_eq_false_iff_ne]; omega
                clear hc0
                go_wp2_with fail
                refine bodyPost_ret (results_tmp3 rfl _ _ _) rfl ?_
                exact ⟨by rw [← HV.out]; rfl, rfl⟩
      · have t4 : decide (s.size ≤ p) = true := decide_eq_true (by omega)
        have t4' : decide ((s.size : Int) ≤ (p : Int)) = true := decide_eq_true (by omega)
        obtain rfl : none = R := by
          rw [← HI.out.1, List.drop_eq_nil_of_le (by omega), rdZ_nil]
        clear HI
        go_wp2_with fail
        refine bodyPost_ret (results_tmp3 rfl _ _ _) rfl ?_
        exact ⟨rfl, rfl⟩
    · have t3 : decide (k < 9) = false := decide_eq_false h9
      have t3' : decide ((k : Int) < 9) = false := decide_eq_false (by omega)
      obtain rfl : none = R := by
        rw [← HI.out.1, show 9 - k = 0 by omega]; rfl
      clear HI
      go_wp2_with fail
      refine bodyPost_ret (results_tmp3 rfl _ _ _) rfl ?_
      exact ⟨rfl, rfl⟩
end
end Go.Proofs.YtaoggehdkddgeaaGreatDoor
