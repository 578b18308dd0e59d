/- The digest of a list of bytes as a plain function on natural numbers, and laws on it. -/
import Derived.Test.YtbkhkpcnclhoiaaDoorBits
namespace Go.Proofs.YtbkhkpcnclhoiaaDoor

def kRound : List Nat := [0x428a2f98, 0x71374491, 0xb5c0fbcf, 0xe9b5dba5, 0x3956c25b, 0x59f111f1, 0x923f82a4, 0xab1c5ed5,
  0xd807aa98, 0x12835b01, 0x243185be, 0x550c7dc3, 0x72be5d74, 0x80deb1fe, 0x9bdc06a7, 0xc19bf174,
  0xe49b69c1, 0xefbe4786, 0x0fc19dc6, 0x240ca1cc, 0x2de92c6f, 0x4a7484aa, 0x5cb0a9dc, 0x76f988da,
  0x983e5152, 0xa831c66d, 0xb00327c8, 0xbf597fc7, 0xc6e00bf3, 0xd5a79147, 0x06ca6351, 0x14292967,
  0x27b70a85, 0x2e1b2138, 0x4d2c6dfc, 0x53380d13, 0x650a7354, 0x766a0abb, 0x81c2c92e, 0x92722c85,
  0xa2bfe8a1, 0xa81a664b, 0xc24b8b70, 0xc76c51a3, 0xd192e819, 0xd6990624, 0xf40e3585, 0x106aa070,
  0x19a4c116, 0x1e376c08, 0x2748774c, 0x34b0bcb5, 0x391c0cb3, 0x4ed8aa4a, 0x5b9cca4f, 0x682e6ff3,
  0x748f82ee, 0x78a5636f, 0x84c87814, 0x8cc70208, 0x90befffa, 0xa4506ceb, 0xbef9a3f7, 0xc67178f2]

/-- the i-th byte of a list as a number -/
def bt (l : List UInt8) (i : Nat) : Nat := (l.getD i 0).toNat
theorem bt_lt (l : List UInt8) (i : Nat) : bt l i < 256 := (l.getD i 0).toNat_lt
/-- the i-th word of a block -/
def word (l : List UInt8) (i : Nat) : Nat :=
  ((bt l (4 * i) * 16777216 ||| bt l (4 * i + 1) * 65536) ||| bt l (4 * i + 2) * 256) ||| bt l (4 * i + 3)
theorem word_lt (l : List UInt8) (i : Nat) : word l i < 4294967296 := by
  have h0 := bt_lt l (4 * i); have h1 := bt_lt l (4 * i + 1); have h2 := bt_lt l (4 * i + 2); have h3 := bt_lt l (4 * i + 3)
  exact or_lt _ _ (or_lt _ _ (or_lt _ _ (by omega) (by omega)) (by omega)) (by omega)

/-- the next word of a schedule -/
def nextW (w : List Nat) : Nat :=
  let x := w.getD (w.length - 15) 0
  let y := w.getD (w.length - 2) 0
  (w.getD (w.length - 16) 0 + (rot x 7 ^^^ rot x 18 ^^^ x / 8) + w.getD (w.length - 7) 0 + (rot y 17 ^^^ rot y 19 ^^^ y / 1024)) % 4294967296
def ext : Nat → List Nat → List Nat
  | 0, w => w
  | k + 1, w => ext k (w ++ [nextW w])
def first16 (l : List UInt8) : List Nat := (List.range 16).map (word l)
def sched (l : List UInt8) : List Nat := ext 48 (first16 l)

theorem ext_succ (k : Nat) : ∀ w : List Nat, ext (k + 1) w = ext k w ++ [nextW (ext k w)] := by
  induction k with
  | zero => intro w; rfl
  | succ k ih => intro w; rw [ext, ih]; rfl
theorem ext_length (k : Nat) : ∀ w : List Nat, (ext k w).length = w.length + k := by
  induction k with
  | zero => intro w; rfl
  | succ k ih => intro w; rw [ext, ih]; simp; omega
theorem nextW_lt (w : List Nat) : nextW w < 4294967296 := by simp only [nextW]; omega
theorem ext_lt (k : Nat) : ∀ w : List Nat, (∀ x ∈ w, x < 4294967296) → ∀ x ∈ ext k w, x < 4294967296 := by
  induction k with
  | zero => intro w h; exact h
  | succ k ih =>
    intro w h; refine ih _ ?_
    intro x hx; simp at hx
    rcases hx with hx | rfl
    · exact h x hx
    · exact nextW_lt w
theorem first16_length (l : List UInt8) : (first16 l).length = 16 := by simp [first16]
theorem sched_length (l : List UInt8) : (sched l).length = 64 := by simp [sched, ext_length, first16_length]
theorem sched_lt (l : List UInt8) : ∀ x ∈ sched l, x < 4294967296 := by
  refine ext_lt _ _ ?_
  intro x hx; simp [first16] at hx; obtain ⟨i, _, rfl⟩ := hx; exact word_lt l i

/-- one round of a computation: the eight words -/
structure St where
  a : Nat
  b : Nat
  c : Nat
  d : Nat
  e : Nat
  f : Nat
  g : Nat
  h : Nat
def St.lt (s : St) : Prop := s.a < 4294967296 ∧ s.b < 4294967296 ∧ s.c < 4294967296 ∧ s.d < 4294967296 ∧ s.e < 4294967296 ∧ s.f < 4294967296 ∧ s.g < 4294967296 ∧ s.h < 4294967296
/-- the complement of a word -/
def comp (x : Nat) : Nat := 4294967295 - x
def St.t (s : St) (k w : Nat) : Nat :=
  (s.h + (rot s.e 6 ^^^ rot s.e 11 ^^^ rot s.e 25) + ((s.e &&& s.f) ^^^ (comp s.e &&& s.g)) + k + w) % 4294967296
def St.u (s : St) : Nat := ((rot s.a 2 ^^^ rot s.a 13 ^^^ rot s.a 22) + ((s.a &&& s.b) ^^^ (s.a &&& s.c) ^^^ (s.b &&& s.c))) % 4294967296
def St.next (s : St) (k w : Nat) : St :=
  ⟨(s.t k w + s.u) % 4294967296, s.a, s.b, s.c, (s.d + s.t k w) % 4294967296, s.e, s.f, s.g⟩
def rounds (l : List (Nat × Nat)) (s : St) : St := l.foldl (fun s p => s.next p.1 p.2) s
def St.add (s v : St) : St :=
  ⟨(s.a + v.a) % 4294967296, (s.b + v.b) % 4294967296, (s.c + v.c) % 4294967296, (s.d + v.d) % 4294967296,
   (s.e + v.e) % 4294967296, (s.f + v.f) % 4294967296, (s.g + v.g) % 4294967296, (s.h + v.h) % 4294967296⟩
def blockSt (s : St) (l : List UInt8) : St := s.add (rounds (kRound.zip (sched l)) s)
def St.list (s : St) : List Nat := [s.a, s.b, s.c, s.d, s.e, s.f, s.g, s.h]
def start : St := ⟨0x6a09e667, 0xbb67ae85, 0x3c6ef372, 0xa54ff53a, 0x510e527f, 0x9b05688c, 0x1f83d9ab, 0x5be0cd19⟩
/-- the number of zero bytes behind the mark -/
def zeros (n : Nat) : Nat := (119 - n % 64) % 64
def lenBytes (n : Nat) : List UInt8 := (List.range 8).map fun i => UInt8.ofNat (8 * n / 256 ^ (7 - i))
def padded (l : List UInt8) : List UInt8 := l ++ 128 :: List.replicate (zeros l.length) 0 ++ lenBytes l.length
def wordBytes (x : Nat) : List UInt8 := [UInt8.ofNat (x / 16777216), UInt8.ofNat (x / 65536), UInt8.ofNat (x / 256), UInt8.ofNat x]
def stBytes (s : St) : List UInt8 := s.list.flatMap wordBytes
/-- the state behind some blocks, in whatever order -/
def stOf (l : List UInt8) (ks : List Nat) : St := ks.foldl (fun s k => blockSt s ((l.drop (64 * k)).take 64)) start
def shaL (l : List UInt8) : List UInt8 := stBytes (stOf (padded l) (List.range ((padded l).length / 64)))
/-- the digest of a string -/
def sha (s : ByteArray) : ByteArray := ⟨(shaL s.data.toList).toArray⟩

theorem stOf_snoc (l : List UInt8) (ks : List Nat) (k : Nat) : stOf l (ks ++ [k]) = blockSt (stOf l ks) ((l.drop (64 * k)).take 64) := by
  unfold stOf; rw [List.foldl_append, List.foldl_cons, List.foldl_nil]
theorem shaL_length (l : List UInt8) : (shaL l).length = 32 := by simp [shaL, stBytes, St.list, wordBytes]
theorem sha_size (s : ByteArray) : (sha s).size = 32 := by
  show (shaL s.data.toList).toArray.size = 32
  simp [shaL_length]
theorem padded_length (l : List UInt8) : (padded l).length = l.length + 9 + zeros l.length := by
  simp [padded, lenBytes]; omega
theorem padded_mod (l : List UInt8) : (padded l).length % 64 = 0 := by
  rw [padded_length]; unfold zeros; omega
theorem rounds_take (l : List (Nat × Nat)) (s : St) (i : Nat) (h : i < l.length) : rounds (l.take (i + 1)) s = (rounds (l.take i) s).next l[i].1 l[i].2 := by
  unfold rounds; rw [List.take_succ_eq_append_getElem h, List.foldl_append, List.foldl_cons, List.foldl_nil]
theorem mod32 (x : Nat) : x % 4294967296 < 4294967296 := by omega
theorem St.next_lt (s : St) (h : s.lt) (k w : Nat) : (s.next k w).lt := by
  obtain ⟨h1, h2, h3, h4, h5, h6, h7, h8⟩ := h
  simp only [St.lt, St.next]
  exact ⟨mod32 _, h1, h2, h3, mod32 _, h5, h6, h7⟩
theorem rounds_lt : ∀ (l : List (Nat × Nat)) (s : St), s.lt → (rounds l s).lt := by
  intro l
  induction l with
  | nil => intro s h; exact h
  | cons x l ih =>
    intro s h
    have e : rounds (x :: l) s = rounds l (s.next x.1 x.2) := by unfold rounds; rw [List.foldl_cons]
    rw [e]; exact ih _ (s.next_lt h x.1 x.2)
theorem St.add_lt (s v : St) : (s.add v).lt := by
  simp only [St.lt, St.add]
  exact ⟨mod32 _, mod32 _, mod32 _, mod32 _, mod32 _, mod32 _, mod32 _, mod32 _⟩
theorem blockSt_lt (s : St) (l : List UInt8) : (blockSt s l).lt := St.add_lt _ _
theorem start_lt : start.lt := by simp only [St.lt, start]; decide
theorem stOf_lt (l : List UInt8) (ks : List Nat) : (stOf l ks).lt := by
  unfold stOf
  have key : ∀ (ks : List Nat) (s : St), s.lt → (ks.foldl (fun s k => blockSt s ((l.drop (64 * k)).take 64)) s).lt := by
    intro ks
    induction ks with
    | nil => intro s h; exact h
    | cons k ks ih => intro s h; rw [List.foldl_cons]; exact ih _ (blockSt_lt _ _)
  exact key ks start start_lt
end Go.Proofs.YtbkhkpcnclhoiaaDoor
