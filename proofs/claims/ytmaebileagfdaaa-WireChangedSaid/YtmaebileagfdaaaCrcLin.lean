/- The check sum is linear: bits that stand together, at most thirty-two, changed, change it. No program in sight. -/
import Derived.Test.YtmaebileagfdaaaCrc
namespace Go.Proofs.Ytmaebileagfdaaa
namespace Crc

theorem xor_cancel (a b c : Nat) : (a ^^^ c) ^^^ (b ^^^ c) = a ^^^ b := by
  rw [Nat.xor_comm b c, Nat.xor_assoc, ← Nat.xor_assoc c c, Nat.xor_self, Nat.zero_xor]
theorem xor_swap (a b c : Nat) : (a ^^^ c) ^^^ b = (a ^^^ b) ^^^ c := by rw [Nat.xor_assoc, Nat.xor_comm c b, ← Nat.xor_assoc]
theorem eq_of_xor (a b : Nat) (h : a ^^^ b = 0) : a = b := by
  have := congrArg (· ^^^ b) h
  simpa only [Nat.xor_assoc, Nat.xor_self, Nat.xor_zero, Nat.zero_xor] using this

theorem stepN_xor (a b : Nat) : stepN (a ^^^ b) = stepN a ^^^ stepN b := by
  unfold stepN
  have h1 : (a ^^^ b) / 2 = a / 2 ^^^ b / 2 := Nat.xor_div_two
  have h2 : (a ^^^ b) % 2 = (a + b) % 2 := by
    have := @Nat.xor_mod_two_eq_one a b
    omega
  rw [h1, h2]
  rcases Nat.mod_two_eq_zero_or_one a with ha | ha <;> rcases Nat.mod_two_eq_zero_or_one b with hb | hb
  · rw [if_neg (by omega), if_neg (by omega), if_neg (by omega)]; simp
  · rw [if_pos (by omega), if_neg (by omega), if_pos (by omega)]; simp [Nat.xor_assoc]
  · rw [if_pos (by omega), if_pos (by omega), if_neg (by omega)]; simp [xor_swap]
  · rw [if_neg (by omega), if_pos (by omega), if_pos (by omega), xor_cancel]; simp

theorem stepsN_xor (k a b : Nat) : stepsN k (a ^^^ b) = stepsN k a ^^^ stepsN k b := by
  induction k with
  | zero => rfl
  | succ k ih => simp only [stepsN, ih, stepN_xor]

theorem stepN_double (a : Nat) : stepN (2 * a) = a := by
  rw [stepN_even _ (by omega)]; omega

theorem stepsN_succ (k c : Nat) : stepsN (k + 1) c = stepsN k (stepN c) := by
  induction k generalizing c with
  | zero => rfl
  | succ k ih => rw [show stepsN (k + 1 + 1) c = stepN (stepsN (k + 1) c) from rfl, ih]; rfl

theorem stepsN_add (j k c : Nat) : stepsN (j + k) c = stepsN j (stepsN k c) := by
  induction j with
  | zero => simp [stepsN]
  | succ j ih => rw [show j + 1 + k = (j + k) + 1 from by omega]; simp only [stepsN, ih]

theorem stepsN_shift (k a : Nat) : stepsN k (a * 2 ^ k) = a := by
  induction k with
  | zero => simp [stepsN]
  | succ k ih =>
    rw [stepsN_succ, show a * 2 ^ (k + 1) = 2 * (a * 2 ^ k) from by rw [Nat.pow_succ]; ac_rfl, stepN_double, ih]

theorem stepN_ne (c : Nat) (h : c < 4294967296) (h0 : c ≠ 0) : stepN c ≠ 0 := by
  intro he
  rcases Nat.mod_two_eq_zero_or_one c with hc | hc
  · rw [stepN_even _ (by omega)] at he; omega
  · rw [stepN_odd _ hc] at he
    have h1 : c / 2 = 2197175160 := by
      have := congrArg (· ^^^ 2197175160) he
      simp only [Nat.xor_assoc, Nat.xor_self, Nat.xor_zero, Nat.zero_xor] at this
      exact this
    omega

theorem stepsN_ne (k c : Nat) (h : c < 4294967296) (h0 : c ≠ 0) : stepsN k c ≠ 0 := by
  induction k with
  | zero => exact h0
  | succ k ih => exact stepN_ne _ (stepsN_lt k c h) ih

theorem stepsN_inj (k a b : Nat) (ha : a < 4294967296) (hb : b < 4294967296) (h : stepsN k a = stepsN k b) : a = b := by
  by_cases he : a ^^^ b = 0
  · exact eq_of_xor a b he
  · exact absurd (by rw [stepsN_xor, h, Nat.xor_self]) (stepsN_ne k _ (xor_lt a b ha hb) he)

/-- The number of bytes, the lowest first. -/
def num : List UInt8 → Nat
  | [] => 0
  | b :: l => b.toNat + 256 * num l

theorem low_xor (b : Nat) (hb : b < 256) (n : Nat) : b + 256 * n = b ^^^ (n * 2 ^ 8) := by
  have h := Nat.two_pow_add_eq_or_of_lt (i := 8) hb n
  rw [show n * 2 ^ 8 = 2 ^ 8 * n from Nat.mul_comm _ _]
  have hd : (2 ^ 8 * n) &&& b = 0 := by
    apply Nat.eq_of_testBit_eq
    intro i
    rw [Nat.testBit_and, Nat.zero_testBit, Nat.testBit_two_pow_mul]
    by_cases hi : 8 ≤ i
    · rw [Nat.testBit_lt_two_pow (Nat.lt_of_lt_of_le hb (Nat.pow_le_pow_right (by decide) hi : 2 ^ 8 ≤ 2 ^ i))]; simp
    · simp [hi]
  have h2 : (2 ^ 8 * n) ||| b = (2 ^ 8 * n) ^^^ b := by
    apply Nat.eq_of_testBit_eq
    intro i
    have := congrArg (fun x => x.testBit i) hd
    simp only [Nat.testBit_and, Nat.zero_testBit] at this
    rw [Nat.testBit_or, Nat.testBit_xor]
    revert this
    cases (2 ^ 8 * n).testBit i <;> cases b.testBit i <;> simp
  rw [Nat.xor_comm, ← h2, ← h]; omega

theorem foldN_num (l : List UInt8) (c : Nat) : foldN c l = stepsN (8 * l.length) (c ^^^ num l) := by
  induction l generalizing c with
  | nil => simp [foldN, num, stepsN]
  | cons b l ih =>
    have hb := b.toNat_lt
    rw [show foldN c (b :: l) = foldN (byteN c b) l from rfl, ih, List.length_cons, show 8 * (l.length + 1) = 8 * l.length + 8 from by omega, stepsN_add]
    congr 1
    rw [num, low_xor _ hb, ← Nat.xor_assoc, stepsN_xor, stepsN_shift]
    rfl

/-- Two texts of one length whose numbers differ by a burst of at most 32 bits have other sums. -/
theorem burst_ne (a b : List UInt8) (hl : a.length = b.length) (k burst : Nat) (h0 : burst ≠ 0) (h32 : burst < 4294967296) (hk : k ≤ 8 * a.length)
    (hx : num a ^^^ num b = burst * 2 ^ k) (c : Nat) : foldN c a ≠ foldN c b := by
  intro he
  rw [foldN_num, foldN_num, ← hl] at he
  have h1 : stepsN (8 * a.length) ((c ^^^ num a) ^^^ (c ^^^ num b)) = 0 := by rw [stepsN_xor, he, Nat.xor_self]
  have h2 : (c ^^^ num a) ^^^ (c ^^^ num b) = burst * 2 ^ k := by
    rw [← hx, Nat.xor_comm c (num a), Nat.xor_assoc, ← Nat.xor_assoc c c, Nat.xor_self, Nat.zero_xor]
  rw [h2, show 8 * a.length = (8 * a.length - k) + k from by omega, stepsN_add, stepsN_shift] at h1
  exact stepsN_ne _ _ h32 h0 h1

theorem num_append (a b : List UInt8) : num (a ++ b) = num a + 2 ^ (8 * a.length) * num b := by
  induction a with
  | nil => simp [num]
  | cons x a ih =>
    simp only [List.cons_append, num, ih, List.length_cons]
    rw [show 8 * (a.length + 1) = 8 + 8 * a.length from by omega, Nat.pow_add, Nat.mul_add, Nat.mul_assoc]
    omega

theorem num_lt (a : List UInt8) : num a < 2 ^ (8 * a.length) := by
  induction a with
  | nil => simp [num]
  | cons x a ih =>
    have hx := x.toNat_lt
    simp only [num, List.length_cons]
    rw [show 8 * (a.length + 1) = 8 * a.length + 8 from by omega, Nat.pow_add]
    omega

theorem moreN_inj (c : Nat) (a b : List UInt8) : moreN c a = moreN c b ↔ foldN (4294967295 - c) a = foldN (4294967295 - c) b := by
  unfold moreN
  have h1 := foldN_lt (4294967295 - c) a (by omega)
  have h2 := foldN_lt (4294967295 - c) b (by omega)
  constructor
  · intro h; omega
  · intro h; rw [h]

theorem moreN_append (a b : List UInt8) (c : Nat) (hc : c < 4294967296) : moreN (moreN c a) b = moreN c (a ++ b) := by
  unfold moreN
  have h1 := foldN_lt (4294967295 - c) a (by omega)
  have h2 : 4294967295 - (4294967295 - foldN (4294967295 - c) a) = foldN (4294967295 - c) a := by omega
  rw [h2]; simp [foldN]

theorem byteN_inj (c : Nat) (hc : c < 4294967296) (a b : UInt8) (h : byteN c a = byteN c b) : a = b := by
  have h1 := stepsN_inj 8 _ _ (xor_lt _ _ hc (by have := a.toNat_lt; omega)) (xor_lt _ _ hc (by have := b.toNat_lt; omega)) h
  have h2 := congrArg (c ^^^ ·) h1
  simp only [← Nat.xor_assoc, Nat.xor_self, Nat.zero_xor] at h2
  exact UInt8.toNat_inj.mp h2

theorem moreN_last (c : Nat) (l : List UInt8) (a b : UInt8) : moreN c (l ++ [a]) = moreN c (l ++ [b]) ↔ a = b := by
  rw [moreN_inj, foldN_snoc, foldN_snoc]
  exact ⟨fun h => byteN_inj _ (foldN_lt _ _ (by omega)) _ _ h, fun h => by rw [h]⟩

/-- One byte changed changes the sum. -/
theorem byte_ne (c : Nat) (l r : List UInt8) (a b : UInt8) (h : a ≠ b) : moreN c (l ++ a :: r) ≠ moreN c (l ++ b :: r) := by
  intro he
  rw [moreN_inj] at he
  simp only [foldN, List.foldl_append, List.foldl_cons] at he
  have hL := foldN_lt (4294967295 - c) l (by omega)
  have key : ∀ (r : List UInt8) (x y : Nat), x < 4294967296 → y < 4294967296 → r.foldl byteN x = r.foldl byteN y → x = y := by
    intro r
    induction r with
    | nil => intro x y _ _ h; exact h
    | cons z r ih =>
      intro x y hx hy h
      have h1 := ih _ _ (byteN_lt x z hx) (byteN_lt y z hy) h
      have hz := z.toNat_lt
      have h2 := stepsN_inj 8 _ _ (xor_lt x z.toNat hx (by omega)) (xor_lt y z.toNat hy (by omega)) h1
      have h3 := congrArg (· ^^^ z.toNat) h2
      simpa only [Nat.xor_assoc, Nat.xor_self, Nat.xor_zero] using h3
  exact h (byteN_inj _ hL a b (key r _ _ (byteN_lt _ a hL) (byteN_lt _ b hL) he))
end Crc
end Go.Proofs.Ytmaebileagfdaaa
