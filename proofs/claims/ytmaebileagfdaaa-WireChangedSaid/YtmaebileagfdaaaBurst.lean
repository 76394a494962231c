/- Bits of a text flipped one by one: its number. No program in sight. -/
import Derived.Test.YtmaebileagfdaaaCrcLin
namespace Go.Proofs.Ytmaebileagfdaaa
namespace Crc

theorem num_testBit (l : List UInt8) (t : Nat) : (num l).testBit t = (l.getD (t / 8) 0).toNat.testBit (t % 8) := by
  induction l generalizing t with
  | nil => simp [num]
  | cons b l ih =>
    have hb := b.toNat_lt
    rw [num, low_xor _ hb, Nat.testBit_xor, Nat.mul_comm, Nat.testBit_two_pow_mul]
    by_cases ht : 8 ≤ t
    · rw [Nat.testBit_lt_two_pow (Nat.lt_of_lt_of_le hb (Nat.pow_le_pow_right (by decide) ht : 2 ^ 8 ≤ 2 ^ t)), ih]
      have h1 : t / 8 = (t - 8) / 8 + 1 := by omega
      have h2 : (t - 8) % 8 = t % 8 := by omega
      rw [h1, h2]; simp [ht]
    · have h1 : t / 8 = 0 := by omega
      have h2 : t % 8 = t := by omega
      rw [h1, h2]; simp [ht]

theorem getD_set (l : List UInt8) (p j : Nat) (x : UInt8) (hp : p < l.length) : (l.set p x).getD j 0 = if j = p then x else l.getD j 0 := by
  simp only [List.getD_eq_getElem?_getD, List.getElem?_set]
  by_cases h : p = j
  · subst h; simp [hp]
  · have : ¬ j = p := fun e => h e.symm
    simp [h, this]

theorem num_flip (l : List UInt8) (t : Nat) (ht : t / 8 < l.length) (x : UInt8) (hx : x.toNat = (l.getD (t / 8) 0).toNat ^^^ 2 ^ (t % 8)) :
    num (l.set (t / 8) x) = num l ^^^ 2 ^ t := by
  apply Nat.eq_of_testBit_eq
  intro i
  rw [num_testBit, Nat.testBit_xor, num_testBit, getD_set _ _ _ _ ht, Nat.testBit_two_pow]
  by_cases h : i / 8 = t / 8
  · rw [if_pos h, hx, Nat.testBit_xor, Nat.testBit_two_pow, h]
    congr 1
    have : (t % 8 = i % 8) ↔ (t = i) := by constructor <;> intro <;> omega
    simp [this]
  · rw [if_neg h]
    have : ¬ t = i := by intro e; apply h; rw [e]
    simp [this]

theorem bits_next (B i k : Nat) : (B % 2 ^ (i + 1)) * 2 ^ k = if B / 2 ^ i % 2 = 1 then ((B % 2 ^ i) * 2 ^ k) ^^^ 2 ^ (k + i) else (B % 2 ^ i) * 2 ^ k := by
  apply Nat.eq_of_testBit_eq
  intro t
  have e : ∀ x : Nat, (x * 2 ^ k).testBit t = (decide (k ≤ t) && x.testBit (t - k)) := fun x => by rw [Nat.mul_comm, Nat.testBit_two_pow_mul]
  have hb : B.testBit i = decide (B / 2 ^ i % 2 = 1) := Nat.testBit_eq_decide_div_mod_eq
  by_cases h : B / 2 ^ i % 2 = 1
  · rw [if_pos h, Nat.testBit_xor, e, e, Nat.testBit_mod_two_pow, Nat.testBit_mod_two_pow, Nat.testBit_two_pow]
    by_cases hk : k ≤ t
    · by_cases hi : t - k = i
      · have h1 : k + i = t := by omega
        rw [hi, hb]; simp [hk, h, h1]
      · have h1 : ¬ k + i = t := by omega
        have h2 : (t - k < i + 1) ↔ (t - k < i) := by omega
        simp [hk, h1, h2]
    · have h1 : ¬ k + i = t := by omega
      simp [hk, h1]
  · rw [if_neg h, e, e, Nat.testBit_mod_two_pow, Nat.testBit_mod_two_pow]
    by_cases hi : t - k = i
    · rw [hi, hb]; simp [h]
    · have h2 : (t - k < i + 1) ↔ (t - k < i) := by omega
      simp [h2]

/-- The sums part. -/
theorem burst_more (s l : List UInt8) (hl : l.length = s.length) (B k : Nat) (h0 : B ≠ 0) (h32 : B < 4294967296) (hk : k ≤ 8 * s.length)
    (hn : num l = num s ^^^ ((B % 2 ^ 32) * 2 ^ k)) : moreN 0 l ≠ moreN 0 s := by
  intro he
  rw [moreN_inj] at he
  have hm : B % 2 ^ 32 = B := Nat.mod_eq_of_lt h32
  rw [hm] at hn
  refine burst_ne l s hl k B h0 h32 (by omega) ?_ _ he
  rw [hn, Nat.xor_comm (num s), Nat.xor_assoc, Nat.xor_self, Nat.xor_zero]
end Crc

namespace Crc
theorem u8_xor_nat (a b : Nat) (ha : a < 256) (hb : b < 256) : bits .xor .u8 (a : Int) (b : Int) = ((a ^^^ b : Nat) : Int) := by
  have hx : a ^^^ b < 2 ^ 8 := Nat.xor_lt_two_pow (n := 8) ha hb
  have ha' : a % 2 ^ IntKind.u8.bits = a := Nat.mod_eq_of_lt ha
  have hb' : b % 2 ^ IntKind.u8.bits = b := Nat.mod_eq_of_lt hb
  simp only [bits, BitVec.ofInt_natCast, BitVec.toNat_xor, BitVec.toNat_ofNat, ha', hb', IntKind.wrap_u8]
  omega
theorem flip_byte (x : UInt8) (q : Nat) (hq : q < 8) : ∃ y : UInt8, bits .xor .u8 ((x.toNat : Nat) : Int) ((2 : Int) ^ q % 256) = ((y.toNat : Nat) : Int) ∧ y.toNat = x.toNat ^^^ 2 ^ q := by
  have hx := x.toNat_lt
  have h2 : 2 ^ q < 2 ^ 8 := Nat.pow_lt_pow_right (by decide) hq
  have hx2 : x.toNat ^^^ 2 ^ q < 2 ^ 8 := Nat.xor_lt_two_pow hx h2
  refine ⟨UInt8.ofNat (x.toNat ^^^ 2 ^ q), ?_, ?_⟩
  · have e : (2 : Int) ^ q % 256 = ((2 ^ q : Nat) : Int) := by
      have h3 : ((2 ^ q : Nat) : Int) = (2 : Int) ^ q := by simp
      rw [← h3]
      exact Int.emod_eq_of_lt (Int.natCast_nonneg _) (Int.ofNat_lt.mpr h2)
    rw [e, u8_xor_nat _ _ hx h2, UInt8.toNat_ofNat']
    omega
  · rw [UInt8.toNat_ofNat']; omega
theorem bit_of (B n : Nat) (hB : B < 4294967296) : bits .and .u32 ((B : Int) / 2 ^ n) 1 = ((B / 2 ^ n % 2 : Nat) : Int) := by
  have e : (B : Int) / 2 ^ n = ((B / 2 ^ n : Nat) : Int) := by simp
  rw [e]
  exact Crc.u32_and1 _ (Nat.lt_of_le_of_lt (Nat.div_le_self _ _) hB)
end Crc
end Go.Proofs.Ytmaebileagfdaaa
