/- Plain facts about the check sum: no program in sight. -/
import Derived.Laws.BitsLemmas
namespace Go.Proofs.Ytmaebileagfdaaa
namespace Crc
def poly : Nat := 0x82F63B78
def stepN (c : Nat) : Nat := (c / 2) ^^^ (if c % 2 = 1 then poly else 0)
theorem stepN_lt (c : Nat) (h : c < 4294967296) : stepN c < 4294967296 := by
  unfold stepN
  have h1 : c / 2 < 2 ^ 32 := by omega
  have h2 : (if c % 2 = 1 then poly else 0) < 2 ^ 32 := by unfold poly; split <;> decide
  exact Nat.xor_lt_two_pow h1 h2
theorem stepN_odd (c : Nat) (h : c % 2 = 1) : stepN c = c / 2 ^^^ 2197175160 := by unfold stepN; rw [h]; simp [poly]
theorem stepN_even (c : Nat) (h : c % 2 ≠ 1) : stepN c = c / 2 := by unfold stepN; rw [if_neg h]; simp
def stepsN : Nat → Nat → Nat
  | 0, c => c
  | k + 1, c => stepN (stepsN k c)
theorem stepsN_lt (k c : Nat) (h : c < 4294967296) : stepsN k c < 4294967296 := by
  induction k with
  | zero => exact h
  | succ k ih => exact stepN_lt _ ih
def byteN (c : Nat) (b : UInt8) : Nat := stepsN 8 (c ^^^ b.toNat)
theorem xor_lt (c : Nat) (b : Nat) (h : c < 4294967296) (hb : b < 4294967296) : c ^^^ b < 4294967296 :=
  Nat.xor_lt_two_pow (n := 32) h hb
theorem byteN_lt (c : Nat) (b : UInt8) (h : c < 4294967296) : byteN c b < 4294967296 :=
  stepsN_lt _ _ (xor_lt _ _ h (by have := b.toNat_lt; omega))
def foldN (c : Nat) (l : List UInt8) : Nat := l.foldl byteN c
theorem foldN_lt (c : Nat) (l : List UInt8) (h : c < 4294967296) : foldN c l < 4294967296 := by
  induction l generalizing c with
  | nil => exact h
  | cons b l ih => exact ih _ (byteN_lt c b h)
def moreN (c : Nat) (l : List UInt8) : Nat := 4294967295 - foldN (4294967295 - c) l
theorem moreN_lt (c : Nat) (l : List UInt8) : moreN c l < 4294967296 := by unfold moreN; omega
theorem foldN_snoc (c : Nat) (l : List UInt8) (b : UInt8) : foldN c (l ++ [b]) = byteN (foldN c l) b := by simp [foldN]
theorem u32_and1 (c : Nat) (h : c < 4294967296) : bits .and .u32 (c : Int) 1 = ((c % 2 : Nat) : Int) := by
  have := bits_mask .u32 32 (by decide) (fun n h0 h1 => by rw [IntKind.wrap_u32]; omega) 1 (by decide) (c : Int) (by omega) (by omega)
  simpa using this
theorem u32_xor (a b : Nat) (ha : a < 4294967296) (hb : b < 4294967296) : bits .xor .u32 (a : Int) (b : Int) = ((a ^^^ b : Nat) : Int) := by
  have hx := xor_lt a b ha hb
  have ha' : a % 2 ^ IntKind.u32.bits = a := Nat.mod_eq_of_lt ha
  have hb' : b % 2 ^ IntKind.u32.bits = b := Nat.mod_eq_of_lt hb
  simp only [bits, BitVec.ofInt_natCast, BitVec.toNat_xor, BitVec.toNat_ofNat, ha', hb', IntKind.wrap_u32]
  omega
/-- A sum in four bytes, the highest first. -/
def sumB (c : Nat) : List UInt8 := [UInt8.ofNat (c / 16777216), UInt8.ofNat (c / 65536), UInt8.ofNat (c / 256), UInt8.ofNat c]
theorem u32_or4 (a b c d : Nat) (ha : a < 256) (hb : b < 256) (hc : c < 256) (hd : d < 256) :
    bits .or .u32 (bits .or .u32 (bits .or .u32 ((a : Int) % 4294967296 * 16777216 % 4294967296) ((b : Int) % 4294967296 * 65536 % 4294967296)) ((c : Int) % 4294967296 * 256 % 4294967296)) ((d : Int) % 4294967296) =
      ((a * 16777216 + b * 65536 + c * 256 + d : Nat) : Int) := by
  have hk : ∀ n : Int, 0 ≤ n → n < 2 ^ 32 → IntKind.u32.wrap n = n := fun n h0 h1 => by rw [IntKind.wrap_u32]; omega
  have e1 : (a : Int) % 4294967296 * 16777216 % 4294967296 = a * 16777216 := by omega
  have e2 : (b : Int) % 4294967296 * 65536 % 4294967296 = b * 65536 := by omega
  have e3 : (c : Int) % 4294967296 * 256 % 4294967296 = c * 256 := by omega
  have e4 : (d : Int) % 4294967296 = d := by omega
  rw [e1, e2, e3, e4]
  rw [bits_join .u32 32 (by decide) hk 24 (a * 16777216) (b * 65536) (by omega) (by omega) (by omega) (by omega) (by omega) (by omega)]
  rw [bits_join .u32 32 (by decide) hk 16 (a * 16777216 + b * 65536) (c * 256) (by omega) (by omega) (by omega) (by omega) (by omega) (by omega)]
  rw [bits_join .u32 32 (by decide) hk 8 (a * 16777216 + b * 65536 + c * 256) d (by omega) (by omega) (by omega) (by omega) (by omega) (by omega)]
  omega
end Crc
end Go.Proofs.Ytmaebileagfdaaa
