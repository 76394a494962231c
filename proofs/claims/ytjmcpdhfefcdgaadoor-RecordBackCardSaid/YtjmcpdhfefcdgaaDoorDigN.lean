/- Numbers at the front of bytes: short forms. -/
import Derived.Test.YtjmcpdhfefcdgaaDoorDigW
namespace Go.Proofs.YtjmcpdhfefcdgaaDoor
open Go.RowKit Dig

theorem str_get (s : ByteArray) (l : List UInt8) (h : s.data.toList = l) (i : Nat) (hi : i < s.size) (hl : i < l.length) : s[i] = l[i] := by
  subst h; rfl

theorem u64_xor_nat (a b : Nat) (ha : a < 18446744073709551616) (hb : b < 18446744073709551616) : bits .xor .u64 (a : Int) (b : Int) = ((a ^^^ b : Nat) : Int) := by
  have hx : a ^^^ b < 2 ^ 64 := Nat.xor_lt_two_pow (n := 64) ha hb
  have ha' : a % 2 ^ IntKind.u64.bits = a := Nat.mod_eq_of_lt ha
  have hb' : b % 2 ^ IntKind.u64.bits = b := Nat.mod_eq_of_lt hb
  simp only [bits, BitVec.ofInt_natCast, BitVec.toNat_xor, BitVec.toNat_ofNat, ha', hb']
  exact wrap_u64_id _ (by omega) (by omega)
theorem num_int (m : Int) (h0 : 0 ≤ m) (h1 : m < 18446744073709551616) (w : World) :
    Calls Tryd.prog 21 #[.int .u64 m] w fun e w' => e = .returned (.string (mkS (numB m.toNat))) ∧ Below w.heap.size w w' := by
  obtain ⟨n, rfl⟩ := Int.eq_ofNat_of_zero_le h0
  exact num_any n (by omega) w
theorem refnum_int (m : Int) (h0 : 0 ≤ m) (h1 : m < 18446744073709551616) (w : World) :
    Calls Tryd.prog 27 #[.int .u64 m] w fun e w' => e = .returned (.string (mkS (numB m.toNat))) ∧ Below w.heap.size w w' := by
  obtain ⟨n, rfl⟩ := Int.eq_ofNat_of_zero_le h0
  exact refnum_any n (by omega) w

theorem getnum_eq (s : ByteArray) (hs : s.size ≤ 9223372036854775807) {n k e : Nat} (h : Hid (getNum s.data.toList = (n, k, e))) (w : World) :
    Calls Tryd.prog 61 #[.string s] w fun r w' => r = .returned (.tuple #[.int .u64 n, .int .i64 k, .int .i64 e]) ∧ Below w.heap.size w w' := by
  have := getnum_any s hs w
  rw [h.out] at this
  exact this
theorem getNum_facts {l : List UInt8} {n k e : Nat} (h : getNum l = (n, k, e)) : n < 18446744073709551616 ∧ k ≤ l.length ∧ k ≤ 9 ∧ e ≤ 3 := by
  have h1 := getNum_lt l
  have h2 := getNum_le l
  have h3 := getNum_le9 l
  have h4 := getNum_ok l
  rw [h] at h1 h2 h3 h4
  simp only at h1 h2 h3 h4
  exact ⟨h1, h2, h3, by omega⟩

theorem ret_tup3 {x y z x' y' z' : Value} (hx : x = x') (hy : y = y') (hz : z = z') : Ending.returned (.tuple #[x, y, z]) = .returned (.tuple #[x', y', z']) := by rw [hx, hy, hz]

theorem extract_mkS (s : ByteArray) (k n : Nat) : s.extract k (k + n) = mkS ((s.data.toList.drop k).take n) := by
  apply ByteArray.ext; apply Array.toList_inj.mp
  rw [extract_toList, mkS_data, List.drop_take]
  congr 1; omega

end Go.Proofs.YtjmcpdhfefcdgaaDoor
