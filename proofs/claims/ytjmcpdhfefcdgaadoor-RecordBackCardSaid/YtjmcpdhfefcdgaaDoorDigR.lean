/- Contracts of digits: numbers with a sign. -/
import Derived.Test.YtjmcpdhfefcdgaaDoorDigT
namespace Go.Proofs.YtjmcpdhfefcdgaaDoor
open Go.RowKit Dig
theorem signed_any (n : Int) (h0 : -9223372036854775808 ≤ n) (h1 : n < 9223372036854775808) (w : World) :
    Calls Tryd.prog 23 #[.int .i64 n] w fun e w' => e = .returned (.string (mkS (numB (zig n)))) ∧ Below w.heap.size w w' := by
  have HB := Below.refl w.heap.size w
  have hz := zig_lt n h0 h1
  by_cases hn : 0 ≤ n
  · have hx : bits BinOp.xor IntKind.u64 (n * 2) (n / 9223372036854775808) = ((zig n : Nat) : Int) := by
      obtain ⟨m, rfl⟩ := Int.eq_ofNat_of_zero_le hn
      have e1 : (m : Int) * 2 = ((m * 2 : Nat) : Int) := by omega
      have e2 : (m : Int) / 9223372036854775808 = ((0 : Nat) : Int) := by omega
      rw [e1, e2, u64_xor_nat _ _ (by omega) (by omega), Nat.xor_zero]
      unfold zig; rw [if_neg (by omega)]; omega
    go_enter Tryd.func23, Tryd.ntmps23
    go_wp2_with (go_at_call 21; refine (num_any (zig n) hz _).mono ?_; rintro e w' ⟨rfl, hb⟩)
    go_ret
    exact ⟨rfl, hb⟩
  · have hx : bits BinOp.xor IntKind.u64 (IntKind.u64.wrap (IntKind.u64.wrap n * 2)) (IntKind.u64.wrap (n / 9223372036854775808)) = ((zig n : Nat) : Int) := by
      have hw : ∀ x : Int, IntKind.u64.wrap x = x % 18446744073709551616 := fun x => by simp [IntKind.wrap, IntKind.bits, IntKind.signed]
      rw [hw, hw, hw]
      have e1 : n % 18446744073709551616 * 2 % 18446744073709551616 = ((2 * n + 18446744073709551616).toNat : Int) := by omega
      have e2 : n / 9223372036854775808 % 18446744073709551616 = ((18446744073709551615 : Nat) : Int) := by omega
      rw [e1, e2, u64_xor_nat _ _ (by omega) (by omega), ones64 _ (by omega)]
      unfold zig; rw [if_pos (by omega)]; omega
    have hn' : n < 0 := by omega
    clear hn
    go_enter Tryd.func23, Tryd.ntmps23
    go_wp2_with (go_at_call 21; refine (num_any (zig n) hz _).mono ?_; rintro e w' ⟨rfl, hb⟩)
    go_ret
    exact ⟨rfl, hb⟩

theorem refsigned_any (n : Int) (h0 : -9223372036854775808 ≤ n) (h1 : n < 9223372036854775808) (w : World) :
    Calls Tryd.prog 29 #[.int .i64 n] w fun e w' => e = .returned (.string (mkS (numB (zig n)))) ∧ Below w.heap.size w w' := by
  by_cases hn : n < 0
  · have hE : Hid ((2 * -(n + 1) + 1).toNat = zig n) := Lib.hid (by unfold zig; rw [if_pos hn]; omega)
    go_enter Tryd.func29, Tryd.ntmps29
    go_wp2_with (go_at_call 27; refine (refnum_int _ (by omega) (by omega) _).mono ?_; rintro e w' ⟨rfl, hb⟩)
    go_ret
    exact ⟨ret_str (by rw [hE.out]), hb⟩
  · have hE : Hid ((2 * n).toNat = zig n) := Lib.hid (by unfold zig; rw [if_neg hn]; omega)
    go_enter Tryd.func29, Tryd.ntmps29
    go_wp2_with (go_at_call 27; refine (refnum_int _ (by omega) (by omega) _).mono ?_; rintro e w' ⟨rfl, hb⟩)
    go_ret
    exact ⟨ret_str (by rw [hE.out]), hb⟩

theorem getsigned_any (s : ByteArray) (hs : s.size ≤ 9223372036854775807) {n k e : Nat} (h : Hid (getNum s.data.toList = (n, k, e))) (w : World) :
    Calls Tryd.prog 64 #[.string s] w fun r w' => r = .returned (.tuple #[.int .i64 (zag n), .int .i64 k, .int .i64 e]) ∧ Below w.heap.size w w' := by
  obtain ⟨hn, _, _, _⟩ := getNum_facts h.out
  have hand := u64_and1 n hn
  rcases Nat.mod_two_eq_zero_or_one n with h2 | h2
  · have hx := i64_xor0 (n / 2) (by omega)
    have hz : Hid (zag n = ((n / 2 : Nat) : Int)) := Lib.hid (by unfold zag; rw [if_neg (by omega)])
    rw [h2] at hand
    push_cast at hx
    go_enter Tryd.func64, Tryd.ntmps64
    go_wp2_with (go_at_call 61; refine (getnum_eq s hs h _).mono ?_; rintro e w' ⟨rfl, hb⟩)
    go_ret3
    exact ⟨ret_tup3 (by rw [hz.out]; rfl) rfl rfl, hb⟩
  · have hx := i64_xorm1 (n / 2) (by omega)
    have hz : Hid (zag n = -((n / 2 : Nat) : Int) - 1) := Lib.hid (by unfold zag; rw [if_pos (by omega)])
    rw [h2] at hand
    push_cast at hx
    go_enter Tryd.func64, Tryd.ntmps64
    go_wp2_with (go_at_call 61; refine (getnum_eq s hs h _).mono ?_; rintro e w' ⟨rfl, hb⟩)
    go_ret3
    exact ⟨ret_tup3 (by rw [hz.out]; rfl) rfl rfl, hb⟩

theorem refgetsigned_any (s : ByteArray) (hs : s.size ≤ 9223372036854775807) {n k e : Nat} (h : Hid (getNum s.data.toList = (n, k, e))) (w : World) :
    Calls Tryd.prog 67 #[.string s] w fun r w' => r = .returned (.tuple #[.int .i64 (zag n), .int .i64 k, .int .i64 e]) ∧ w = w' := by
  obtain ⟨hn, _, _, _⟩ := getNum_facts h.out
  rcases Nat.mod_two_eq_zero_or_one n with h2 | h2
  · have hz : Hid (zag n = ((n / 2 : Nat) : Int)) := Lib.hid (by unfold zag; rw [if_neg (by omega)])
    have ht : ((n : Int) % 2 == 1) = false := by rw [beq_eq_false_iff_ne]; omega
    go_enter Tryd.func67, Tryd.ntmps67
    go_wp2_with (go_at_call 65; refine (refgetnum_eq s hs h _).mono ?_; rintro e w' ⟨rfl, rfl⟩)
    go_ret3
    exact ⟨ret_tup3 (by rw [hz.out]; rfl) rfl rfl, rfl⟩
  · have hz : Hid (zag n = -((n / 2 : Nat) : Int) - 1) := Lib.hid (by unfold zag; rw [if_pos (by omega)])
    have ht : ((n : Int) % 2 == 1) = true := by rw [beq_iff_eq]; omega
    go_enter Tryd.func67, Tryd.ntmps67
    go_wp2_with (go_at_call 65; refine (refgetnum_eq s hs h _).mono ?_; rintro e w' ⟨rfl, rfl⟩)
    go_ret3
    exact ⟨ret_tup3 (by rw [hz.out]; rfl) rfl rfl, rfl⟩

end Go.Proofs.YtjmcpdhfefcdgaaDoor
