/- Contracts of the digits' functions: the rest. -/
import Derived.Test.YtoihalkbampdnaaDigW
namespace Go.Proofs.Ytoihalkbampdnaa
open Go.RowKit Dig

theorem mul_add_w (v : Nat) (hv : v < 256 ^ 7) (b : UInt8) : IntKind.u64.wrap (IntKind.u64.wrap (256 * (v : Int)) + IntKind.u64.wrap (b.toNat : Int)) = ((256 * v + b.toNat : Nat) : Int) := by
  have hb := b.toNat_lt
  have h7 : (256 : Nat) ^ 7 = 72057594037927936 := by decide
  rw [wrap_u64_id (256 * (v : Int)) (by omega) (by omega), wrap_u64_id (b.toNat : Int) (by omega) (by omega), wrap_u64_id _ (by omega) (by omega)]
  omega

theorem str_get (s : ByteArray) (l : List UInt8) (h : s.data.toList = l) (i : Nat) (hi : i < s.size) (hl : i < l.length) : s[i] = l[i] := by
  subst h; rfl

theorem refgetnum_any (s : ByteArray) (hs : s.size ≤ 9223372036854775807) (w : World) :
    Calls Try.prog 23 #[.string s] w fun e w' => e = .returned (.tuple #[.int .u64 (getNum s.data.toList).1, .int .i64 (getNum s.data.toList).2.1, .int .i64 (getNum s.data.toList).2.2]) ∧ w = w' := by
  cases hl : s.data.toList with
  | nil =>
    have he := isEmpty_true hl
    have HL := Lib.hid hl
    clear hl
    go_enter Try.func23, Try.ntmps23
    go_wp2
    go_ret3
    exact ⟨rfl, rfl⟩
  | cons c rest =>
    have hsz : s.size = rest.length + 1 := by rw [size_toList, hl]; rfl
    have h0 : 0 < s.size := by omega
    have hc := str_cons s c rest hl h0
    have hcl := c.toNat_lt
    have HL := Lib.hid hl
    have he := isEmpty_false h0
    clear hl
    by_cases h8 : 8 < c.toNat
    · have h8' : (8 : Int) < c.toNat := by omega
      go_enter Try.func23, Try.ntmps23
      go_wp2
      go_ret3
      exact ⟨ret_num (n := 0) (k := 0) (e := 2) (by simp only [getNum, if_pos h8]) rfl rfl rfl, rfl⟩
    have h8' : (c.toNat : Int) ≤ 8 := by omega
    by_cases hlen : rest.length < c.toNat
    · have hlen' : (rest.length : Int) + 1 ≤ c.toNat := by omega
      go_enter Try.func23, Try.ntmps23
      go_wp2
      go_ret3
      exact ⟨ret_num (n := 0) (k := 0) (e := 1) (by simp only [getNum, if_neg h8, if_pos hlen]) rfl rfl rfl, rfl⟩
    have hlen' : ¬ (rest.length : Int) + 1 ≤ c.toNat := by omega
    by_cases hz : 0 < c.toNat ∧ rest.head? = some 0
    · have hz1 := hz.1
      have hz2 : 1 < s.size := by omega
      have hz3 : s[1] = 0 := by
        rw [str_get s _ HL.out 1 hz2 (by simp; omega)]
        have h2 := hz.2
        rw [List.head?_eq_getElem?, List.getElem?_eq_getElem (by omega)] at h2
        exact Option.some.inj h2
      have Hz := Lib.hid hz
      clear hz
      go_enter Try.func23, Try.ntmps23
      go_wp2
      go_ret3
      exact ⟨ret_num (n := 0) (k := 0) (e := 3) (by simp only [getNum, if_neg h8, if_neg hlen, if_pos Hz.out]) rfl rfl rfl, rfl⟩
    have hg : getNum (c :: rest) = (val (rest.take c.toNat), c.toNat + 1, 0) := by
      simp only [getNum, if_neg h8, if_neg hlen, if_neg hz]
    have htest : ∀ h : 1 < s.size, 0 < c.toNat → (((s[1].toNat : Nat) : Int) == 0) = false := by
      intro h h2
      rw [u8_beq0]
      apply decide_eq_false
      intro e
      apply hz
      refine ⟨h2, ?_⟩
      rw [str_get s _ HL.out 1 h (by simp; omega)] at e
      rw [List.head?_eq_getElem?, List.getElem?_eq_getElem (by omega)]
      simpa using e
    have hsz1 : 0 < c.toNat → 1 < s.size := fun h => by omega
    have Hz := Lib.hid hz
    have Hg := Lib.hid hg
    have Hsz := Lib.hid hsz
    clear hz hg
    go_enter Try.func23, Try.ntmps23
    go_upto_region 12 with (fail)
    all_goals
      clear htest hsz1
      go_loop [6, 7] (fun v i => ∃ j : Nat, j ≤ c.toNat ∧ i = .int .i64 ((j + 1 : Nat) : Int) ∧ v = .int .u64 (val (rest.take j))) (fun _ i => c.toNat + 1 - (intOf i).toNat)
      case atStart => exact ⟨0, by omega, rfl, rfl⟩
      case round =>
        obtain ⟨j, hj, rfl, rfl⟩ := hrel
        by_cases hlt : j < c.toNat
        · have hjr : j < rest.length := by omega
          have hjs : j + 1 < s.size := by have := Hsz.out; omega
          have hsj : s[j + 1] = rest[j] := by rw [str_get s _ HL.out (j + 1) hjs (by simp; omega)]; rfl
          have hle : ((j + 1 : Nat) : Int) ≤ c.toNat := by omega
          go_wp2
          all_goals
            go_round
            case rel =>
              refine ⟨j + 1, by omega, by go_num, ?_⟩
              rw [List.take_succ_eq_append_getElem hjr, val_snoc, mul_add_w _ (val_take_lt rest j (by omega))]
            case measure => simp [intOf]; omega
        · obtain rfl : j = c.toNat := by omega
          go_wp2
          go_ret3
          exact ⟨ret_num Hg.out rfl rfl rfl, rfl⟩

theorem u64_xor_nat (a b : Nat) (ha : a < 18446744073709551616) (hb : b < 18446744073709551616) : bits .xor .u64 (a : Int) (b : Int) = ((a ^^^ b : Nat) : Int) := by
  have hx : a ^^^ b < 2 ^ 64 := Nat.xor_lt_two_pow (n := 64) ha hb
  have ha' : a % 2 ^ IntKind.u64.bits = a := Nat.mod_eq_of_lt ha
  have hb' : b % 2 ^ IntKind.u64.bits = b := Nat.mod_eq_of_lt hb
  simp only [bits, BitVec.ofInt_natCast, BitVec.toNat_xor, BitVec.toNat_ofNat, ha', hb']
  exact wrap_u64_id _ (by omega) (by omega)
theorem ones64 (c : Nat) (hc : c < 18446744073709551616) : c ^^^ 18446744073709551615 = 18446744073709551615 - c := by
  have h1 : (BitVec.ofNat 64 c) ^^^ (BitVec.allOnes 64) = ~~~ (BitVec.ofNat 64 c) := BitVec.xor_allOnes
  have h2 := congrArg BitVec.toNat h1
  simp only [BitVec.toNat_xor, BitVec.toNat_not, BitVec.toNat_ofNat, BitVec.toNat_allOnes] at h2
  rw [Nat.mod_eq_of_lt (show c < 2 ^ 64 from hc)] at h2
  have h3 : (2 ^ 64 - 1 - c : Nat) = 18446744073709551615 - c := by omega
  rw [h3] at h2
  exact h2

theorem num_int (m : Int) (h0 : 0 ≤ m) (h1 : m < 18446744073709551616) (w : World) :
    Calls Try.prog 24 #[.int .u64 m] w fun e w' => e = .returned (.string (mkS (numB m.toNat))) ∧ Below w.heap.size w w' := by
  obtain ⟨n, rfl⟩ := Int.eq_ofNat_of_zero_le h0
  exact num_any n (by omega) w
theorem refnum_int (m : Int) (h0 : 0 ≤ m) (h1 : m < 18446744073709551616) (w : World) :
    Calls Try.prog 25 #[.int .u64 m] w fun e w' => e = .returned (.string (mkS (numB m.toNat))) ∧ Below w.heap.size w w' := by
  obtain ⟨n, rfl⟩ := Int.eq_ofNat_of_zero_le h0
  exact refnum_any n (by omega) w

theorem signed_any (n : Int) (h0 : -9223372036854775808 ≤ n) (h1 : n < 9223372036854775808) (w : World) :
    Calls Try.prog 27 #[.int .i64 n] w fun e w' => e = .returned (.string (mkS (numB (zig n)))) ∧ Below w.heap.size w w' := by
  have HB := Below.refl w.heap.size w
  have hz := zig_lt n h0 h1
  by_cases hn : 0 ≤ n
  · have hx : bits BinOp.xor IntKind.u64 (n * 2) (n / 9223372036854775808) = ((zig n : Nat) : Int) := by
      obtain ⟨m, rfl⟩ := Int.eq_ofNat_of_zero_le hn
      have e1 : (m : Int) * 2 = ((m * 2 : Nat) : Int) := by omega
      have e2 : (m : Int) / 9223372036854775808 = ((0 : Nat) : Int) := by omega
      rw [e1, e2, u64_xor_nat _ _ (by omega) (by omega), Nat.xor_zero]
      unfold zig; rw [if_neg (by omega)]; omega
    go_enter Try.func27, Try.ntmps27
    go_wp2_with (go_at_call 24; refine (num_any (zig n) hz _).mono ?_; rintro e w' ⟨rfl, hb⟩)
    go_ret
    exact ⟨rfl, hb⟩
  · have hx : bits BinOp.xor IntKind.u64 (IntKind.u64.wrap (IntKind.u64.wrap n * 2)) (IntKind.u64.wrap (n / 9223372036854775808)) = ((zig n : Nat) : Int) := by
      have hw : ∀ x : Int, IntKind.u64.wrap x = x % 18446744073709551616 := fun x => by simp [IntKind.wrap, IntKind.bits, IntKind.signed]
      rw [hw, hw, hw]
      have e1 : n % 18446744073709551616 * 2 % 18446744073709551616 = ((2 * n + 18446744073709551616).toNat : Int) := by omega
      have e2 : n / 9223372036854775808 % 18446744073709551616 = ((18446744073709551615 : Nat) : Int) := by omega
      rw [e1, e2, u64_xor_nat _ _ (by omega) (by omega), ones64 _ (by omega)]
      unfold zig; rw [if_pos (by omega)]; omega
    have hn' : n < 0 := by omega
    clear hn
    go_enter Try.func27, Try.ntmps27
    go_wp2_with (go_at_call 24; refine (num_any (zig n) hz _).mono ?_; rintro e w' ⟨rfl, hb⟩)
    go_ret
    exact ⟨rfl, hb⟩

theorem refsigned_any (n : Int) (h0 : -9223372036854775808 ≤ n) (h1 : n < 9223372036854775808) (w : World) :
    Calls Try.prog 30 #[.int .i64 n] w fun e w' => e = .returned (.string (mkS (numB (zig n)))) ∧ Below w.heap.size w w' := by
  by_cases hn : n < 0
  · have hE : Hid ((2 * -(n + 1) + 1).toNat = zig n) := Lib.hid (by unfold zig; rw [if_pos hn]; omega)
    go_enter Try.func30, Try.ntmps30
    go_wp2_with (go_at_call 25; refine (refnum_int _ (by omega) (by omega) _).mono ?_; rintro e w' ⟨rfl, hb⟩)
    go_ret
    exact ⟨ret_str (by rw [hE.out]), hb⟩
  · have hE : Hid ((2 * n).toNat = zig n) := Lib.hid (by unfold zig; rw [if_neg hn]; omega)
    go_enter Try.func30, Try.ntmps30
    go_wp2_with (go_at_call 25; refine (refnum_int _ (by omega) (by omega) _).mono ?_; rintro e w' ⟨rfl, hb⟩)
    go_ret
    exact ⟨ret_str (by rw [hE.out]), hb⟩

theorem text_any (s : ByteArray) (hs : s.size ≤ 4611686018427387904) (w : World) :
    Calls Try.prog 33 #[.string s] w fun e w' => e = .returned (.string (mkS (textB s.data.toList))) ∧ Below w.heap.size w w' := by
  have hl := dig_len8 s.size (by omega)
  have hz : (mkS (numB s.size)).size + s.size ≤ 9223372036854775807 := by rw [mkS_size]; simp [numB]; omega
  have hE : Hid (mkS (numB s.size) ++ s = mkS (textB s.data.toList)) := Lib.hid (by
    unfold textB; rw [← size_toList, ← mkS_append, mkS_toList])
  clear hl
  go_enter Try.func33, Try.ntmps33
  go_wp2_with (go_at_call 24; refine (num_any s.size (by omega) _).mono ?_; rintro e w' ⟨rfl, hb⟩)
  go_ret
  exact ⟨ret_str hE.out, hb⟩
theorem reftext_any (s : ByteArray) (hs : s.size ≤ 4611686018427387904) (w : World) :
    Calls Try.prog 34 #[.string s] w fun e w' => e = .returned (.string (mkS (textB s.data.toList))) ∧ Below w.heap.size w w' := by
  have hl := dig_len8 s.size (by omega)
  have hz : (mkS (numB s.size)).size + s.size ≤ 9223372036854775807 := by rw [mkS_size]; simp [numB]; omega
  have hE : Hid (mkS (numB s.size) ++ s = mkS (textB s.data.toList)) := Lib.hid (by
    unfold textB; rw [← size_toList, ← mkS_append, mkS_toList])
  clear hl
  go_enter Try.func34, Try.ntmps34
  go_wp2_with (go_at_call 25; refine (refnum_any s.size (by omega) _).mono ?_; rintro e w' ⟨rfl, hb⟩)
  go_ret
  exact ⟨ret_str hE.out, hb⟩

theorem getnum_eq (s : ByteArray) (hs : s.size ≤ 9223372036854775807) {n k e : Nat} (h : Hid (getNum s.data.toList = (n, k, e))) (w : World) :
    Calls Try.prog 22 #[.string s] w fun r w' => r = .returned (.tuple #[.int .u64 n, .int .i64 k, .int .i64 e]) ∧ Below w.heap.size w w' := by
  have := getnum_any s hs w
  rw [h.out] at this
  exact this
theorem refgetnum_eq (s : ByteArray) (hs : s.size ≤ 9223372036854775807) {n k e : Nat} (h : Hid (getNum s.data.toList = (n, k, e))) (w : World) :
    Calls Try.prog 23 #[.string s] w fun r w' => r = .returned (.tuple #[.int .u64 n, .int .i64 k, .int .i64 e]) ∧ w = w' := by
  have := refgetnum_any s hs w
  rw [h.out] at this
  exact this
theorem getNum_facts {l : List UInt8} {n k e : Nat} (h : getNum l = (n, k, e)) : n < 18446744073709551616 ∧ k ≤ l.length ∧ k ≤ 9 ∧ e ≤ 3 := by
  have h1 := getNum_lt l
  have h2 := getNum_le l
  have h3 := getNum_le9 l
  have h4 := getNum_ok l
  rw [h] at h1 h2 h3 h4
  simp only at h1 h2 h3 h4
  exact ⟨h1, h2, h3, by omega⟩

theorem u64_and1 (n : Nat) (h : n < 18446744073709551616) : bits .and .u64 (n : Int) 1 = ((n % 2 : Nat) : Int) := by
  have := bits_mask .u64 64 (by decide) (fun m h0 h1 => wrap_u64_id m h0 (by omega)) 1 (by decide) (n : Int) (by omega) (by omega)
  simpa using this
theorem i64_xor0 (a : Nat) (ha : a < 9223372036854775808) : bits .xor .i64 (a : Int) 0 = (a : Int) := by
  have ha' : a % 2 ^ IntKind.i64.bits = a := Nat.mod_eq_of_lt (show a < 2 ^ 64 by omega)
  have e0 : (0 : Int) = ((0 : Nat) : Int) := rfl
  rw [e0]
  simp only [bits, BitVec.ofInt_natCast, BitVec.toNat_xor, BitVec.toNat_ofNat, ha', Nat.zero_mod, Nat.xor_zero, IntKind.wrap_i64]
  omega
theorem i64_xorm1 (a : Nat) (ha : a < 9223372036854775808) : bits .xor .i64 (a : Int) (-1) = -(a : Int) - 1 := by
  have ha' : a % 2 ^ IntKind.i64.bits = a := Nat.mod_eq_of_lt (show a < 2 ^ 64 by omega)
  have e1 : (BitVec.ofInt IntKind.i64.bits (-1)).toNat = 18446744073709551615 := by decide
  simp only [bits, BitVec.ofInt_natCast, BitVec.toNat_xor, BitVec.toNat_ofNat, ha', e1]
  rw [ones64 _ (by omega), IntKind.wrap_i64]
  omega

theorem ret_tup3 {x y z x' y' z' : Value} (hx : x = x') (hy : y = y') (hz : z = z') : Ending.returned (.tuple #[x, y, z]) = .returned (.tuple #[x', y', z']) := by rw [hx, hy, hz]

theorem getsigned_any (s : ByteArray) (hs : s.size ≤ 9223372036854775807) {n k e : Nat} (h : Hid (getNum s.data.toList = (n, k, e))) (w : World) :
    Calls Try.prog 28 #[.string s] w fun r w' => r = .returned (.tuple #[.int .i64 (zag n), .int .i64 k, .int .i64 e]) ∧ Below w.heap.size w w' := by
  obtain ⟨hn, _, _, _⟩ := getNum_facts h.out
  have hand := u64_and1 n hn
  rcases Nat.mod_two_eq_zero_or_one n with h2 | h2
  · have hx := i64_xor0 (n / 2) (by omega)
    have hz : Hid (zag n = ((n / 2 : Nat) : Int)) := Lib.hid (by unfold zag; rw [if_neg (by omega)])
    rw [h2] at hand
    push_cast at hx
    go_enter Try.func28, Try.ntmps28
    go_wp2_with (go_at_call 22; refine (getnum_eq s hs h _).mono ?_; rintro e w' ⟨rfl, hb⟩)
    go_ret3
    exact ⟨ret_tup3 (by rw [hz.out]; rfl) rfl rfl, hb⟩
  · have hx := i64_xorm1 (n / 2) (by omega)
    have hz : Hid (zag n = -((n / 2 : Nat) : Int) - 1) := Lib.hid (by unfold zag; rw [if_pos (by omega)])
    rw [h2] at hand
    push_cast at hx
    go_enter Try.func28, Try.ntmps28
    go_wp2_with (go_at_call 22; refine (getnum_eq s hs h _).mono ?_; rintro e w' ⟨rfl, hb⟩)
    go_ret3
    exact ⟨ret_tup3 (by rw [hz.out]; rfl) rfl rfl, hb⟩

theorem refgetsigned_any (s : ByteArray) (hs : s.size ≤ 9223372036854775807) {n k e : Nat} (h : Hid (getNum s.data.toList = (n, k, e))) (w : World) :
    Calls Try.prog 29 #[.string s] w fun r w' => r = .returned (.tuple #[.int .i64 (zag n), .int .i64 k, .int .i64 e]) ∧ w = w' := by
  obtain ⟨hn, _, _, _⟩ := getNum_facts h.out
  rcases Nat.mod_two_eq_zero_or_one n with h2 | h2
  · have hz : Hid (zag n = ((n / 2 : Nat) : Int)) := Lib.hid (by unfold zag; rw [if_neg (by omega)])
    have ht : ((n : Int) % 2 == 1) = false := by rw [beq_eq_false_iff_ne]; omega
    go_enter Try.func29, Try.ntmps29
    go_wp2_with (go_at_call 23; refine (refgetnum_eq s hs h _).mono ?_; rintro e w' ⟨rfl, rfl⟩)
    go_ret3
    exact ⟨ret_tup3 (by rw [hz.out]; rfl) rfl rfl, rfl⟩
  · have hz : Hid (zag n = -((n / 2 : Nat) : Int) - 1) := Lib.hid (by unfold zag; rw [if_pos (by omega)])
    have ht : ((n : Int) % 2 == 1) = true := by rw [beq_iff_eq]; omega
    go_enter Try.func29, Try.ntmps29
    go_wp2_with (go_at_call 23; refine (refgetnum_eq s hs h _).mono ?_; rintro e w' ⟨rfl, rfl⟩)
    go_ret3
    exact ⟨ret_tup3 (by rw [hz.out]; rfl) rfl rfl, rfl⟩

theorem extract_mkS (s : ByteArray) (k n : Nat) : s.extract k (k + n) = mkS ((s.data.toList.drop k).take n) := by
  apply ByteArray.ext; apply Array.toList_inj.mp
  rw [extract_toList, mkS_data, List.drop_take]
  congr 1; omega

set_option maxHeartbeats 400000 in
theorem gettext_any (s : ByteArray) (hs : s.size ≤ 4611686018427387904) (most : Int) (hm : -9223372036854775808 ≤ most) (hm1 : most < 9223372036854775808) {n k e : Nat} (h : Hid (getNum s.data.toList = (n, k, e))) (w : World) :
    Calls Try.prog 31 #[.string s, .int .i64 most] w fun r w' => r = .returned (.tuple #[.string (mkS (getText s.data.toList most).1), .int .i64 (getText s.data.toList most).2.1, .int .i64 (getText s.data.toList most).2.2]) ∧ Below w.heap.size w w' := by
  obtain ⟨hn, hk, hk9, he3⟩ := getNum_facts h.out
  have hs9 : s.size ≤ 9223372036854775807 := by omega
  have hks : k ≤ s.size := by rw [size_toList]; exact hk
  clear hk
  by_cases he : e = 0
  · subst he
    by_cases h0 : most < 0
    · have hg : getText s.data.toList most = ([], 0, 8) := by unfold getText; rw [h.out]; simp [h0]
      have Hg := Lib.hid hg
      clear hg
      go_enter Try.func31, Try.ntmps31
      go_wp2_with (go_at_call 22; refine (getnum_eq s hs9 h _).mono ?_; rintro e w' ⟨rfl, hb⟩)
      go_ret3
      exact ⟨by rw [Hg.out]; rfl, hb⟩
    have h0' : 0 ≤ most := by omega
    by_cases h1 : most < n
    · have hg : getText s.data.toList most = ([], 0, 8) := by unfold getText; rw [h.out]; simp [h1]
      have Hg := Lib.hid hg
      clear hg
      go_enter Try.func31, Try.ntmps31
      go_wp2_with (go_at_call 22; refine (getnum_eq s hs9 h _).mono ?_; rintro e w' ⟨rfl, hb⟩)
      go_ret3
      exact ⟨by rw [Hg.out]; rfl, hb⟩
    have hsk : 0 ≤ (s.size : Int) - k := by omega
    by_cases h2 : s.size - k < n
    · have hg : getText s.data.toList most = ([], 0, 1) := by
        unfold getText; rw [h.out]; simp only [ne_eq, not_true_eq_false, if_false]
        rw [if_neg (by omega), if_pos (by rw [← size_toList]; exact h2)]
      have h2' : (s.size : Int) - k < n := by omega
      have Hg := Lib.hid hg
      clear hg
      go_enter Try.func31, Try.ntmps31
      go_wp2_with (go_at_call 22; refine (getnum_eq s hs9 h _).mono ?_; rintro e w' ⟨rfl, hb⟩)
      go_ret3
      exact ⟨by rw [Hg.out]; rfl, hb⟩
    · have hg : getText s.data.toList most = ((s.data.toList.drop k).take n, k + n, 0) := by
        unfold getText; rw [h.out]; simp only [ne_eq, not_true_eq_false, if_false]
        rw [if_neg (by omega), if_neg (by rw [← size_toList]; exact h2)]
      have h2' : (n : Int) ≤ (s.size : Int) - k := by omega
      have Hg := Lib.hid hg
      have He := Lib.hid (extract_mkS s k n)
      have hkn : (k : Int) + n ≤ s.size := by omega
      have hkn0 : (k : Int) ≤ (k : Int) + n := by omega
      have hkt : ((k : Int) + n).toNat = k + n := by omega
      clear hg
      go_enter Try.func31, Try.ntmps31
      go_wp2_with (go_at_call 22; refine (getnum_eq s hs9 h _).mono ?_; rintro e w' ⟨rfl, hb⟩)
      go_ret3
      exact ⟨by rw [Hg.out]; exact ret_tup3 (by rw [← He.out]; rfl) rfl rfl, hb⟩
  · have hne : ((e : Int) != 0) = true := by rw [bne_iff_ne]; omega
    have hg : getText s.data.toList most = ([], 0, e) := by unfold getText; rw [h.out]; simp [he]
    have Hg := Lib.hid hg
    clear hg
    go_enter Try.func31, Try.ntmps31
    go_wp2_with (go_at_call 22; refine (getnum_eq s hs9 h _).mono ?_; rintro e w' ⟨rfl, hb⟩)
    go_ret3
    exact ⟨by rw [Hg.out]; rfl, hb⟩
set_option maxHeartbeats 400000 in
theorem refgettext_any (s : ByteArray) (hs : s.size ≤ 4611686018427387904) (most : Int) (hm : -9223372036854775808 ≤ most) (hm1 : most < 9223372036854775808) {n k e : Nat} (h : Hid (getNum s.data.toList = (n, k, e))) (w : World) :
    Calls Try.prog 32 #[.string s, .int .i64 most] w fun r w' => r = .returned (.tuple #[.string (mkS (getText s.data.toList most).1), .int .i64 (getText s.data.toList most).2.1, .int .i64 (getText s.data.toList most).2.2]) ∧ w = w' := by
  obtain ⟨hn, hk, hk9, he3⟩ := getNum_facts h.out
  have hs9 : s.size ≤ 9223372036854775807 := by omega
  have hks : k ≤ s.size := by rw [size_toList]; exact hk
  clear hk
  by_cases he : e = 0
  · subst he
    by_cases h0 : most < 0
    · have hg : getText s.data.toList most = ([], 0, 8) := by unfold getText; rw [h.out]; simp [h0]
      have Hg := Lib.hid hg
      clear hg
      go_enter Try.func32, Try.ntmps32
      go_wp2_with (go_at_call 23; refine (refgetnum_eq s hs9 h _).mono ?_; rintro e w' ⟨rfl, rfl⟩)
      go_ret3
      exact ⟨by rw [Hg.out]; rfl, rfl⟩
    have h0' : 0 ≤ most := by omega
    by_cases h1 : most < n
    · have hg : getText s.data.toList most = ([], 0, 8) := by unfold getText; rw [h.out]; simp [h1]
      have Hg := Lib.hid hg
      clear hg
      go_enter Try.func32, Try.ntmps32
      go_wp2_with (go_at_call 23; refine (refgetnum_eq s hs9 h _).mono ?_; rintro e w' ⟨rfl, rfl⟩)
      go_ret3
      exact ⟨by rw [Hg.out]; rfl, rfl⟩
    have hsk : 0 ≤ (s.size : Int) - k := by omega
    by_cases h2 : s.size - k < n
    · have hg : getText s.data.toList most = ([], 0, 1) := by
        unfold getText; rw [h.out]; simp only [ne_eq, not_true_eq_false, if_false]
        rw [if_neg (by omega), if_pos (by rw [← size_toList]; exact h2)]
      have h2' : (s.size : Int) - k < n := by omega
      have Hg := Lib.hid hg
      clear hg
      go_enter Try.func32, Try.ntmps32
      go_wp2_with (go_at_call 23; refine (refgetnum_eq s hs9 h _).mono ?_; rintro e w' ⟨rfl, rfl⟩)
      go_ret3
      exact ⟨by rw [Hg.out]; rfl, rfl⟩
    · have hg : getText s.data.toList most = ((s.data.toList.drop k).take n, k + n, 0) := by
        unfold getText; rw [h.out]; simp only [ne_eq, not_true_eq_false, if_false]
        rw [if_neg (by omega), if_neg (by rw [← size_toList]; exact h2)]
      have h2' : (n : Int) ≤ (s.size : Int) - k := by omega
      have Hg := Lib.hid hg
      have He := Lib.hid (extract_mkS s k n)
      have hkn : (k : Int) + n ≤ s.size := by omega
      have hkn0 : (k : Int) ≤ (k : Int) + n := by omega
      have hkt : ((k : Int) + n).toNat = k + n := by omega
      clear hg
      go_enter Try.func32, Try.ntmps32
      go_wp2_with (go_at_call 23; refine (refgetnum_eq s hs9 h _).mono ?_; rintro e w' ⟨rfl, rfl⟩)
      go_ret3
      exact ⟨by rw [Hg.out]; exact ret_tup3 (by rw [← He.out]; rfl) rfl rfl, rfl⟩
  · have hne : ((e : Int) != 0) = true := by rw [bne_iff_ne]; omega
    have hg : getText s.data.toList most = ([], 0, e) := by unfold getText; rw [h.out]; simp [he]
    have Hg := Lib.hid hg
    clear hg
    go_enter Try.func32, Try.ntmps32
    go_wp2_with (go_at_call 23; refine (refgetnum_eq s hs9 h _).mono ?_; rintro e w' ⟨rfl, rfl⟩)
    go_ret3
    exact ⟨by rw [Hg.out]; rfl, rfl⟩
end Go.Proofs.Ytoihalkbampdnaa
