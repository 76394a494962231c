/- Contracts of digits: numbers and texts, of the program and of the document. -/
import Derived.Test.YtjmcpdhfefcdgaaDoorDigN
namespace Go.Proofs.YtjmcpdhfefcdgaaDoor
open Go.RowKit Dig

theorem mul_add_w (v : Nat) (hv : v < 256 ^ 7) (b : UInt8) : IntKind.u64.wrap (IntKind.u64.wrap (256 * (v : Int)) + IntKind.u64.wrap (b.toNat : Int)) = ((256 * v + b.toNat : Nat) : Int) := by
  have hb := b.toNat_lt
  have h7 : (256 : Nat) ^ 7 = 72057594037927936 := by decide
  rw [wrap_u64_id (256 * (v : Int)) (by omega) (by omega), wrap_u64_id (b.toNat : Int) (by omega) (by omega), wrap_u64_id _ (by omega) (by omega)]
  omega

theorem refgetnum_any (s : ByteArray) (hs : s.size ≤ 9223372036854775807) (w : World) :
    Calls Tryd.prog 65 #[.string s] w fun e w' => e = .returned (.tuple #[.int .u64 (getNum s.data.toList).1, .int .i64 (getNum s.data.toList).2.1, .int .i64 (getNum s.data.toList).2.2]) ∧ w = w' := by
  cases hl : s.data.toList with
  | nil =>
    have he := isEmpty_true hl
    have HL := Lib.hid hl
    clear hl
    go_enter Tryd.func65, Tryd.ntmps65
    go_wp2
    go_ret3
    exact ⟨rfl, rfl⟩
  | cons c rest =>
    have hsz : s.size = rest.length + 1 := by rw [size_toList, hl]; rfl
    have h0 : 0 < s.size := by omega
    have hc := str_cons s c rest hl h0
    have hcl := c.toNat_lt
    have HL := Lib.hid hl
    have he := isEmpty_false h0
    clear hl
    by_cases h8 : 8 < c.toNat
    · have h8' : (8 : Int) < c.toNat := by omega
      go_enter Tryd.func65, Tryd.ntmps65
      go_wp2
      go_ret3
      exact ⟨ret_num (n := 0) (k := 0) (e := 2) (by simp only [getNum, if_pos h8]) rfl rfl rfl, rfl⟩
    have h8' : (c.toNat : Int) ≤ 8 := by omega
    by_cases hlen : rest.length < c.toNat
    · have hlen' : (rest.length : Int) + 1 ≤ c.toNat := by omega
      go_enter Tryd.func65, Tryd.ntmps65
      go_wp2
      go_ret3
      exact ⟨ret_num (n := 0) (k := 0) (e := 1) (by simp only [getNum, if_neg h8, if_pos hlen]) rfl rfl rfl, rfl⟩
    have hlen' : ¬ (rest.length : Int) + 1 ≤ c.toNat := by omega
    by_cases hz : 0 < c.toNat ∧ rest.head? = some 0
    · have hz1 := hz.1
      have hz2 : 1 < s.size := by omega
      have hz3 : s[1] = 0 := by
        rw [str_get s _ HL.out 1 hz2 (by simp; omega)]
        have h2 := hz.2
        rw [List.head?_eq_getElem?, List.getElem?_eq_getElem (by omega)] at h2
        exact Option.some.inj h2
      have Hz := Lib.hid hz
      clear hz
      go_enter Tryd.func65, Tryd.ntmps65
      go_wp2
      go_ret3
      exact ⟨ret_num (n := 0) (k := 0) (e := 3) (by simp only [getNum, if_neg h8, if_neg hlen, if_pos Hz.out]) rfl rfl rfl, rfl⟩
    have hg : getNum (c :: rest) = (val (rest.take c.toNat), c.toNat + 1, 0) := by
      simp only [getNum, if_neg h8, if_neg hlen, if_neg hz]
    have htest : ∀ h : 1 < s.size, 0 < c.toNat → (((s[1].toNat : Nat) : Int) == 0) = false := by
      intro h h2
      rw [u8_beq0]
      apply decide_eq_false
      intro e
      apply hz
      refine ⟨h2, ?_⟩
      rw [str_get s _ HL.out 1 h (by simp; omega)] at e
      rw [List.head?_eq_getElem?, List.getElem?_eq_getElem (by omega)]
      simpa using e
    have hsz1 : 0 < c.toNat → 1 < s.size := fun h => by omega
    have Hz := Lib.hid hz
    have Hg := Lib.hid hg
    have Hsz := Lib.hid hsz
    clear hz hg
    go_enter Tryd.func65, Tryd.ntmps65
    go_upto_region 12 with (fail)
    all_goals
      clear htest hsz1
      go_loop [6, 7] (fun v i => ∃ j : Nat, j ≤ c.toNat ∧ i = .int .i64 ((j + 1 : Nat) : Int) ∧ v = .int .u64 (val (rest.take j))) (fun _ i => c.toNat + 1 - (intOf i).toNat)
      case atStart => exact ⟨0, by omega, rfl, rfl⟩
      case round =>
        obtain ⟨j, hj, rfl, rfl⟩ := hrel
        by_cases hlt : j < c.toNat
        · have hjr : j < rest.length := by omega
          have hjs : j + 1 < s.size := by have := Hsz.out; omega
          have hsj : s[j + 1] = rest[j] := by rw [str_get s _ HL.out (j + 1) hjs (by simp; omega)]; rfl
          have hle : ((j + 1 : Nat) : Int) ≤ c.toNat := by omega
          go_wp2
          all_goals
            go_round
            case rel =>
              refine ⟨j + 1, by omega, by go_num, ?_⟩
              rw [List.take_succ_eq_append_getElem hjr, val_snoc, mul_add_w _ (val_take_lt rest j (by omega))]
            case measure => simp [intOf]; omega
        · obtain rfl : j = c.toNat := by omega
          go_wp2
          go_ret3
          exact ⟨ret_num Hg.out rfl rfl rfl, rfl⟩

theorem ones64 (c : Nat) (hc : c < 18446744073709551616) : c ^^^ 18446744073709551615 = 18446744073709551615 - c := by
  have h1 : (BitVec.ofNat 64 c) ^^^ (BitVec.allOnes 64) = ~~~ (BitVec.ofNat 64 c) := BitVec.xor_allOnes
  have h2 := congrArg BitVec.toNat h1
  simp only [BitVec.toNat_xor, BitVec.toNat_not, BitVec.toNat_ofNat, BitVec.toNat_allOnes] at h2
  rw [Nat.mod_eq_of_lt (show c < 2 ^ 64 from hc)] at h2
  have h3 : (2 ^ 64 - 1 - c : Nat) = 18446744073709551615 - c := by omega
  rw [h3] at h2
  exact h2

theorem dtext_any (s : ByteArray) (hs : s.size ≤ 4611686018427387904) (w : World) :
    Calls Tryd.prog 26 #[.string s] w fun e w' => e = .returned (.string (mkS (textB s.data.toList))) ∧ Below w.heap.size w w' := by
  have hl := dig_len8 s.size (by omega)
  have hz : (mkS (numB s.size)).size + s.size ≤ 9223372036854775807 := by rw [mkS_size]; simp [numB]; omega
  have hE : Hid (mkS (numB s.size) ++ s = mkS (textB s.data.toList)) := Lib.hid (by
    unfold textB; rw [← size_toList, ← mkS_append, mkS_toList])
  clear hl
  go_enter Tryd.func26, Tryd.ntmps26
  go_wp2_with (go_at_call 21; refine (num_any s.size (by omega) _).mono ?_; rintro e w' ⟨rfl, hb⟩)
  go_ret
  exact ⟨ret_str hE.out, hb⟩
theorem dreftext_any (s : ByteArray) (hs : s.size ≤ 4611686018427387904) (w : World) :
    Calls Tryd.prog 31 #[.string s] w fun e w' => e = .returned (.string (mkS (textB s.data.toList))) ∧ Below w.heap.size w w' := by
  have hl := dig_len8 s.size (by omega)
  have hz : (mkS (numB s.size)).size + s.size ≤ 9223372036854775807 := by rw [mkS_size]; simp [numB]; omega
  have hE : Hid (mkS (numB s.size) ++ s = mkS (textB s.data.toList)) := Lib.hid (by
    unfold textB; rw [← size_toList, ← mkS_append, mkS_toList])
  clear hl
  go_enter Tryd.func31, Tryd.ntmps31
  go_wp2_with (go_at_call 27; refine (refnum_any s.size (by omega) _).mono ?_; rintro e w' ⟨rfl, hb⟩)
  go_ret
  exact ⟨ret_str hE.out, hb⟩

theorem refgetnum_eq (s : ByteArray) (hs : s.size ≤ 9223372036854775807) {n k e : Nat} (h : Hid (getNum s.data.toList = (n, k, e))) (w : World) :
    Calls Tryd.prog 65 #[.string s] w fun r w' => r = .returned (.tuple #[.int .u64 n, .int .i64 k, .int .i64 e]) ∧ w = w' := by
  have := refgetnum_any s hs w
  rw [h.out] at this
  exact this
theorem u64_and1 (n : Nat) (h : n < 18446744073709551616) : bits .and .u64 (n : Int) 1 = ((n % 2 : Nat) : Int) := by
  have := bits_mask .u64 64 (by decide) (fun m h0 h1 => wrap_u64_id m h0 (by omega)) 1 (by decide) (n : Int) (by omega) (by omega)
  simpa using this
theorem i64_xor0 (a : Nat) (ha : a < 9223372036854775808) : bits .xor .i64 (a : Int) 0 = (a : Int) := by
  have ha' : a % 2 ^ IntKind.i64.bits = a := Nat.mod_eq_of_lt (show a < 2 ^ 64 by omega)
  have e0 : (0 : Int) = ((0 : Nat) : Int) := rfl
  rw [e0]
  simp only [bits, BitVec.ofInt_natCast, BitVec.toNat_xor, BitVec.toNat_ofNat, ha', Nat.zero_mod, Nat.xor_zero, IntKind.wrap_i64]
  omega
theorem i64_xorm1 (a : Nat) (ha : a < 9223372036854775808) : bits .xor .i64 (a : Int) (-1) = -(a : Int) - 1 := by
  have ha' : a % 2 ^ IntKind.i64.bits = a := Nat.mod_eq_of_lt (show a < 2 ^ 64 by omega)
  have e1 : (BitVec.ofInt IntKind.i64.bits (-1)).toNat = 18446744073709551615 := by decide
  simp only [bits, BitVec.ofInt_natCast, BitVec.toNat_xor, BitVec.toNat_ofNat, ha', e1]
  rw [ones64 _ (by omega), IntKind.wrap_i64]
  omega

set_option maxHeartbeats 400000 in
theorem gettext_any (s : ByteArray) (hs : s.size ≤ 4611686018427387904) (most : Int) (hm : -9223372036854775808 ≤ most) (hm1 : most < 9223372036854775808) {n k e : Nat} (h : Hid (getNum s.data.toList = (n, k, e))) (w : World) :
    Calls Tryd.prog 70 #[.string s, .int .i64 most] w fun r w' => r = .returned (.tuple #[.string (mkS (getText s.data.toList most).1), .int .i64 (getText s.data.toList most).2.1, .int .i64 (getText s.data.toList most).2.2]) ∧ Below w.heap.size w w' := by
  obtain ⟨hn, hk, hk9, he3⟩ := getNum_facts h.out
  have hs9 : s.size ≤ 9223372036854775807 := by omega
  have hks : k ≤ s.size := by rw [size_toList]; exact hk
  clear hk
  by_cases he : e = 0
  · subst he
    by_cases h0 : most < 0
    · have hg : getText s.data.toList most = ([], 0, 8) := by unfold getText; rw [h.out]; simp [h0]
      have Hg := Lib.hid hg
      clear hg
      go_enter Tryd.func70, Tryd.ntmps70
      go_wp2_with (go_at_call 61; refine (getnum_eq s hs9 h _).mono ?_; rintro e w' ⟨rfl, hb⟩)
      go_ret3
      exact ⟨by rw [Hg.out]; rfl, hb⟩
    have h0' : 0 ≤ most := by omega
    by_cases h1 : most < n
    · have hg : getText s.data.toList most = ([], 0, 8) := by unfold getText; rw [h.out]; simp [h1]
      have Hg := Lib.hid hg
      clear hg
      go_enter Tryd.func70, Tryd.ntmps70
      go_wp2_with (go_at_call 61; refine (getnum_eq s hs9 h _).mono ?_; rintro e w' ⟨rfl, hb⟩)
      go_ret3
      exact ⟨by rw [Hg.out]; rfl, hb⟩
    have hsk : 0 ≤ (s.size : Int) - k := by omega
    by_cases h2 : s.size - k < n
    · have hg : getText s.data.toList most = ([], 0, 1) := by
        unfold getText; rw [h.out]; simp only [ne_eq, not_true_eq_false, if_false]
        rw [if_neg (by omega), if_pos (by rw [← size_toList]; exact h2)]
      have h2' : (s.size : Int) - k < n := by omega
      have Hg := Lib.hid hg
      clear hg
      go_enter Tryd.func70, Tryd.ntmps70
      go_wp2_with (go_at_call 61; refine (getnum_eq s hs9 h _).mono ?_; rintro e w' ⟨rfl, hb⟩)
      go_ret3
      exact ⟨by rw [Hg.out]; rfl, hb⟩
    · have hg : getText s.data.toList most = ((s.data.toList.drop k).take n, k + n, 0) := by
        unfold getText; rw [h.out]; simp only [ne_eq, not_true_eq_false, if_false]
        rw [if_neg (by omega), if_neg (by rw [← size_toList]; exact h2)]
      have h2' : (n : Int) ≤ (s.size : Int) - k := by omega
      have Hg := Lib.hid hg
      have He := Lib.hid (extract_mkS s k n)
      have hkn : (k : Int) + n ≤ s.size := by omega
      have hkn0 : (k : Int) ≤ (k : Int) + n := by omega
      have hkt : ((k : Int) + n).toNat = k + n := by omega
      clear hg
      go_enter Tryd.func70, Tryd.ntmps70
      go_wp2_with (go_at_call 61; refine (getnum_eq s hs9 h _).mono ?_; rintro e w' ⟨rfl, hb⟩)
      go_ret3
      exact ⟨by rw [Hg.out]; exact ret_tup3 (by rw [← He.out]; rfl) rfl rfl, hb⟩
  · have hne : ((e : Int) != 0) = true := by rw [bne_iff_ne]; omega
    have hg : getText s.data.toList most = ([], 0, e) := by unfold getText; rw [h.out]; simp [he]
    have Hg := Lib.hid hg
    clear hg
    go_enter Tryd.func70, Tryd.ntmps70
    go_wp2_with (go_at_call 61; refine (getnum_eq s hs9 h _).mono ?_; rintro e w' ⟨rfl, hb⟩)
    go_ret3
    exact ⟨by rw [Hg.out]; rfl, hb⟩
set_option maxHeartbeats 400000 in
theorem refgettext_any (s : ByteArray) (hs : s.size ≤ 4611686018427387904) (most : Int) (hm : -9223372036854775808 ≤ most) (hm1 : most < 9223372036854775808) {n k e : Nat} (h : Hid (getNum s.data.toList = (n, k, e))) (w : World) :
    Calls Tryd.prog 66 #[.string s, .int .i64 most] w fun r w' => r = .returned (.tuple #[.string (mkS (getText s.data.toList most).1), .int .i64 (getText s.data.toList most).2.1, .int .i64 (getText s.data.toList most).2.2]) ∧ w = w' := by
  obtain ⟨hn, hk, hk9, he3⟩ := getNum_facts h.out
  have hs9 : s.size ≤ 9223372036854775807 := by omega
  have hks : k ≤ s.size := by rw [size_toList]; exact hk
  clear hk
  by_cases he : e = 0
  · subst he
    by_cases h0 : most < 0
    · have hg : getText s.data.toList most = ([], 0, 8) := by unfold getText; rw [h.out]; simp [h0]
      have Hg := Lib.hid hg
      clear hg
      go_enter Tryd.func66, Tryd.ntmps66
      go_wp2_with (go_at_call 65; refine (refgetnum_eq s hs9 h _).mono ?_; rintro e w' ⟨rfl, rfl⟩)
      go_ret3
      exact ⟨by rw [Hg.out]; rfl, rfl⟩
    have h0' : 0 ≤ most := by omega
    by_cases h1 : most < n
    · have hg : getText s.data.toList most = ([], 0, 8) := by unfold getText; rw [h.out]; simp [h1]
      have Hg := Lib.hid hg
      clear hg
      go_enter Tryd.func66, Tryd.ntmps66
      go_wp2_with (go_at_call 65; refine (refgetnum_eq s hs9 h _).mono ?_; rintro e w' ⟨rfl, rfl⟩)
      go_ret3
      exact ⟨by rw [Hg.out]; rfl, rfl⟩
    have hsk : 0 ≤ (s.size : Int) - k := by omega
    by_cases h2 : s.size - k < n
    · have hg : getText s.data.toList most = ([], 0, 1) := by
        unfold getText; rw [h.out]; simp only [ne_eq, not_true_eq_false, if_false]
        rw [if_neg (by omega), if_pos (by rw [← size_toList]; exact h2)]
      have h2' : (s.size : Int) - k < n := by omega
      have Hg := Lib.hid hg
      clear hg
      go_enter Tryd.func66, Tryd.ntmps66
      go_wp2_with (go_at_call 65; refine (refgetnum_eq s hs9 h _).mono ?_; rintro e w' ⟨rfl, rfl⟩)
      go_ret3
      exact ⟨by rw [Hg.out]; rfl, rfl⟩
    · have hg : getText s.data.toList most = ((s.data.toList.drop k).take n, k + n, 0) := by
        unfold getText; rw [h.out]; simp only [ne_eq, not_true_eq_false, if_false]
        rw [if_neg (by omega), if_neg (by rw [← size_toList]; exact h2)]
      have h2' : (n : Int) ≤ (s.size : Int) - k := by omega
      have Hg := Lib.hid hg
      have He := Lib.hid (extract_mkS s k n)
      have hkn : (k : Int) + n ≤ s.size := by omega
      have hkn0 : (k : Int) ≤ (k : Int) + n := by omega
      have hkt : ((k : Int) + n).toNat = k + n := by omega
      clear hg
      go_enter Tryd.func66, Tryd.ntmps66
      go_wp2_with (go_at_call 65; refine (refgetnum_eq s hs9 h _).mono ?_; rintro e w' ⟨rfl, rfl⟩)
      go_ret3
      exact ⟨by rw [Hg.out]; exact ret_tup3 (by rw [← He.out]; rfl) rfl rfl, rfl⟩
  · have hne : ((e : Int) != 0) = true := by rw [bne_iff_ne]; omega
    have hg : getText s.data.toList most = ([], 0, e) := by unfold getText; rw [h.out]; simp [he]
    have Hg := Lib.hid hg
    clear hg
    go_enter Tryd.func66, Tryd.ntmps66
    go_wp2_with (go_at_call 65; refine (refgetnum_eq s hs9 h _).mono ?_; rintro e w' ⟨rfl, rfl⟩)
    go_ret3
    exact ⟨by rw [Hg.out]; rfl, rfl⟩
end Go.Proofs.YtjmcpdhfefcdgaaDoor
