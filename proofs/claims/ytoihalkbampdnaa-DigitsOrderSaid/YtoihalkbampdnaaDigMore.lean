/- The laws DigitsSizes and DigitsOrder, walked. -/
import Derived.Test.YtoihalkbampdnaaDigLaws
import Derived.Test.YtoihalkbampdnaaDigOrd
import Derived.WalkLawsBesides
namespace Go.Proofs.Ytoihalkbampdnaa
open Go.RowKit Dig

set_option maxHeartbeats 1000000 in
theorem digitsSizes_walk (n0 m : Int) (hn : (Lit.int .u64 n0).wf = true) (hm : (Lit.int .i64 m).wf = true) (w : World) :
    Calls Try.prog 9 #[.int .u64 n0, .int .i64 m] w fun e w' => e = .returned (.bool true) ∧ Below w.heap.size w w' := by
  obtain ⟨h0, h1⟩ := wf_u64 hn
  obtain ⟨m0, m1⟩ := wf_i64 hm
  obtain ⟨N, rfl⟩ := Int.eq_ofNat_of_zero_le h0
  have hN : N < 18446744073709551616 := by omega
  have HB := Below.refl w.heap.size w
  clear hn hm h0 h1
  go_enter Try.func9, Try.ntmps9
  go_wp2_with (go_at_call 26; refine (works01_any _).mono ?_; rintro e w' ⟨rfl, hb⟩; replace HB := below_tr HB hb; clear hb)
  go_loop [5, 6] (fun k x => ∃ (a b : Nat), k = .int .i64 a ∧ x = .int .u64 b ∧ b < 18446744073709551616 ∧ Hid ((dig N).length = a + (dig b).length)) (fun _ x => (intOf x).toNat)
  case atStart => exact ⟨0, N, rfl, rfl, hN, Lib.hid (by omega)⟩
  case round =>
    obtain ⟨a, b, rfl, rfl, hb, hd⟩ := hrel
    have hl8 := dig_len8 N hN
    have hl := hd.out
    have ha : a ≤ 8 := by omega
    clear hl hl8
    by_cases hpos : 0 < b
    · go_wp2
      go_round
      case rel => exact ⟨a + 1, b / 256, by go_num, by go_num, by omega, Lib.hid (by rw [hd.out, dig_pos b hpos]; simp; omega)⟩
      case measure => simp [intOf]; omega
    · obtain rfl : b = 0 := by omega
      have hlen : (dig N).length = a := by rw [hd.out, dig_zero]; rfl
      have hsz : (mkS (numB N)).size = a + 1 := by rw [mkS_size, numB_len, hlen]
      have hpos0 : 0 < (mkS (numB N)).size := by omega
      have hhead : (mkS (numB N))[0] = UInt8.ofNat a := by rw [str_cons _ _ _ (mkS_data (numB N)) hpos0, hlen]
      obtain ⟨y, hy, hy2⟩ : ∃ y : UInt8, Hid (y = UInt8.ofNat a) ∧ ((y.toNat : Nat) : Int) = a := ⟨_, Lib.hid rfl, by rw [UInt8.toNat_ofNat']; omega⟩
      rw [← hy.out] at hhead
      have Hl := Lib.hid hlen
      clear hlen
      by_cases hm0 : m < 0
      · have hz : Hid ((-(m + 1) * 2 + 1).toNat = zig m) := Lib.hid (by unfold zig; rw [if_pos hm0]; omega)
        go_wp2_with (first
          | (go_at_call 24; (with_reducible refine (num_any N hN _).mono ?_); rintro e w' ⟨rfl, hb⟩; replace HB := below_tr HB hb; clear hb)
          | (go_at_call 27; refine (signed_any m m0 m1 _).mono ?_; rintro e w' ⟨rfl, hb⟩; replace HB := below_tr HB hb; clear hb)
          | (go_at_call 24; refine (num_int _ (by omega) (by omega) _).mono ?_; rintro e w' ⟨rfl, hb⟩; replace HB := below_tr HB hb; clear hb))
        go_ret
        exact ⟨ret_bool (by rw [hz.out]; simp), HB⟩
      · have hz : Hid ((m * 2).toNat = zig m) := Lib.hid (by unfold zig; rw [if_neg hm0]; omega)
        have hm0' : 0 ≤ m := by omega
        go_wp2_with (first
          | (go_at_call 24; (with_reducible refine (num_any N hN _).mono ?_); rintro e w' ⟨rfl, hb⟩; replace HB := below_tr HB hb; clear hb)
          | (go_at_call 27; refine (signed_any m m0 m1 _).mono ?_; rintro e w' ⟨rfl, hb⟩; replace HB := below_tr HB hb; clear hb)
          | (go_at_call 24; refine (num_int _ (by omega) (by omega) _).mono ?_; rintro e w' ⟨rfl, hb⟩; replace HB := below_tr HB hb; clear hb))
        go_ret
        exact ⟨ret_bool (by rw [hz.out]; simp), HB⟩

theorem digitsOrder_walk (a0 b0 : Int) (ha : (Lit.int .u64 a0).wf = true) (hb : (Lit.int .u64 b0).wf = true) (w : World) :
    Calls Try.prog 8 #[.int .u64 a0, .int .u64 b0] w fun e w' => e = .returned (.bool true) ∧ Below w.heap.size w w' := by
  obtain ⟨a0, a1⟩ := wf_u64 ha
  obtain ⟨b0, b1⟩ := wf_u64 hb
  obtain ⟨A, rfl⟩ := Int.eq_ofNat_of_zero_le a0
  obtain ⟨B, rfl⟩ := Int.eq_ofNat_of_zero_le b0
  have hA : A < 18446744073709551616 := by omega
  have hB : B < 18446744073709551616 := by omega
  have HB := Below.refl w.heap.size w
  clear ha hb a0 b0 a1 b1
  have hless : Op.bytesLess (mkS (numB A)).toList (mkS (numB B)).toList = decide (A < B) := by
    rw [ByteArray.toList_eq, ByteArray.toList_eq, mkS_data, mkS_data, less_numB A B hA hB]
  have heq : Hid (((mkS (numB A)).toList == (mkS (numB B)).toList) = ((A : Int) == (B : Int))) := Lib.hid (by
    rw [ByteArray.toList_eq, ByteArray.toList_eq, mkS_data, mkS_data]
    by_cases h : A = B
    · subst h; simp
    · have h1 : ¬ numB A = numB B := fun e => h ((numB_inj A B).mp e)
      have h2 : ¬ (A : Int) = B := by omega
      rw [beq_eq_false_iff_ne.mpr h1, beq_eq_false_iff_ne.mpr h2])
  go_enter Try.func8, Try.ntmps8
  go_wp2_with (first
    | (go_at_call 26; refine (works01_any _).mono ?_; rintro e w' ⟨rfl, hb⟩; replace HB := below_tr HB hb; clear hb)
    | (go_at_call 24; (with_reducible refine (num_any A hA _).mono ?_); rintro e w' ⟨rfl, hb⟩; replace HB := below_tr HB hb; clear hb)
    | (go_at_call 24; (with_reducible refine (num_any B hB _).mono ?_); rintro e w' ⟨rfl, hb⟩; replace HB := below_tr HB hb; clear hb))
  go_ret
  exact ⟨ret_bool (by rw [heq.out]; simp), HB⟩
end Go.Proofs.Ytoihalkbampdnaa
