/- Contracts of the check sum's functions. -/
import Derived.Test.YtmaebileagfdaaaProg
import Derived.Test.YtmaebileagfdaaaCrc
import Derived.Test.YtmaebileagfdaaaBase
namespace Go.Proofs.Ytmaebileagfdaaa
open Go.RowKit Crc

theorem step_any (c : Nat) (hc : c < 4294967296) (w : World) (b : Nat)
    (h0 : w.cell? ⟨b, 0, none⟩ = some (.int .u32 0)) (h1 : w.cell? ⟨b, 1, none⟩ = some (.int .u32 2197175160)) :
    Calls Try.prog 69 #[.pointer (some ⟨b, 0, none⟩), .int .u32 c] w fun e w' => e = .returned (.int .u32 (stepN c)) ∧ w = w' := by
  have hand := u32_and1 c hc
  rcases Nat.mod_two_eq_zero_or_one c with h | h
  · have hx := Go.u32_xor (c / 2) 0 (by omega) (by omega)
    rw [h] at hand
    have hs : stepN c = c / 2 ^^^ 0 := by unfold stepN; rw [h]; simp
    rw [hs]
    clear hs
    go_enter Try.func69, Try.ntmps69
    go_wp2
    go_ret
    exact ⟨ret_int (by simp; omega), rfl⟩
  · have hx := Go.u32_xor (c / 2) 2197175160 (by omega) (by omega)
    rw [h] at hand
    have hs : stepN c = c / 2 ^^^ 2197175160 := by unfold stepN; rw [h]; simp [poly]
    rw [hs]
    clear hs
    go_enter Try.func69, Try.ntmps69
    go_wp2
    go_ret
    exact ⟨ret_int (by simp), rfl⟩

theorem lnot32 (c : Nat) (hc : c < 4294967296) : bits BinOp.xor IntKind.u32 IntKind.u32.max (c : Int) = 4294967295 - (c : Int) := by
  have e : (4294967295 : Nat) ^^^ c = 4294967295 - c := by
    have h1 : (BitVec.allOnes 32) ^^^ (BitVec.ofNat 32 c) = ~~~ (BitVec.ofNat 32 c) := BitVec.allOnes_xor
    have h2 := congrArg BitVec.toNat h1
    simp only [BitVec.toNat_xor, BitVec.toNat_not, BitVec.toNat_ofNat, BitVec.toNat_allOnes] at h2
    rw [Nat.mod_eq_of_lt (show c < 2 ^ 32 from hc)] at h2
    have h3 : (2 ^ 32 - 1 - c : Nat) = 4294967295 - c := by omega
    rw [h3] at h2
    exact h2
  have h := Crc.u32_xor 4294967295 c (by omega) hc
  rw [e] at h
  have h4 : IntKind.u32.max = ((4294967295 : Nat) : Int) := by decide
  rw [h4, h]
  omega

theorem more_any (c : Nat) (hc : c < 4294967296) (s : ByteArray) (hs : s.size ≤ 9223372036854775807) (w : World) :
    Calls Try.prog 62 #[.int .u32 c, .string s] w fun e w' => e = .returned (.int .u32 (moreN c s.data.toList)) ∧ Below w.heap.size w w' := by
  have hn := lnot32 c hc
  go_enter Try.func62, Try.ntmps62
  go_wp2
  go_loop [0, 6, 12] (fun x _ i => ∃ k : Nat, k ≤ s.size ∧ i = .int .i64 k ∧ x = .int .u32 (foldN (4294967295 - c) (s.data.toList.take k))) (fun _ _ i => s.size - (intOf i).toNat)
  case atStart => exact ⟨0, Nat.zero_le _, rfl, by simp [foldN]; omega⟩
  case round =>
    obtain ⟨k, hk, rfl, rfl⟩ := hrel
    have hf := foldN_lt (4294967295 - c) (s.data.toList.take k) (by omega)
    by_cases hlt : k < s.size
    · have hb := s[k].toNat_lt
      have hm : (s[k].toNat : Int) % 4294967296 = s[k].toNat := by omega
      have hx := Crc.u32_xor (foldN (4294967295 - c) (s.data.toList.take k)) s[k].toNat hf (by omega)
      have hxl := xor_lt (foldN (4294967295 - c) (s.data.toList.take k)) s[k].toNat hf (by omega)
      go_wp2
      clear hx hm hn
      go_loop [0, 21] (fun x i => ∃ j : Nat, j ≤ 8 ∧ i = .int .i64 j ∧ x = .int .u32 (stepsN j (foldN (4294967295 - c) (s.data.toList.take k) ^^^ s[k].toNat))) (fun _ i => 8 - (intOf i).toNat)
      case atStart => exact ⟨0, Nat.zero_le _, rfl, rfl⟩
      case round =>
        obtain ⟨j, hj, rfl, rfl⟩ := hrel
        have hsl := stepsN_lt j _ hxl
        by_cases hj8 : j < 8
        · go_wp2_with (go_at_call 69; refine (step_any _ hsl _ _ (by simp) (by simp)).mono ?_; rintro e w' ⟨rfl, rfl⟩)
          go_round
          case rel => exact ⟨j + 1, by omega, by go_num, rfl⟩
          case measure => simp [intOf]; omega
        · go_wp2
          go_round
          case rel =>
            obtain rfl : j = 8 := by omega
            refine ⟨k + 1, by omega, by go_num, ?_⟩
            rw [take_snoc s k hlt, foldN_snoc]; rfl
          case measure => simp [intOf]; omega
    · have hn2 := lnot32 _ hf
      go_wp2
      go_ret
      exact ⟨ret_int (by
        rw [List.take_of_length_le (by simp; omega)]
        unfold moreN
        have := foldN_lt (4294967295 - c) s.data.toList (by omega)
        omega), ((Below.refl _ _).alloc (Nat.le_refl _) _)⟩

theorem of_any (s : ByteArray) (hs : s.size ≤ 9223372036854775807) (w : World) :
    Calls Try.prog 40 #[.string s] w fun e w' => e = .returned (.int .u32 (moreN 0 s.data.toList)) ∧ Below w.heap.size w w' := by
  go_enter Try.func40, Try.ntmps40
  go_wp2_with (go_at_call 62; refine (more_any 0 (by omega) s hs _).mono ?_; rintro e w' ⟨rfl, hb⟩)
  go_ret
  exact ⟨rfl, hb⟩

theorem bytes_any (c : Nat) (hc : c < 4294967296) (w : World) :
    Calls Try.prog 43 #[.int .u32 c] w fun e w' => e = .returned (.string (mkS (sumB c))) ∧ Below w.heap.size w w' := by
  have kc := run_bytes_string_new (P := Try.prog) w 47 9 5 #[.int .u8 (c / 16777216), .int .u8 (c / 65536 % 256), .int .u8 (c / 256 % 256), .int .u8 (c % 256)] 4 4 (sumB c) (by kernel_rfl) (by kernel_rfl) (by kernel_rfl) rfl (by simp [sumB]; omega)
  go_enter Try.func43, Try.ntmps43
  go_wp2
  go_ret
  exact ⟨rfl, (Below.refl _ _).alloc (Nat.le_refl _) _⟩

theorem refmore_any (c : Nat) (hc : c < 4294967296) (s : ByteArray) (hs : s.size ≤ 9223372036854775807) (w : World) :
    Calls Try.prog 63 #[.int .u32 c, .string s] w fun e w' => e = .returned (.int .u32 (moreN c s.data.toList)) ∧ w = w' := by
  go_enter Try.func63, Try.ntmps63
  go_wp2
  go_loop [0, 5] (fun x i => ∃ k : Nat, k ≤ s.size ∧ i = .int .i64 k ∧ x = .int .u32 (foldN (4294967295 - c) (s.data.toList.take k))) (fun _ i => s.size - (intOf i).toNat)
  case atStart => exact ⟨0, Nat.zero_le _, rfl, by simp [foldN]; omega⟩
  case round =>
    obtain ⟨k, hk, rfl, rfl⟩ := hrel
    have hf := foldN_lt (4294967295 - c) (s.data.toList.take k) (by omega)
    by_cases hlt : k < s.size
    · have hb := s[k].toNat_lt
      have hm : (s[k].toNat : Int) % 4294967296 = s[k].toNat := by omega
      have hx := Crc.u32_xor (foldN (4294967295 - c) (s.data.toList.take k)) s[k].toNat hf (by omega)
      have hxl := xor_lt (foldN (4294967295 - c) (s.data.toList.take k)) s[k].toNat hf (by omega)
      go_wp2
      clear hx hm
      go_loop [0, 6, 7] (fun x i _ => ∃ j : Nat, j ≤ 8 ∧ i = .int .i64 j ∧ x = .int .u32 (stepsN j (foldN (4294967295 - c) (s.data.toList.take k) ^^^ s[k].toNat))) (fun _ i _ => 8 - (intOf i).toNat)
      case atStart => exact ⟨0, Nat.zero_le _, rfl, rfl⟩
      case round =>
        obtain ⟨j, hj, rfl, rfl⟩ := hrel
        have hsl := stepsN_lt j _ hxl
        by_cases hj8 : j < 8
        · go_wp2
          all_goals
            go_round
            case rel =>
              refine ⟨j + 1, by omega, by go_num, ?_⟩
              show _ = Value.int .u32 (stepN (stepsN j _) : Nat)
              have h := ‹(_ == (1 : Int)) = _›
              simp only [beq_iff_eq, beq_eq_false_iff_ne] at h
              first
              | (rw [stepN_odd _ (by omega)]; have := Crc.u32_xor (stepsN j (foldN (4294967295 - c) (s.data.toList.take k) ^^^ s[k].toNat) / 2) 2197175160 (by omega) (by omega); rw [← this]; simp)
              | (rw [stepN_even _ (by omega)]; simp)
            case measure => simp [intOf]; omega
        · go_wp2
          go_round
          case rel =>
            obtain rfl : j = 8 := by omega
            refine ⟨k + 1, by omega, by go_num, ?_⟩
            rw [take_snoc s k hlt, foldN_snoc]; rfl
          case measure => simp [intOf]; omega
    · go_wp2
      go_ret
      exact ⟨ret_int (by
        rw [List.take_of_length_le (by simp; omega)]
        unfold moreN
        have := foldN_lt (4294967295 - c) s.data.toList (by omega)
        omega), rfl⟩

theorem refof_any (s : ByteArray) (hs : s.size ≤ 9223372036854775807) (w : World) :
    Calls Try.prog 41 #[.string s] w fun e w' => e = .returned (.int .u32 (moreN 0 s.data.toList)) ∧ w = w' := by
  go_enter Try.func41, Try.ntmps41
  go_wp2_with (go_at_call 63; refine (refmore_any 0 (by omega) s hs _).mono ?_; rintro e w' ⟨rfl, rfl⟩)
  go_ret
  exact ⟨rfl, rfl⟩

theorem refbytes_any (c : Nat) (hc : c < 4294967296) (w : World) :
    Calls Try.prog 45 #[.int .u32 c] w fun e w' => e = .returned (.string (mkS (sumB c))) ∧ Below w.heap.size w w' := by
  have kc := run_bytes_string_new (P := Try.prog) w 47 9 5 #[.int .u8 (c / 16777216), .int .u8 (c / 65536 % 256), .int .u8 (c / 256 % 256), .int .u8 (c % 256)] 4 4 (sumB c) (by kernel_rfl) (by kernel_rfl) (by kernel_rfl) rfl (by simp [sumB]; omega)
  go_enter Try.func45, Try.ntmps45
  go_wp2
  go_ret
  exact ⟨rfl, (Below.refl _ _).alloc (Nat.le_refl _) _⟩

theorem sumB_size (m : Nat) : (mkS (sumB m)).size = 4 := rfl
theorem sumB_back (m : Nat) (hm : m < 4294967296) :
    bits .or .u32 (bits .or .u32 (bits .or .u32 ((((mkS (sumB m))[0]'(by rw [sumB_size]; omega)).toNat : Int) % 4294967296 * 16777216 % 4294967296) ((((mkS (sumB m))[1]'(by rw [sumB_size]; omega)).toNat : Int) % 4294967296 * 65536 % 4294967296)) ((((mkS (sumB m))[2]'(by rw [sumB_size]; omega)).toNat : Int) % 4294967296 * 256 % 4294967296)) ((((mkS (sumB m))[3]'(by rw [sumB_size]; omega)).toNat : Int) % 4294967296) = (m : Int) := by
  rw [u32_or4 _ _ _ _ (UInt8.toNat_lt _) (UInt8.toNat_lt _) (UInt8.toNat_lt _) (UInt8.toNat_lt _)]
  have e0 : ((mkS (sumB m))[0]'(by rw [sumB_size]; omega)).toNat = m / 16777216 % 256 := by
    show (UInt8.ofNat (m / 16777216)).toNat = _
    rw [UInt8.toNat_ofNat']
  have e1 : ((mkS (sumB m))[1]'(by rw [sumB_size]; omega)).toNat = m / 65536 % 256 := by
    show (UInt8.ofNat (m / 65536)).toNat = _
    rw [UInt8.toNat_ofNat']
  have e2 : ((mkS (sumB m))[2]'(by rw [sumB_size]; omega)).toNat = m / 256 % 256 := by
    show (UInt8.ofNat (m / 256)).toNat = _
    rw [UInt8.toNat_ofNat']
  have e3 : ((mkS (sumB m))[3]'(by rw [sumB_size]; omega)).toNat = m % 256 := by
    show (UInt8.ofNat m).toNat = _
    rw [UInt8.toNat_ofNat']
  rw [e0, e1, e2, e3]
  omega
end Go.Proofs.Ytmaebileagfdaaa
