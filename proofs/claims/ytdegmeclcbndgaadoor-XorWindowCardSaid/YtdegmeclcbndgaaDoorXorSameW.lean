/- The laws XorSame and XorWindow. -/
import Derived.Test.YtdegmeclcbndgaaDoorXorWorks
namespace Go.Proofs.YtdegmeclcbndgaaDoor
open Go.RowKit Bit Tim Xo

namespace Xo
theorem first_next (v : Nat) : XS.zero.next v = ⟨true, v, false, 0, 0⟩ := by simp [XS.next, XS.zero]
theorem first_enc (v : Nat) : encV XS.zero v = bitsOf v 64 := by simp [encV, XS.zero]
theorem same_next (v : Nat) : XS.next ⟨true, v, false, 0, 0⟩ v = ⟨true, v, false, 0, 0⟩ := by simp [XS.next]
theorem same_enc (v : Nat) : encV ⟨true, v, false, 0, 0⟩ v = [false] := by simp [encV, encD]; decide
theorem fresh_enc (v a : Nat) (h0 : a ≠ 0) (hod : a % 2 = 1) (ha : a < 18446744073709551616) : (encV ⟨true, v, false, 0, 0⟩ (v ^^^ a)).length = 77 - ld a ∧ XS.next ⟨true, v, false, 0, 0⟩ (v ^^^ a) = ⟨true, v ^^^ a, true, ld a, 0⟩ := by
  have hf : ¬ Fits ⟨true, v, false, 0, 0⟩ a := fun x => by simp [Fits] at x
  have ht : tl a = 0 := by
    obtain ⟨m, hm, _⟩ := tl_spec a (by omega) ha
    rcases Nat.eq_zero_or_pos (tl a) with h | h
    · exact h
    · exfalso
      obtain ⟨k, hk⟩ : ∃ k, tl a = k + 1 := ⟨tl a - 1, by omega⟩
      rw [hk, Nat.pow_succ, Nat.mul_assoc, Nat.mul_comm, Nat.mul_assoc] at hm
      have hh : ∀ y, a = 2 * y → False := fun y hy => by omega
      exact hh _ hm
  constructor
  · unfold encV encD
    simp only [if_true]
    rw [xor_back, if_neg h0, if_neg hf]
    unfold encNew
    rw [ht]
    have := ld_le a
    simp only [List.length_append, bitsOf_length]; omega
  · have := next_new ⟨true, v, false, 0, 0⟩ a rfl h0 hf
    rw [ht] at this
    exact this
theorem in_enc (v l d : Nat) (hl : l ≤ 31) (hd : d < 2 ^ (64 - l)) : (encV ⟨true, v, true, l, 0⟩ (v ^^^ d)).length = if d = 0 then 1 else 66 - l := by
  unfold encV encD
  simp only [if_true]
  rw [xor_back]
  by_cases h0 : d = 0
  · rw [if_pos h0, if_pos h0, bitsOf_length]
  · have hf : Fits ⟨true, v, true, l, 0⟩ d := ⟨rfl, ld_ge d l hl (by omega) hd, Nat.zero_le _⟩
    rw [if_neg h0, if_pos hf, if_neg h0]
    unfold encIn
    simp only [List.length_append, bitsOf_length]; omega
end Xo

set_option maxRecDepth 100000 in
set_option maxHeartbeats 2000000 in
theorem xorSame_walk (v n : Int) (hv : (Lit.int .u64 v).wf = true) (_hn : (Lit.int .i64 n).wf = true) (w : World) (hT : Tab w) :
    Calls Tryd.prog 6 #[.int .u64 v, .int .i64 n] w fun e w' => e = .returned (.bool true) ∧ Below w.heap.size w w' := by
  have hv := wf_u64 hv
  obtain ⟨x, rfl⟩ : ∃ x : Nat, v = (x : Int) := ⟨v.toNat, by omega⟩
  have hx : x < 18446744073709551616 := by omega
  obtain ⟨K, hK, hK1⟩ := umod_k n 100 (by decide) (by decide)
  have hK2 : K < 100 := by omega
  clear hv
  go_enter Tryd.func6, Tryd.ntmps6
  go_upto_region 5 with (first
    | (go_at_call 23; refine (xworks_any _ hT).mono ?_; rintro e w0 ⟨rfl, hb0⟩)
    | (go_at_call 12; refine (xornew_any _).mono ?_; rintro e w1 ⟨rfl, hc1, hb1⟩)
    | (go_at_call 13; refine (newwriter_any _).mono ?_; rintro e w2 ⟨rfl, hw2, hb2⟩))
  have hP := kp_start w0 w1 w2 (hT.below hb0 hT.pos) hc1 hb1 hw2 hb2
  have hB := below_tr hb0 (below_tr hb1 hb2)
  have hsz0 := hb0.size
  clear hc1 hb1 hw2 hb2 hb0 hK1
  obtain ⟨p, hp⟩ : ∃ p, Hid (p = w1.heap.size) := ⟨_, Lib.hid rfl⟩
  obtain ⟨c, hc⟩ : ∃ c, Hid (c = w0.heap.size) := ⟨_, Lib.hid rfl⟩
  have hcs : w.heap.size ≤ c := by rw [hc.out]; exact hsz0
  rw [← hp.out, ← hc.out] at hP ⊢
  go_wp2
  go_loopw [7] (fun i wr => ∃ (j : Nat) (S : XS) (L1 : List Bool), j ≤ K + 1 ∧ i = .int .i64 j ∧ Hid ((j = 0 ∧ S = XS.zero ∧ L1 = []) ∨ (1 ≤ j ∧ S = ⟨true, x, false, 0, 0⟩ ∧ L1.length = 63 + j)) ∧ KP wr c c p S L1 ∧ Below w.heap.size w wr) (fun i _ => 101 - (intOf i).toNat)
  case atStart => exact ⟨0, _, _, by omega, rfl, Lib.hid (.inl ⟨rfl, rfl, rfl⟩), hP, hB⟩
  case round =>
    obtain ⟨j, S, L1, hj, rfl, hSt, hC, hbr⟩ := hrel
    clear hP hB
    have hl1 : L1.length ≤ 1000 := by
      rcases hSt.out with ⟨_, _, rfl⟩ | ⟨_, _, h⟩
      · simp
      · omega
    by_cases hlt : j ≤ K
    · have hlti : (j : Int) ≤ (K : Int) := by omega
      have hjb : (j : Int) ≤ 100 := by omega
      go_wp2_with (go_at_call 14; refine (vput_kp wr _ _ _ _ _ x hx hC (by omega)).mono ?_; rintro e w5 ⟨rfl, hP5, hb5⟩)
      go_roundw
      case rel =>
        refine ⟨j + 1, _, _, by omega, by go_num, Lib.hid (.inr ⟨by omega, ?_, ?_⟩), hP5, hbr.trans (hb5.mono hcs)⟩
        · rcases hSt.out with ⟨_, rfl, _⟩ | ⟨_, rfl, _⟩
          · exact first_next x
          · exact same_next x
        · rcases hSt.out with ⟨h1, rfl, rfl⟩ | ⟨h1, rfl, h2⟩
          · rw [first_enc, List.nil_append, bitsOf_length, h1]
          · rw [same_enc, List.length_append, h2]; simp; omega
      case measure => simp [intOf]; omega
    · have hlti : ¬ (j : Int) ≤ (K : Int) := by omega
      have LN := len_kp _ _ _ _ _ _ hC
      have hlen : (L1.length : Int) = 64 + (K : Int) := by
        rcases hSt.out with ⟨h1, _, _⟩ | ⟨h1, _, h2⟩
        · omega
        · omega
      have hKi : (K : Int) < 100 := by omega
      rw [hlen] at LN
      clear hlen hl1
      go_wp2_with (go_at_call 16; refine LN.mono ?_; rintro e w' ⟨rfl, rfl⟩)
      go_ret
      exact ⟨rfl, hbr⟩

set_option maxRecDepth 100000 in
set_option maxHeartbeats 2000000 in
theorem xorWindow_walk (v a b : Int) (hv : (Lit.int .u64 v).wf = true) (ha : (Lit.int .u64 a).wf = true) (hbb : (Lit.int .u64 b).wf = true) (w : World) (hT : Tab w) :
    Calls Tryd.prog 7 #[.int .u64 v, .int .u64 a, .int .u64 b] w fun e w' => e = .returned (.bool true) ∧ Below w.heap.size w w' := by
  have hv := wf_u64 hv
  obtain ⟨x, rfl⟩ : ∃ x : Nat, v = (x : Int) := ⟨v.toNat, by omega⟩
  have hx : x < 18446744073709551616 := by omega
  have ha := wf_u64 ha
  obtain ⟨a0, rfl⟩ : ∃ x : Nat, a = (x : Int) := ⟨a.toNat, by omega⟩
  have ha0 : a0 < 18446744073709551616 := by omega
  have hbb := wf_u64 hbb
  obtain ⟨y, rfl⟩ : ∃ x : Nat, b = (x : Int) := ⟨b.toNat, by omega⟩
  have hy : y < 18446744073709551616 := by omega
  clear hv ha hbb
  have hor1 : bits .or .u64 (a0 : Int) 1099511627776 = ((a0 ||| 1099511627776 : Nat) : Int) := bits_or_u64_nat a0 1099511627776 ha0 (by decide)
  have hB1 : a0 ||| 1099511627776 < 18446744073709551616 := Nat.or_lt_two_pow (n := 64) ha0 (by decide)
  have hor2 : bits .or .u64 ((a0 ||| 1099511627776 : Nat) : Int) 1 = (((a0 ||| 1099511627776) ||| 1 : Nat) : Int) := bits_or_u64_nat _ 1 hB1 (by decide)
  have hB2 : (a0 ||| 1099511627776) ||| 1 < 18446744073709551616 := Nat.or_lt_two_pow (n := 64) hB1 (by decide)
  have hodd : ((a0 ||| 1099511627776) ||| 1) % 2 = 1 := by rw [Nat.or_mod_two_eq_one]; right; rfl
  obtain ⟨A, hA⟩ : ∃ A, Hid (A = (a0 ||| 1099511627776) ||| 1) := ⟨_, Lib.hid rfl⟩
  have hor : bits .or .u64 (bits .or .u64 (a0 : Int) 1099511627776) 1 = (A : Int) := by rw [hor1, hor2, hA.out]
  rw [← hA.out] at hB2 hodd
  clear hor1 hor2 hB1
  have Hor := Lib.hid hor
  clear hor
  have hA0 : A ≠ 0 := by omega
  have hxr : bits .xor .u64 (x : Int) (A : Nat) = ((x ^^^ A : Nat) : Int) := bits_xor_u64_nat x A hx hB2
  have hxA := xor_lt hx hB2
  have hfr := fresh_enc x A hA0 hodd hB2
  have hld := ld_le A
  obtain ⟨N, hN⟩ : ∃ N, Hid (N = ld A) := ⟨_, Lib.hid rfl⟩
  rw [← hN.out] at hfr hld
  have Hfr := Lib.hid hfr
  clear hfr
  go_enter Tryd.func7, Tryd.ntmps7
  go_upto_region 4 with (first
    | (go_at_call 23; refine (xworks_any _ hT).mono ?_; rintro e w0 ⟨rfl, hb0⟩)
    | (go_at_call 12; refine (xornew_any _).mono ?_; rintro e w1 ⟨rfl, hc1, hb1⟩)
    | (go_at_call 13; refine (newwriter_any _).mono ?_; rintro e w2 ⟨rfl, hw2, hb2⟩))
  have hP := kp_start w0 w1 w2 (hT.below hb0 hT.pos) hc1 hb1 hw2 hb2
  have hB := below_tr hb0 (below_tr hb1 hb2)
  have hsz0 := hb0.size
  clear hc1 hb1 hw2 hb2 hb0
  obtain ⟨p, hp⟩ : ∃ p, Hid (p = w1.heap.size) := ⟨_, Lib.hid rfl⟩
  obtain ⟨c, hc⟩ : ∃ c, Hid (c = w0.heap.size) := ⟨_, Lib.hid rfl⟩
  have hcs : w.heap.size ≤ c := by rw [hc.out]; exact hsz0
  rw [← hp.out, ← hc.out] at hP ⊢
  go_upto_region 5 with (go_at_call 14; refine (vput_kp _ _ _ _ _ _ x hx hP (by simp)).mono ?_; rintro e w3 ⟨rfl, hP3, hb3⟩)
  have hB3 := hB.trans (hb3.mono hcs)
  rw [first_next, first_enc, List.nil_append] at hP3
  have P4 := vput_kp w3 _ _ _ _ _ (x ^^^ A) hxA hP3 (by rw [bitsOf_length]; omega)
  obtain ⟨L2, hL2⟩ : ∃ L2, Hid (L2 = bitsOf x 64 ++ encV ⟨true, x, false, 0, 0⟩ (x ^^^ A)) := ⟨_, Lib.hid rfl⟩
  have hll2 : L2.length = 141 - N := by rw [hL2.out, List.length_append, bitsOf_length, Hfr.out.1]; omega
  rw [← hL2.out, Hfr.out.2] at P4
  clear hP hP3 hb3 hB
  go_upto_region 6 with (fail)
  rw [Hor.out]
  go_upto_region 7 with (go_at_call 14; refine P4.mono ?_; rintro e w4 ⟨rfl, hP4, hb4⟩)
  have hB4 := hB3.trans (hb4.mono hcs)
  clear P4 hB3 hb4
  have LN := len_kp _ _ _ _ _ _ hP4
  have hNi : (L2.length : Int) = 141 - (N : Int) := by omega
  rw [hNi] at LN
  obtain ⟨D, hD⟩ : ∃ D, Hid (D = y / 2 ^ N) := ⟨_, Lib.hid rfl⟩
  have hDb : D < 2 ^ (64 - N) := by rw [hD.out]; exact div_lt_pow (a := 64) hy (by omega)
  have hD64 : D < 18446744073709551616 := by rw [hD.out]; exact Nat.lt_of_le_of_lt (Nat.div_le_self _ _) hy
  have hxr2 : bits .xor .u64 ((x ^^^ A : Nat) : Int) (D : Nat) = (((x ^^^ A) ^^^ D : Nat) : Int) := bits_xor_u64_nat _ D hxA hD64
  have hien := Lib.hid (in_enc (x ^^^ A) N D hld hDb)
  have P5 := vput_kp w4 _ _ _ _ _ ((x ^^^ A) ^^^ D) (xor_lt hxA hD64) hP4 (by omega)
  have hDw : (y : Int) / 2 ^ N = (D : Int) := by rw [hD.out]; simp
  have HDw := Lib.hid hDw
  have Hll2 := Lib.hid hll2
  clear hll2 hDw hDb hNi hP4
  go_wp2
  go_loop [9] (fun i => ∃ n : Nat, n ≤ 31 ∧ i = .int .i64 n ∧ Hid (A < 2 ^ (64 - n))) (fun i => 31 - (intOf i).toNat)
  case atStart => exact ⟨0, by omega, rfl, Lib.hid hB2⟩
  case round =>
    obtain ⟨n, hn, rfl, hlt⟩ := hrel
    by_cases hgo : n < 31 ∧ A < 2 ^ (63 - n)
    · obtain ⟨h31, hsm⟩ := hgo
      have hn1 : (n : Int) < 31 := by omega
      have hq : ((A : Int) / 2 ^ (63 - n) == 0) = true := by rw [shr_nat, Nat.div_eq_of_lt hsm]; rfl
      clear LN P5
      go_wp2
      go_round
      case rel => exact ⟨n + 1, by omega, by go_num, Lib.hid (by rw [show 64 - (n + 1) = 63 - n from by omega]; exact hsm)⟩
      case measure => simp [intOf]; omega
    · have hnN : n = N := by
        rw [hN.out]
        refine (ld_eq A n hn (by omega) hlt.out ?_).symm
        by_cases h31 : n = 31
        · exact .inl h31
        · right
          rcases Nat.lt_or_ge A (2 ^ (63 - n)) with h | h
          · exact absurd ⟨by omega, h⟩ hgo
          · exact h
      subst hnN
      have hway : (¬ (n : Int) < 31) ∨ ((n : Int) < 31 ∧ ((A : Int) / 2 ^ (63 - n) == 0) = false) := by
        by_cases h31 : n = 31
        · exact .inl (by omega)
        · right
          refine ⟨by omega, ?_⟩
          rw [shr_nat, beq_eq_false_iff_ne]
          intro e
          have h0 : A / 2 ^ (63 - n) = 0 := by omega
          rcases Nat.div_eq_zero_iff.mp h0 with h | h
          · exact absurd h (Nat.ne_of_gt (Nat.two_pow_pos _))
          · exact hgo ⟨by omega, h⟩
      clear hgo hlt
      have hni : (n : Int) ≤ 31 := by omega
      rcases hway with h1 | ⟨h1, h2⟩
      all_goals
        go_upto_region 14 with (go_at_call 16; refine LN.mono ?_; rintro e w' ⟨rfl, rfl⟩)
        rw [HDw.out]
        go_upto_region 15 with (go_at_call 14; refine P5.mono ?_; rintro e w5 ⟨rfl, hP5, hb5⟩)
        have hB5 := hB4.trans (hb5.mono hcs)
        have LM := len_kp _ _ _ _ _ _ hP5
        rw [List.length_append, hien.out, Hll2.out] at LM
        clear LN P5 hP5 hb5
        by_cases hD0 : D = 0
        · have e1 : ((D : Int) == 0) = true := by simp [hD0]
          rw [if_pos hD0, show ((141 - n + 1 : Nat) : Int) = 141 - (n : Int) + 1 from by omega] at LM
          go_wp2_with (go_at_call 16; refine LM.mono ?_; rintro e w' ⟨rfl, rfl⟩)
          go_ret
          exact ⟨rfl, hB5⟩
        · have e1 : ((D : Int) == 0) = false := by simp [hD0]
          rw [if_neg hD0, show ((141 - n + (66 - n) : Nat) : Int) = 141 - (n : Int) + 2 + 64 - (n : Int) from by omega] at LM
          go_wp2_with (go_at_call 16; refine LM.mono ?_; rintro e w' ⟨rfl, rfl⟩)
          go_ret
          exact ⟨rfl, hB5⟩
end Go.Proofs.YtdegmeclcbndgaaDoor
