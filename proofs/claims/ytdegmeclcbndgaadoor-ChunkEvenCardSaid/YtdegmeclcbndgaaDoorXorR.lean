/- The document's writer of patterns. -/
import Derived.Test.YtdegmeclcbndgaaDoorXorW
import Derived.Test.YtdegmeclcbndgaaDoorTimR
namespace Go.Proofs.YtdegmeclcbndgaaDoor
open Go.RowKit Bit Tim Xo

namespace Xo
theorem ld_eq (d n : Nat) (hn : n ≤ 31) (h0 : 0 < d) (hlt : d < 2 ^ (64 - n)) (hx : n = 31 ∨ 2 ^ (63 - n) ≤ d) : ld d = n := by
  have h1 := ld_ge d n hn h0 hlt
  have h64 : d < 18446744073709551616 := Nat.lt_of_lt_of_le hlt (show 2 ^ (64 - n) ≤ 2 ^ 64 from Nat.pow_le_pow_right (by decide) (by omega))
  have h2 := ld_hi d h64
  have h3 := ld_le d
  rcases hx with rfl | hx
  · omega
  · have := pow_lt_of (Nat.lt_of_le_of_lt hx h2)
    omega
theorem tl_eq (d n x : Nat) (h : x * 2 ^ n = d) (ho : x % 2 = 1) (hd : d < 18446744073709551616) : tl d = n := by
  have hp := Nat.two_pow_pos n
  have h1 : n ≤ tl d := by rw [← h]; exact tl_ge x n (by omega) (by rw [h]; exact hd)
  obtain ⟨m, hm, _⟩ := tl_spec d (by rw [← h]; exact Nat.mul_pos (by omega) hp) hd
  rcases Nat.lt_or_ge n (tl d) with h2 | h2
  · exfalso
    obtain ⟨k, hk⟩ : ∃ k, tl d = n + 1 + k := ⟨tl d - n - 1, by omega⟩
    rw [hk] at hm
    have e : 2 ^ (n + 1 + k) * (2 * m + 1) = 2 ^ n * (2 * (2 ^ k * (2 * m + 1))) := by
      rw [Nat.pow_add, Nat.pow_succ]
      simp only [Nat.mul_assoc]
    rw [e, ← h, Nat.mul_comm x] at hm
    have := Nat.eq_of_mul_eq_mul_left hp hm
    omega
  · omega
end Xo

set_option maxRecDepth 100000 in
set_option maxHeartbeats 1000000 in
theorem rlead_any (d : Nat) (hd : d < 18446744073709551616) (hd0 : 0 < d) (w : World) :
    Calls Tryd.prog 38 #[.int .u64 d] w fun e w' => e = .returned (.int .i64 (ld d : Nat)) ∧ w = w' := by
  go_enter Tryd.func38, Tryd.ntmps38
  go_wp2
  go_loop [3] (fun i => ∃ n : Nat, n ≤ 31 ∧ i = .int .i64 n ∧ d < 2 ^ (64 - n)) (fun i => 31 - (intOf i).toNat)
  case atStart => exact ⟨0, by omega, rfl, hd⟩
  case round =>
    obtain ⟨n, hn, rfl, hlt⟩ := hrel
    have Hlt := Lib.hid hlt
    clear hlt
    by_cases h31 : n < 31
    · have hn1 : (n : Int) < 31 := by omega
      go_wp2
      · have hq : ((d : Int) / 2 ^ (63 - n) == 0) = true := by assumption
        go_round
        case rel =>
          refine ⟨n + 1, by omega, by go_num, ?_⟩
          rw [shr_nat, beq_iff_eq] at hq
          have hz : d / 2 ^ (63 - n) = 0 := by omega
          rcases Nat.div_eq_zero_iff.mp hz with h | h
          · exact absurd h (Nat.ne_of_gt (Nat.two_pow_pos _))
          · rw [show 64 - (n + 1) = 63 - n from by omega]; exact h
        case measure => simp [intOf]; omega
      · have hq : ((d : Int) / 2 ^ (63 - n) == 0) = false := by assumption
        go_ret
        refine ⟨ret_int ?_, rfl⟩
        rw [ld_eq d n hn hd0 Hlt.out]
        right
        rw [shr_nat, beq_eq_false_iff_ne] at hq
        rcases Nat.lt_or_ge d (2 ^ (63 - n)) with h | h
        · exact absurd (by rw [Nat.div_eq_of_lt h]; rfl) hq
        · exact h
    · obtain rfl : n = 31 := by omega
      go_wp2
      go_ret
      refine ⟨ret_int ?_, rfl⟩
      rw [ld_eq d 31 (by omega) hd0 Hlt.out (.inl rfl)]; rfl

set_option maxRecDepth 100000 in
set_option maxHeartbeats 1000000 in
theorem rtail_any (d : Nat) (hd : d < 18446744073709551616) (hd0 : 0 < d) (w : World) :
    Calls Tryd.prog 39 #[.int .u64 d] w fun e w' => e = .returned (.int .i64 (tl d : Nat)) ∧ w = w' := by
  go_enter Tryd.func39, Tryd.ntmps39
  go_wp2
  go_loop [0, 3] (fun x i => ∃ n y : Nat, n ≤ 63 ∧ i = .int .i64 n ∧ x = .int .u64 y ∧ y < 18446744073709551616 ∧ Hid (y * 2 ^ n = d)) (fun _ i => 63 - (intOf i).toNat)
  case atStart => exact ⟨0, d, by omega, rfl, rfl, hd, Lib.hid (by simp)⟩
  case round =>
    obtain ⟨n, y, hn, rfl, rfl, hy, hyd⟩ := hrel
    have hy0 : 0 < y := by
      rcases Nat.eq_zero_or_pos y with h | h
      · have := hyd.out; rw [h, Nat.zero_mul] at this; omega
      · exact h
    by_cases hodd : y % 2 = 1
    · have ho : ((y : Int) % 2 == 0) = false := by rw [beq_eq_false_iff_ne]; omega
      have hfin : tl d = n := tl_eq d n y hyd.out hodd hd
      have Hfin := Lib.hid hfin
      clear hfin hodd
      go_wp2
      go_ret
      exact ⟨ret_int (by rw [Hfin.out]), rfl⟩
    · have ho : ((y : Int) % 2 == 0) = true := by rw [beq_iff_eq]; omega
      by_cases h63 : n < 63
      · have hn1 : (n : Int) < 63 := by omega
        have hdv : (y : Int) / 2 = ((y / 2 : Nat) : Int) := by omega
        have hstep : y / 2 * 2 ^ (n + 1) = d := by
          rw [← hyd.out, Nat.pow_succ, Nat.mul_comm (2 ^ n), ← Nat.mul_assoc]
          congr 1; omega
        have Hstep := Lib.hid hstep
        have Hdv := Lib.hid hdv
        clear hstep hodd hdv
        go_wp2
        go_round
        case rel => exact ⟨n + 1, y / 2, by omega, by go_num, by rw [Hdv.out], by omega, Hstep⟩
        case measure => simp [intOf]; omega
      · exfalso
        obtain rfl : n = 63 := by omega
        have h1 := hyd.out
        have e : (2 : Nat) ^ 63 = 9223372036854775808 := by decide
        rw [e] at h1
        omega

/-- The document's coder of patterns. -/
structure JInv (w : World) (c : Nat) (s : XS) : Prop where
  row : RowV w c [.bool s.b, .int .u64 (s.v : Nat), .bool s.is, .int .i64 (s.l : Nat), .int .i64 (s.t : Nat)]
  ok : XOk s
theorem JInv.lt {w : World} {c : Nat} {s : XS} (h : JInv w c s) : c < w.heap.size := h.row.lt (by simp)
theorem JInv.keep {F : Nat → Prop} {w w' : World} {c : Nat} {s : XS} (h : JInv w c s) (hc : Chg F w w') (hp : ¬ F c) : JInv w' c s := ⟨h.row.keep hc hp, h.ok⟩

structure KR (w : World) (c q : Nat) (s : XS) (u : Value) (L : List Bool) : Prop where
  cw : JInv w c s
  ww : RInv w q u L
  ne : c ≠ q
  nv : u.ownBlock ≠ some c

theorem KR.coder {w w' : World} {c q : Nat} {s s' : XS} {u : Value} {L : List Bool} (h : KR w c q s u L) (hc : JInv w' c s') (hb : Chg (fun k => k = c) w w') : KR w' c q s' u L ∧ RStep w w' q c u u L L := by
  have hk : RInv w' q u L := h.ww.keep hb (by
    rintro k (rfl | hk) hF
    · exact h.ne hF.symm
    · rw [hF] at hk; exact h.nv hk)
  exact ⟨⟨hc, hk, h.ne, h.nv⟩, hk, fun _ hg => .inl hg, hb.mono (fun _ _ x => .inr x)⟩
theorem KR.below {w w' : World} {c q : Nat} {s : XS} {u : Value} {L : List Bool} (h : KR w c q s u L) (hb : Below w.heap.size w w') : KR w' c q s u L :=
  ⟨h.cw.keep (Chg.of_below (fun _ => False) hb) (fun x => x), h.ww.keep (Chg.of_below (fun _ => False) hb) (fun _ _ x => x), h.ne, h.nv⟩

theorem krput_any (w : World) (c q : Nat) (s : XS) (u : Value) (L : List Bool) (x n : Nat) (hx : x < 18446744073709551616) (hn : n ≤ 64) (h : KR w c q s u L) (hL : L.length ≤ 1099511627776) :
    Calls Tryd.prog 37 #[.pointer (some ⟨q, 0, none⟩), .int .u64 x, .int .i64 n] w fun e w' => e = .returned (.tuple #[]) ∧
      ∃ u', KR w' c q s u' (L ++ bitsOf x n) ∧ RStep w w' q c u u' L (L ++ bitsOf x n) := by
  have P1 := refput_any w q u L x n hx h.ww hL (by omega) (by omega)
  have emm : (max (min (n : Int) 64) 0).toNat = n := by omega
  rw [emm] at P1
  refine P1.mono ?_
  rintro e w' ⟨rfl, u', h1, h2, h3⟩
  have hcl := h.cw.lt
  refine ⟨rfl, u', ⟨h.cw.keep h3 ?_, h1, h.ne, fun e => ?_⟩, h1, h2, h3.mono (fun _ _ y => .inl y)⟩
  · rintro (hk | hk)
    · exact h.ne hk
    · exact h.nv hk
  · rcases h2 c e with h4 | h4
    · exact h.nv h4
    · omega

theorem bits10 : bitsOf 1 1 ++ bitsOf 0 1 = bitsOf 2 2 := by decide
theorem bits11 : bitsOf 1 1 ++ bitsOf 1 1 = bitsOf 3 2 := by decide

set_option maxRecDepth 100000 in
set_option maxHeartbeats 2000000 in
theorem vrput_any (w : World) (c q : Nat) (s : XS) (u : Value) (L : List Bool) (x : Nat) (hx : x < 18446744073709551616) (h : KR w c q s u L) (hL : L.length ≤ 1099511620000) :
    Calls Tryd.prog 15 #[.pointer (some ⟨c, 0, none⟩), .pointer (some ⟨q, 0, none⟩), .int .u64 x] w fun e w' => e = .returned (.tuple #[]) ∧
      ∃ u', KR w' c q (s.next x) u' (L ++ encV s x) ∧ RStep w w' q c u u' L (L ++ encV s x) := by
  have hC := h.cw
  have ok := hC.ok
  have c0 := (hC.row 0 _ rfl).1
  have c1 := (hC.row 1 _ rfl).1
  have f0 := (hC.row 0 _ rfl).2
  have f1 := (hC.row 1 _ rfl).2
  have hxr : bits .xor .u64 (x : Int) (s.v : Nat) = ((x ^^^ s.v : Nat) : Int) := bits_xor_u64_nat x s.v hx ok.1
  have hdb := xor_lt hx ok.1
  have h1 : JInv ((w.setCell ⟨c, 0, none⟩ (.bool true)).setCell ⟨c, 1, none⟩ (.int .u64 (x : Nat))) c ⟨true, x, s.is, s.l, s.t⟩ :=
    ⟨(hC.row.set 0 (by simp) (.bool true)).set 1 (by simp) (.int .u64 (x : Nat)), hx, ok.2⟩
  have hch : Chg (fun k => k = c) w ((w.setCell ⟨c, 0, none⟩ (.bool true)).setCell ⟨c, 1, none⟩ (.int .u64 (x : Nat))) := (Chg.setCell w ⟨c, 0, none⟩ _).trans (Chg.setCell _ ⟨c, 1, none⟩ _) (fun _ _ x => x)
  obtain ⟨hcw, hS⟩ := h.coder h1 hch
  obtain ⟨d, hd⟩ : ∃ d, Hid (d = x ^^^ s.v) := ⟨_, Lib.hid rfl⟩
  rw [← hd.out] at hxr hdb
  have Hxr := Lib.hid hxr
  obtain ⟨s1, hs1⟩ : ∃ s1 : XS, Hid (s1 = ⟨true, x, s.is, s.l, s.t⟩) := ⟨_, Lib.hid rfl⟩
  rw [← hs1.out] at hcw
  clear hxr h1 hch h
  cases hb : s.b with
  | false =>
    rw [hb] at c0
    have hnx : s.next x = s1 := by rw [hs1.out]; simp [XS.next, hb]
    have hen : encV s x = bitsOf x 64 := by simp [encV, hb]
    rw [hnx, hen]
    clear hnx hen hC
    go_enter Tryd.func15, Tryd.ntmps15
    go_upto_region 5 with (fail)
    generalize ((w.setCell ⟨c, 0, none⟩ (.bool true)).setCell ⟨c, 1, none⟩ (.int .u64 (x : Nat))) = w1 at hcw hS ⊢
    go_wp2_with (go_at_call 37; refine (krput_any w1 c q _ u L x 64 hx (by omega) hcw (by omega)).mono ?_; rintro e w2 ⟨rfl, v2, hcw2, hS2⟩)
    refine bodyPost_ret (results_none rfl _ _ _) rfl ?_
    exact ⟨rfl, v2, hcw2, hS.trans hS2⟩
  | true =>
    rw [hb] at c0
    by_cases hd0 : d = 0
    · have hnx : s.next x = s1 := by rw [hs1.out]; unfold XS.next; rw [if_neg]; rw [← hd.out]; simp [hd0]
      have hen : encV s x = bitsOf 0 1 := by unfold encV encD; rw [hb, if_pos rfl, ← hd.out, if_pos hd0]
      rw [hnx, hen]
      clear hnx hen hC
      have Hd0 : ((d : Int) == 0) = true := by simp [hd0]
      go_enter Tryd.func15, Tryd.ntmps15
      go_upto_region 4 with (fail)
      rw [Hxr.out]
      generalize ((w.setCell ⟨c, 0, none⟩ (.bool true)).setCell ⟨c, 1, none⟩ (.int .u64 (x : Nat))) = w1 at hcw hS ⊢
      go_wp2_with (go_at_call 37; refine (krput_any w1 c q _ u L 0 1 (by omega) (by omega) hcw (by omega)).mono ?_; rintro e w2 ⟨rfl, v2, hcw2, hS2⟩)
      refine bodyPost_ret (results_none rfl _ _ _) rfl ?_
      exact ⟨rfl, v2, hcw2, hS.trans hS2⟩
    · have Hd0 : ((d : Int) == 0) = false := by simp [hd0]
      have hld := ld_tl d (by omega) hdb
      have hld2 := ld_le d
      have LD := fun W => rlead_any d hdb (by omega) W
      have TL := fun W => rtail_any d hdb (by omega) W
      obtain ⟨lead, hl⟩ : ∃ l, Hid (l = ld d) := ⟨_, Lib.hid rfl⟩
      obtain ⟨tail, ht⟩ : ∃ t, Hid (t = tl d) := ⟨_, Lib.hid rfl⟩
      rw [← hl.out] at hld hld2 LD
      rw [← ht.out] at hld TL
      clear hC
      go_enter Tryd.func15, Tryd.ntmps15
      go_upto_region 4 with (fail)
      rw [Hxr.out]
      generalize ((w.setCell ⟨c, 0, none⟩ (.bool true)).setCell ⟨c, 1, none⟩ (.int .u64 (x : Nat))) = w1 at hcw hS ⊢
      go_upto_region 10 with (first
        | (go_at_call 37; refine (krput_any w1 c q _ u L 1 1 (by omega) (by omega) hcw (by omega)).mono ?_; rintro e w2 ⟨rfl, v2, hcw2, hS2⟩)
        | (go_at_call 38; refine (LD _).mono ?_; rintro e w3 ⟨rfl, rfl⟩)
        | (go_at_call 39; refine (TL _).mono ?_; rintro e w3 ⟨rfl, rfl⟩))
      have hS3 := hS.trans hS2
      have hll2 : (L ++ bitsOf 1 1).length ≤ 1099511620001 := by rw [List.length_append, bitsOf_length]; omega
      have hs1f : s1.is = s.is ∧ s1.l = s.l ∧ s1.t = s.t := by rw [hs1.out]; exact ⟨rfl, rfl, rfl⟩
      obtain ⟨e1, e2, e3⟩ := hs1f
      have k2 := (hcw2.cw.row 2 _ rfl).1
      have k3 := (hcw2.cw.row 3 _ rfl).1
      have k4 := (hcw2.cw.row 4 _ rfl).1
      have ok1 := hcw2.cw.ok
      rw [e1] at k2
      by_cases hf : Fits s d
      · have g1 : (s1.l : Int) ≤ (lead : Int) := by have := hf.2.1; have := hl.out; omega
        have g2 : (s1.t : Int) ≤ (tail : Int) := by have := hf.2.2; have := ht.out; omega
        rw [hf.1] at k2
        have hen : encV s x = bitsOf 1 1 ++ (bitsOf 0 1 ++ bitsOf (d / 2 ^ s1.t) (64 - s1.l - s1.t)) := by
          rw [← List.append_assoc, bits10]
          unfold encV encD; rw [hb, if_pos rfl, ← hd.out, if_neg hd0, if_pos hf, e2, e3]; rfl
        have hnx : s.next x = s1 := by unfold XS.next; rw [if_neg, hs1.out]; rw [← hd.out]; simp [hf]
        have Hen := Lib.hid hen
        have Hnx := Lib.hid hnx
        clear hen hnx e1 e2 e3
        go_upto_region 12 with (go_at_call 37; refine (krput_any w2 c q _ v2 _ 0 1 (by omega) (by omega) hcw2 (by omega)).mono ?_; rintro e w3 ⟨rfl, v3, hcw3, hS4⟩)
        have hS5 := hS3.trans hS4
        have m3 := (hcw3.cw.row 3 _ rfl).1
        have m4 := (hcw3.cw.row 4 _ rfl).1
        have hz1 : (s1.l : Int) ≤ 63 := by have := ok1.2.1; omega
        have hz2 : (s1.t : Int) ≤ 63 := by have := ok1.2.1; omega
        clear hcw2 hS2 hS3 hS4 k2 k3 k4
        go_still_tail 17, (by kernel_rfl)
        change wpList _ _ _ _ _ w3.drew
        have PT : Calls Tryd.prog 37 #[.pointer (some ⟨q, 0, none⟩), .int .u64 ((d : Int) / 2 ^ s1.t), .int .i64 (64 - (s1.l : Int) - (s1.t : Int))] w3.drew fun e w' => e = .returned (.tuple #[]) ∧
            ∃ u', KR w' c q s1 u' (L ++ bitsOf 1 1 ++ bitsOf 0 1 ++ bitsOf (d / 2 ^ s1.t) (64 - s1.l - s1.t)) ∧ RStep w w' q c u u' L (L ++ bitsOf 1 1 ++ bitsOf 0 1 ++ bitsOf (d / 2 ^ s1.t) (64 - s1.l - s1.t)) := by
          rw [shr_nat, show 64 - (s1.l : Int) - (s1.t : Int) = ((64 - s1.l - s1.t : Nat) : Int) from by have := ok1.2.1; omega]
          have hcw4 : KR w3.drew c q s1 v3 (L ++ bitsOf 1 1 ++ bitsOf 0 1) := ⟨hcw3.cw.keep (Chg.drew (fun _ => False) _) (fun x => x), hcw3.ww.keep (Chg.drew (fun _ => False) _) (fun _ _ x => x), hcw3.ne, hcw3.nv⟩
          refine (krput_any w3.drew c q s1 v3 _ (d / 2 ^ s1.t) (64 - s1.l - s1.t) (Nat.lt_of_le_of_lt (Nat.div_le_self _ _) hdb) (by omega) hcw4 (by rw [List.length_append, bitsOf_length]; omega)).mono ?_
          rintro e w' ⟨rfl, u', h1, h2⟩
          have h0 : RStep w3 w3.drew q c v3 v3 (L ++ bitsOf 1 1 ++ bitsOf 0 1) (L ++ bitsOf 1 1 ++ bitsOf 0 1) := ⟨hcw4.ww, fun _ hg => .inl hg, Chg.drew _ _⟩
          exact ⟨rfl, u', h1, hS5.trans (h0.trans h2)⟩
        go_wp2_with (go_at_call 37; refine PT.mono ?_; rintro e w5 ⟨rfl, v5, hcw5, hS6⟩)
        refine bodyPost_ret (results_none rfl _ _ _) rfl ?_
        rw [Hnx.out, Hen.out]
        have hall : L ++ bitsOf 1 1 ++ bitsOf 0 1 ++ bitsOf (d / 2 ^ s1.t) (64 - s1.l - s1.t) = L ++ (bitsOf 1 1 ++ (bitsOf 0 1 ++ bitsOf (d / 2 ^ s1.t) (64 - s1.l - s1.t))) := by simp only [List.append_assoc]
        rw [hall] at hcw5 hS6
        exact ⟨rfl, v5, hcw5, hS6⟩
      · obtain ⟨s2, hs2⟩ : ∃ s2 : XS, Hid (s2 = ⟨true, x, true, lead, tail⟩) := ⟨_, Lib.hid rfl⟩
        have hen : encV s x = bitsOf 1 1 ++ (bitsOf 1 1 ++ (bitsOf lead 5 ++ (bitsOf (63 - lead - tail) 6 ++ bitsOf (d / 2 ^ tail) (64 - lead - tail)))) := by
          rw [← List.append_assoc, bits11]
          unfold encV encD; rw [hb, if_pos rfl, ← hd.out, if_neg hd0, if_neg hf, hl.out, ht.out]; rfl
        have hnx : s.next x = s2 := by unfold XS.next; rw [if_pos, hs2.out, hl.out, ht.out, hd.out]; rw [← hd.out]; exact ⟨hb, hd0, hf⟩
        have Hen := Lib.hid hen
        have Hnx := Lib.hid hnx
        have hway : (s.is = false) ∨ (s.is = true ∧ ¬ (s1.l : Int) ≤ (lead : Int)) ∨ (s.is = true ∧ (s1.l : Int) ≤ (lead : Int) ∧ ¬ (s1.t : Int) ≤ (tail : Int)) := by
          cases hi : s.is with
          | false => exact .inl rfl
          | true =>
            right
            by_cases g1 : (s1.l : Int) ≤ (lead : Int)
            · right
              refine ⟨rfl, g1, fun g2 => hf ⟨hi, ?_, ?_⟩⟩
              · have := hl.out; omega
              · have := ht.out; omega
            · exact .inl ⟨rfl, g1⟩
        clear hen hnx e1 e2 e3
        have hlw : IntKind.u64.wrap (lead : Int) = (lead : Int) := by rw [IntKind.wrap_u64]; omega
        have hz1 : (lead : Int) ≤ 31 := by omega
        have hz2 : (tail : Int) ≤ 63 := by omega
        obtain ⟨Z, hZ⟩ : ∃ Z, Hid (Z = 63 - lead - tail) := ⟨_, Lib.hid rfl⟩
        have hZb : Z ≤ 63 := by have := hZ.out; omega
        have hZw : IntKind.u64.wrap (63 - (lead : Int) - (tail : Int)) = (Z : Int) := by rw [IntKind.wrap_u64, hZ.out]; omega
        have PT : ∀ W v2 M, M.length ≤ 1099511627000 → KR W c q s1 v2 M → Calls Tryd.prog 37 #[.pointer (some ⟨q, 0, none⟩), .int .u64 ((d : Int) / 2 ^ tail), .int .i64 (64 - (lead : Int) - (tail : Int))] W fun e w' => e = .returned (.tuple #[]) ∧
            ∃ u', KR w' c q s1 u' (M ++ bitsOf (d / 2 ^ tail) (64 - lead - tail)) ∧ RStep W w' q c v2 u' M (M ++ bitsOf (d / 2 ^ tail) (64 - lead - tail)) := fun W v2 M hM hk => by
          rw [shr_nat, show 64 - (lead : Int) - (tail : Int) = ((64 - lead - tail : Nat) : Int) from by omega]
          exact krput_any W c q s1 v2 _ (d / 2 ^ tail) (64 - lead - tail) (Nat.lt_of_le_of_lt (Nat.div_le_self _ _) hdb) (by omega) hk (by omega)
        have FIN : ∀ w8 v8 M, KR w8 c q s1 v8 M → RStep w w8 q c u v8 L M → M = L ++ bitsOf 1 1 ++ bitsOf 1 1 ++ bitsOf lead 5 ++ bitsOf Z 6 ++ bitsOf (d / 2 ^ tail) (64 - lead - tail) →
            KR (((w8.setCell ⟨c, 2, none⟩ (.bool true)).setCell ⟨c, 3, none⟩ (.int .i64 (lead : Nat))).setCell ⟨c, 4, none⟩ (.int .i64 (tail : Nat))) c q s2 v8 (L ++ encV s x) ∧
            RStep w (((w8.setCell ⟨c, 2, none⟩ (.bool true)).setCell ⟨c, 3, none⟩ (.int .i64 (lead : Nat))).setCell ⟨c, 4, none⟩ (.int .i64 (tail : Nat))) q c u v8 L (L ++ encV s x) := fun w8 v8 M hk hR hM => by
          have h9 : JInv (((w8.setCell ⟨c, 2, none⟩ (.bool true)).setCell ⟨c, 3, none⟩ (.int .i64 (lead : Nat))).setCell ⟨c, 4, none⟩ (.int .i64 (tail : Nat))) c s2 := by
            have hr := ((hk.cw.row.set 2 (by simp) (.bool true)).set 3 (by simp) (.int .i64 (lead : Nat))).set 4 (by simp) (.int .i64 (tail : Nat))
            rw [hs1.out] at hr
            rw [hs2.out]
            exact ⟨hr, hx, hld, hld2⟩
          have hch9 : Chg (fun k => k = c) w8 (((w8.setCell ⟨c, 2, none⟩ (.bool true)).setCell ⟨c, 3, none⟩ (.int .i64 (lead : Nat))).setCell ⟨c, 4, none⟩ (.int .i64 (tail : Nat))) :=
            ((Chg.setCell w8 ⟨c, 2, none⟩ _).trans (Chg.setCell _ ⟨c, 3, none⟩ _) (fun _ _ x => x)).trans (Chg.setCell _ ⟨c, 4, none⟩ _) (fun _ _ x => x)
          obtain ⟨a1, a2⟩ := hk.coder h9 hch9
          have hMM : M = L ++ encV s x := by rw [hM, Hen.out, hZ.out]; simp only [List.append_assoc]
          rw [hMM] at a1 a2 hR
          exact ⟨a1, hR.trans a2⟩
        rcases hway with hw1 | ⟨hw1, hw2⟩ | ⟨hw1, hw2, hw3⟩
        all_goals
          rw [hw1] at k2
          go_upto_region 14 with (go_at_call 37; refine (krput_any w2 c q _ v2 _ 1 1 (by omega) (by omega) hcw2 (by omega)).mono ?_; rintro e w3 ⟨rfl, v3, hcw3, hS4⟩)
          go_upto_region 15 with (go_at_call 37; refine (krput_any w3 c q _ v3 _ lead 5 (by omega) (by omega) hcw3 (by rw [List.length_append, bitsOf_length]; omega)).mono ?_; rintro e w4 ⟨rfl, v4, hcw4, hS5⟩)
          go_upto_region 16 with (go_at_call 37; refine (krput_any w4 c q _ v4 _ Z 6 (by omega) (by omega) hcw4 (by rw [List.length_append, bitsOf_length, List.length_append, bitsOf_length]; omega)).mono ?_; rintro e w5 ⟨rfl, v5, hcw5, hS6⟩)
          go_upto_region 17 with (go_at_call 37; refine (PT w5 v5 _ (by rw [List.length_append, bitsOf_length, List.length_append, bitsOf_length, List.length_append, bitsOf_length]; omega) hcw5).mono ?_; rintro e w6 ⟨rfl, v6, hcw6, hS7⟩)
          have hfin := FIN w6 v6 _ hcw6 ((((hS3.trans hS4).trans hS5).trans hS6).trans hS7) rfl
          have f2 := (hcw6.cw.row 2 _ rfl).2
          have f3 := (hcw6.cw.row 3 _ rfl).2
          have f4 := (hcw6.cw.row 4 _ rfl).2
          have n2 := (hcw6.cw.row 2 _ rfl).1
          have n3 := (hcw6.cw.row 3 _ rfl).1
          have n4 := (hcw6.cw.row 4 _ rfl).1
          clear hcw2 hcw3 hcw4 hcw5 hcw6 hS2 hS3 hS4 hS5 hS6 hS7 FIN PT
          go_wp2
          go_end0
          rw [Hnx.out]
          exact ⟨rfl, v6, hfin.1, hfin.2⟩
end Go.Proofs.YtdegmeclcbndgaaDoor
