/- The document's writer of times. -/
import Derived.Test.YtdegmeclcbndgaaDoorTimW
import Derived.Test.YtdegmeclcbndgaaDoorBitR
namespace Go.Proofs.YtdegmeclcbndgaaDoor
open Go.RowKit Bit Tim

/-- Bits written by the document's writer, upon whatever else was done outside of its memory. -/
structure RStep (w w' : World) (q c : Nat) (u u' : Value) (L L' : List Bool) : Prop where
  inv : RInv w' q u' L'
  own : ∀ g, u'.ownBlock = some g → u.ownBlock = some g ∨ w.heap.size ≤ g
  chg : Chg (fun k => fpW q u k ∨ k = c) w w'

theorem RStep.trans {w w1 w2 : World} {p c : Nat} {v v1 v2 : Value} {L L1 L2 : List Bool} (h : RStep w w1 p c v v1 L L1) (k : RStep w1 w2 p c v1 v2 L1 L2) : RStep w w2 p c v v2 L L2 := by
  have hs := h.chg.size
  refine ⟨k.inv, fun g hg => ?_, h.chg.trans k.chg (fun b hb hf => ?_)⟩
  · rcases k.own g hg with h1 | h1
    · exact h.own g h1
    · right; omega
  · rcases hf with (rfl | h1) | h1
    · exact .inl (.inl rfl)
    · rcases h.own b h1 with h2 | h2
      · exact .inl (.inr h2)
      · omega
    · exact .inr h1

/-- The document's coder and writer, apart. -/
structure CR (w : World) (c q : Nat) (s : St) (u : Value) (L : List Bool) : Prop where
  cw : CInv w c s
  ww : RInv w q u L
  ne : c ≠ q
  nv : u.ownBlock ≠ some c

theorem CR.coder {w w' : World} {c q : Nat} {s s' : St} {u : Value} {L : List Bool} (h : CR w c q s u L) (hc : CInv w' c s') (hb : Chg (fun k => k = c) w w') : CR w' c q s' u L ∧ RStep w w' q c u u L L := by
  have hk : RInv w' q u L := h.ww.keep hb (by
    rintro k (rfl | hk) hF
    · exact h.ne hF.symm
    · rw [hF] at hk; exact h.nv hk)
  exact ⟨⟨hc, hk, h.ne, h.nv⟩, hk, fun _ hg => .inl hg, hb.mono (fun _ _ x => .inr x)⟩

theorem crput_any (w : World) (c q : Nat) (s : St) (u : Value) (L : List Bool) (x n : Nat) (hx : x < 18446744073709551616) (hn : n ≤ 64) (h : CR w c q s u L) (hL : L.length ≤ 1099511627776) :
    Calls Tryd.prog 37 #[.pointer (some ⟨q, 0, none⟩), .int .u64 x, .int .i64 n] w fun e w' => e = .returned (.tuple #[]) ∧
      ∃ u', CR w' c q s u' (L ++ bitsOf x n) ∧ RStep w w' q c u u' L (L ++ bitsOf x n) := by
  have P1 := refput_any w q u L x n hx h.ww hL (by omega) (by omega)
  have emm : (max (min (n : Int) 64) 0).toNat = n := by omega
  rw [emm] at P1
  refine P1.mono ?_
  rintro e w' ⟨rfl, u', h1, h2, h3⟩
  have hcl : c < w.heap.size := World.block_lt_of_cell? w _ h.cw.c0
  refine ⟨rfl, u', ⟨h.cw.keep h3 ?_, h1, h.ne, fun e => ?_⟩, h1, h2, h3.mono (fun _ _ y => .inl y)⟩
  · rintro (hk | hk)
    · exact h.ne hk
    · exact h.nv hk
  · rcases h2 c e with h4 | h4
    · exact h.nv h4
    · omega

theorem crput2_any (w : World) (c q : Nat) (s : St) (u : Value) (L : List Bool) (x n : Nat) (y : Int) (m U : Nat) (hx : x < 18446744073709551616) (hn : n ≤ 64) (hU : IntKind.u64.wrap y = (U : Int)) (hUb : U < 18446744073709551616) (hm : m ≤ 64) (h : CR w c q s u L) (hL : L.length ≤ 1099511627000) :
    Calls Tryd.prog 56 #[.pointer (some ⟨q, 0, none⟩), .int .u64 x, .int .i64 n, .int .i64 y, .int .i64 m] w fun e w' => e = .returned (.tuple #[]) ∧
      ∃ u', CR w' c q s u' (L ++ (bitsOf x n ++ bitsOf U m)) ∧ RStep w w' q c u u' L (L ++ (bitsOf x n ++ bitsOf U m)) := by
  go_enter Tryd.func56, Tryd.ntmps56
  go_upto_region 1 with (go_at_call 37; refine (crput_any w c q s u L x n hx hn h (by omega)).mono ?_; rintro e w4 ⟨rfl, v4, hcw4, hS4⟩)
  go_wp2_with (go_at_call 37; refine (crput_any _ c q _ v4 _ U m hUb hm hcw4 (by rw [List.length_append, bitsOf_length]; omega)).mono ?_; rintro e w6 ⟨rfl, v6, hcw6, hS6⟩)
  go_end0
  rw [List.append_assoc] at hcw6 hS6
  exact ⟨rfl, v6, hcw6, hS4.trans hS6⟩

set_option maxRecDepth 100000 in
set_option maxHeartbeats 2000000 in
theorem trput_any (w : World) (c q : Nat) (s : St) (u : Value) (L : List Bool) (t : Int) (h : CR w c q s u L) (hL : L.length ≤ 1099511620000) :
    Calls Tryd.prog 47 #[.pointer (some ⟨c, 0, none⟩), .pointer (some ⟨q, 0, none⟩), .int .i64 t] w fun e w' => e = .returned (.tuple #[]) ∧
      ∃ u', CR w' c q (s.next t) u' (L ++ encT s t) ∧ RStep w w' q c u u' L (L ++ encT s t) := by
  have hC := h.cw
  have hC2 := hC
  obtain ⟨c0, c1, c2, f0, f1, f2⟩ := hC2
  cases hb : s.b with
  | false =>
    rw [hb] at c0
    have h1 := (hC.sb true).st t
    have hch : Chg (fun k => k = c) w ((w.setCell ⟨c, 0, none⟩ (.bool true)).setCell ⟨c, 1, none⟩ (.int .i64 t)) := (Chg.setCell w ⟨c, 0, none⟩ _).trans (Chg.setCell _ ⟨c, 1, none⟩ _) (fun _ _ x => x)
    obtain ⟨hcw, hS⟩ := h.coder h1 hch
    obtain ⟨U, hU⟩ : ∃ U, Hid (U = (IntKind.u64.wrap t).toNat) := ⟨_, Lib.hid rfl⟩
    have hUw : IntKind.u64.wrap t = (U : Int) := by rw [hU.out, IntKind.wrap_u64]; omega
    have hUb : U < 18446744073709551616 := by have := hU.out; rw [IntKind.wrap_u64] at this; omega
    have hnx : s.next t = ⟨true, t, s.d⟩ := by simp [St.next, hb]
    have hen : encT s t = bitsOf U 64 := by simp [encT, hb, hU.out]
    rw [hnx, hen]
    clear hnx hen h1 hch
    go_enter Tryd.func47, Tryd.ntmps47
    go_upto_region 3 with (fail)
    generalize ((w.setCell ⟨c, 0, none⟩ (.bool true)).setCell ⟨c, 1, none⟩ (.int .i64 t)) = w1 at hcw hS ⊢
    go_wp2_with (go_at_call 37; refine (crput_any w1 c q _ u L U 64 hUb (by omega) hcw (by omega)).mono ?_; rintro e w2 ⟨rfl, v2, hcw2, hS2⟩)
    refine bodyPost_ret (results_none rfl _ _ _) rfl ?_
    exact ⟨rfl, v2, hcw2, hS.trans hS2⟩
  | true =>
    rw [hb] at c0
    obtain ⟨s2, hs2⟩ : ∃ s2 : St, Hid (s2 = ⟨true, t, wrap64 (t - s.t)⟩) := ⟨_, Lib.hid rfl⟩
    have hnx : s.next t = s2 := by simp [St.next, hb, hs2.out]
    obtain ⟨x, hx⟩ : ∃ x, Hid (x = chgX s t) := ⟨_, Lib.hid rfl⟩
    have hen : encT s t = encX x := by simp [encT, hb, hx.out]
    rw [hnx, hen]
    clear hnx hen
    have hxw : wrap64 (wrap64 (t - s.t) - s.d) = x := by rw [hx.out]; rfl
    have hxb : -9223372036854775808 ≤ x ∧ x < 9223372036854775808 := by rw [← hxw]; unfold wrap64; omega
    have h1 := (hC.st t).sd (wrap64 (t - s.t))
    have hch : Chg (fun k => k = c) w ((w.setCell ⟨c, 1, none⟩ (.int .i64 t)).setCell ⟨c, 2, none⟩ (.int .i64 (wrap64 (t - s.t)))) := (Chg.setCell w ⟨c, 1, none⟩ _).trans (Chg.setCell _ ⟨c, 2, none⟩ _) (fun _ _ x => x)
    rw [hb] at h1
    have h1' : CInv ((w.setCell ⟨c, 1, none⟩ (.int .i64 t)).setCell ⟨c, 2, none⟩ (.int .i64 (wrap64 (t - s.t)))) c s2 := by rw [hs2.out]; exact h1
    obtain ⟨hcw, hS⟩ := h.coder h1' hch
    clear h1 h1' hch
    have hx1 : -9223372036854775808 ≤ x := hxb.1
    have hx2 : x < 9223372036854775808 := hxb.2
    go_enter Tryd.func47, Tryd.ntmps47
    go_upto_region 9 with (fail)
    generalize ((w.setCell ⟨c, 1, none⟩ (.int .i64 t)).setCell ⟨c, 2, none⟩ (.int .i64 (wrap64 (t - s.t)))) = w1 at hcw hS ⊢
    rw [hxw]
    rcases (by omega : x = 0 ∨ (¬ x = 0 ∧ -63 ≤ x ∧ x ≤ 64) ∨ (¬ (-63 ≤ x ∧ x ≤ 64) ∧ -255 ≤ x ∧ x ≤ 256) ∨ (¬ (-255 ≤ x ∧ x ≤ 256) ∧ -2047 ≤ x ∧ x ≤ 2048) ∨ ¬ (-2047 ≤ x ∧ x ≤ 2048)) with hc0 | ⟨hc1, hc2, hc3⟩ | ⟨hc1, hc2, hc3⟩ | ⟨hc1, hc2, hc3⟩ | hc1
    · have hen : encX x = bitsOf 0 1 := by rw [hc0]; rfl
      go_wp2_with (go_at_call 37; refine (crput_any w1 c q _ u L 0 1 (by omega) (by omega) hcw (by omega)).mono ?_; rintro e w2 ⟨rfl, v2, hcw2, hS2⟩)
      go_end0
      rw [hen]
      exact ⟨rfl, v2, hcw2, hS.trans hS2⟩
    · obtain ⟨U, hU⟩ : ∃ U, Hid (U = (x + 63).toNat) := ⟨_, Lib.hid rfl⟩
      have hUw : x + 63 = (U : Int) := by rw [hU.out]; omega
      have hUb : U < 18446744073709551616 := by have := hU.out; omega
      have hUw2 : IntKind.u64.wrap (U : Int) = (U : Int) := by rw [IntKind.wrap_u64]; omega
      have hen : encX x = bitsOf 2 2 ++ bitsOf U 7 := by
        unfold encX
        simp only [hU.out]
        repeat rw [if_neg (by omega)]
        rw [if_pos (by omega)]
      have P1 := crput2_any w1 c q _ u L 2 2 (U : Int) 7 U (by omega) (by omega) hUw2 hUb (by omega) hcw (by omega)
      go_wp2_with (go_at_call 56; refine P1.mono ?_; rintro e w2 ⟨rfl, v2, hcw2, hS2⟩)
      all_goals
        go_end0
        rw [hen]
        exact ⟨rfl, v2, hcw2, hS.trans hS2⟩
    · obtain ⟨U, hU⟩ : ∃ U, Hid (U = (x + 255).toNat) := ⟨_, Lib.hid rfl⟩
      have hUw : x + 255 = (U : Int) := by rw [hU.out]; omega
      have hUb : U < 18446744073709551616 := by have := hU.out; omega
      have hUw2 : IntKind.u64.wrap (U : Int) = (U : Int) := by rw [IntKind.wrap_u64]; omega
      have hen : encX x = bitsOf 6 3 ++ bitsOf U 9 := by
        unfold encX
        simp only [hU.out]
        repeat rw [if_neg (by omega)]
        rw [if_pos (by omega)]
      have P1 := crput2_any w1 c q _ u L 6 3 (U : Int) 9 U (by omega) (by omega) hUw2 hUb (by omega) hcw (by omega)
      go_wp2_with (go_at_call 56; refine P1.mono ?_; rintro e w2 ⟨rfl, v2, hcw2, hS2⟩)
      all_goals
        go_end0
        rw [hen]
        exact ⟨rfl, v2, hcw2, hS.trans hS2⟩
    · obtain ⟨U, hU⟩ : ∃ U, Hid (U = (x + 2047).toNat) := ⟨_, Lib.hid rfl⟩
      have hUw : x + 2047 = (U : Int) := by rw [hU.out]; omega
      have hUb : U < 18446744073709551616 := by have := hU.out; omega
      have hUw2 : IntKind.u64.wrap (U : Int) = (U : Int) := by rw [IntKind.wrap_u64]; omega
      have hen : encX x = bitsOf 14 4 ++ bitsOf U 12 := by
        unfold encX
        simp only [hU.out]
        repeat rw [if_neg (by omega)]
        rw [if_pos (by omega)]
      have P1 := crput2_any w1 c q _ u L 14 4 (U : Int) 12 U (by omega) (by omega) hUw2 hUb (by omega) hcw (by omega)
      go_wp2_with (go_at_call 56; refine P1.mono ?_; rintro e w2 ⟨rfl, v2, hcw2, hS2⟩)
      all_goals
        go_end0
        rw [hen]
        exact ⟨rfl, v2, hcw2, hS.trans hS2⟩
    · obtain ⟨U, hU⟩ : ∃ U, Hid (U = (IntKind.u64.wrap x).toNat) := ⟨_, Lib.hid rfl⟩
      have hUw : IntKind.u64.wrap x = (U : Int) := by rw [hU.out, IntKind.wrap_u64]; omega
      have hUb : U < 18446744073709551616 := by have := hU.out; rw [IntKind.wrap_u64] at this; omega
      have hen : encX x = bitsOf 15 4 ++ bitsOf U 64 := by
        unfold encX
        simp only [hU.out]
        repeat rw [if_neg (by omega)]
      have P1 := crput2_any w1 c q _ u L 15 4 x 64 U (by omega) (by omega) hUw hUb (by omega) hcw (by omega)
      rcases (by omega : x < -2047 ∨ 2048 < x) with hd | hd
      all_goals
        go_wp2_with (go_at_call 56; refine P1.mono ?_; rintro e w2 ⟨rfl, v2, hcw2, hS2⟩)
        go_end0
        rw [hen]
        exact ⟨rfl, v2, hcw2, hS.trans hS2⟩
end Go.Proofs.YtdegmeclcbndgaaDoor
