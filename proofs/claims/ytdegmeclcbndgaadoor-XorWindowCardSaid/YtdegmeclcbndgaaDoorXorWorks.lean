/- The patterns' own test. -/
import Derived.Test.YtdegmeclcbndgaaDoorXorB
namespace Go.Proofs.YtdegmeclcbndgaaDoor
open Go.RowKit Bit Tim Xo

set_option maxRecDepth 100000 in
set_option maxHeartbeats 2000000 in
theorem xworks_any (w : World) (hT : Tab w) : Calls Tryd.prog 23 #[] w fun e w' => e = .returned (.bool true) ∧ Below w.heap.size w w' := by
  go_enter Tryd.func23, Tryd.ntmps23
  go_upto_region 4 with (first
    | (go_at_call 12; refine (xornew_any _).mono ?_; rintro e w1 ⟨rfl, hc1, hb1⟩)
    | (go_at_call 13; refine (newwriter_any _).mono ?_; rintro e w2 ⟨rfl, hw2, hb2⟩))
  have hP := kp_start w w1 w2 hT hc1 hb1 hw2 hb2
  have hB := below_tr hb1 hb2
  clear hc1 hb1 hw2 hb2
  obtain ⟨p, hp⟩ : ∃ p, Hid (p = w1.heap.size) := ⟨_, Lib.hid rfl⟩
  rw [← hp.out] at hP ⊢
  go_upto_region 5 with (go_at_call 14; refine (vput_kp _ _ _ _ _ _ 0 (by omega) hP (by simp)).mono ?_; rintro e w3 ⟨rfl, hP3, hb3⟩)
  obtain ⟨L1, hL1⟩ : ∃ L1, Hid (L1 = [] ++ encV XS.zero 0) := ⟨_, Lib.hid rfl⟩
  rw [← hL1.out] at hP3
  have hl1 : L1.length = 64 := by rw [hL1.out]; decide +kernel
  have hB3 := hB.trans hb3
  go_upto_region 6 with (go_at_call 14; refine (vput_kp _ _ _ _ _ _ 0 (by omega) hP3 (by omega)).mono ?_; rintro e w4 ⟨rfl, hP4, hb4⟩)
  obtain ⟨L2, hL2⟩ : ∃ L2, Hid (L2 = L1 ++ encV (XS.zero.next 0) 0) := ⟨_, Lib.hid rfl⟩
  rw [← hL2.out] at hP4
  have hl2 : L2.length = 65 := by rw [hL2.out, List.length_append, hl1]; decide +kernel
  have hB4 := hB3.trans hb4
  have LEN := len_kp _ _ _ _ _ _ hP4
  rw [hl2] at LEN
  go_upto_region 7 with (go_at_call 16; refine LEN.mono ?_; rintro e w' ⟨rfl, rfl⟩)
  go_upto_region 8 with (go_at_call 14; refine (vput_kp _ _ _ _ _ _ 1 (by omega) hP4 (by omega)).mono ?_; rintro e w5 ⟨rfl, hP5, hb5⟩)
  obtain ⟨L3, hL3⟩ : ∃ L3, Hid (L3 = L2 ++ encV ((XS.zero.next 0).next 0) 1) := ⟨_, Lib.hid rfl⟩
  rw [← hL3.out] at hP5
  have hl3 : L3.length = 111 := by rw [hL3.out, List.length_append, hl2]; decide +kernel
  have hB5 := hB4.trans hb5
  have LEN5 : ∀ W, Below w5.heap.size w5 W → Calls Tryd.prog 16 #[.pointer (some ⟨p, 0, none⟩)] W fun e w' => e = .returned (.int .i64 111) ∧ W = w' := fun W hW => by
    have := len_kp _ _ _ _ _ _ (hP5.keep hW)
    rw [hl3] at this; exact this
  go_upto_region 9 with (first
    | (go_at_call 12; refine (xornew_any _).mono ?_; rintro e w6 ⟨rfl, hc6, hb6⟩)
    | (go_at_call 17; refine (text_kp _ _ _ _ _ _ (hP5.keep hb6)).mono ?_; rintro e w' ⟨rfl, rfl⟩)
    | (go_at_call 16; refine (LEN5 _ hb6).mono ?_; rintro e w' ⟨rfl, rfl⟩)
    | (go_at_call 19; have NR := newreader_of w6 L3 (by omega); rw [hl3] at NR; refine NR.mono ?_; rintro e w7 ⟨rfl, hr7, hb7⟩))
  have hdl : w5.heap.size < w6.heap.size := hc6.lt
  have hb67 := below_tr hb6 hb7
  have hR7 : KRP w7 w5.heap.size w5.heap.size w6.heap.size XS.zero L3 := ⟨hc6.keep (Chg.of_below (fun _ => False) hb7) (fun x => x), hr7, by omega, Nat.le_refl _, hb6.size, (hT.below hB5 hT.pos).below hb67 (by have := hT.pos; have := hB5.size; omega), by have := hT.pos; have := hB5.size; omega⟩
  have hB7 := below_tr hb6 hb7
  clear hc6 hb6 hr7 hb7
  obtain ⟨d, hd⟩ : ∃ d, Hid (d = w5.heap.size) := ⟨_, Lib.hid rfl⟩
  obtain ⟨r, hr⟩ : ∃ r, Hid (r = w6.heap.size) := ⟨_, Lib.hid rfl⟩
  rw [← hr.out] at hR7 ⊢
  have g1 : getV XS.zero L3 = some (0, 64) := by rw [hL3.out, hL2.out, hL1.out]; decide +kernel
  have g2 : getV (XS.zero.next 0) (L3.drop 64) = some (0, 1) := by rw [hL3.out, hL2.out, hL1.out]; decide +kernel
  have g3 : getV ((XS.zero.next 0).next 0) ((L3.drop 64).drop 1) = some (1, 46) := by rw [hL3.out, hL2.out, hL1.out]; decide +kernel
  go_upto_region 12 with (go_at_call 21; refine (vget_rp _ _ _ _ _ _ hR7).mono ?_; rintro e w8 ⟨t8, ok8, rfl, hb8, hy8, hn8⟩)
  cases ok8 with
  | false => rw [(hn8 rfl).1] at g1; cases g1
  | true =>
  obtain ⟨n8, e8, hR8⟩ := hy8 rfl
  rw [g1] at e8; cases e8
  go_upto_region 13 with (go_at_call 21; refine (vget_rp _ _ _ _ _ _ hR8).mono ?_; rintro e w9 ⟨t9, ok9, rfl, hb9, hy9, hn9⟩)
  cases ok9 with
  | false => rw [(hn9 rfl).1] at g2; cases g2
  | true =>
  obtain ⟨n9, e9, hR9⟩ := hy9 rfl
  rw [g2] at e9; cases e9
  go_upto_region 14 with (go_at_call 21; refine (vget_rp _ _ _ _ _ _ hR9).mono ?_; rintro e w10 ⟨t10, ok10, rfl, hb10, hy10, hn10⟩)
  cases ok10 with
  | false => rw [(hn10 rfl).1] at g3; cases g3
  | true =>
  obtain ⟨n10, e10, hR10⟩ := hy10 rfl
  rw [g3] at e10; cases e10
  have hB10 : Below w5.heap.size w5 w10 := ((hB7.trans hb8).trans hb9).trans hb10
  have LN := LEN5 _ hB10
  have hBw : Below w.heap.size w w10 := below_tr hB5 hB10
  clear g1 g2 g3 hR7 hR8 hR9 hR10 hy8 hn8 hy9 hn9 hy10 hn10 LEN5 LEN
  go_wp2_with (go_at_call 16; refine LN.mono ?_; rintro e w' ⟨rfl, rfl⟩)
  go_ret
  exact ⟨rfl, hBw⟩
end Go.Proofs.YtdegmeclcbndgaaDoor
