/- The laws TimesCost and TimesEven. -/
import Derived.Test.YtknpcbildcbbnaaTimWorks
namespace Go.Proofs.Ytknpcbildcbbnaa
open Go.RowKit Bit Tim

namespace Tim
theorem encX_len_of (x : Int) : (encX x).length = if x = 0 then 1 else if -63 ≤ x ∧ x ≤ 64 then 9 else if -255 ≤ x ∧ x ≤ 256 then 12 else if -2047 ≤ x ∧ x ≤ 2048 then 16 else 68 := by
  unfold encX
  repeat' split
  all_goals simp [bitsOf_length]
theorem two_next (t d : Int) (hd : -9223372036854775808 ≤ d ∧ d < 9223372036854775808) : (St.zero.next t).next (wrap64 (t + d)) = ⟨true, wrap64 (t + d), d⟩ := by
  simp only [St.zero, St.next, if_true, Bool.false_eq_true, if_false]
  congr 1
  unfold wrap64; omega
theorem encT_at (T d x : Int) (hx : -9223372036854775808 ≤ x ∧ x < 9223372036854775808) (u : Int) (hu : u = wrap64 (wrap64 (T + d) + x)) : encT ⟨true, T, d⟩ u = encX x := by
  unfold encT
  rw [if_pos rfl]
  congr 1
  unfold chgX
  rw [hu]
  simp only
  unfold wrap64; omega
end Tim

set_option maxRecDepth 100000 in
set_option maxHeartbeats 2000000 in
theorem timesCost_walk (t d x : Int) (ht : (Lit.int .i64 t).wf = true) (hd : (Lit.int .i64 d).wf = true) (hx : (Lit.int .i64 x).wf = true) (w : World) :
    Calls Try.prog 11 #[.int .i64 t, .int .i64 d, .int .i64 x] w fun e w' => e = .returned (.bool true) ∧ Below w.heap.size w w' := by
  have ht := wf_i64 ht
  have hd := wf_i64 hd
  have hx := wf_i64 hx
  go_enter Try.func11, Try.ntmps11
  go_upto_region 4 with (first
    | (go_at_call 29; refine (tworks_any _).mono ?_; rintro e w0 ⟨rfl, hb0⟩)
    | (go_at_call 24; refine (timesnew_any _).mono ?_; rintro e w1 ⟨rfl, hc1, hb1⟩)
    | (go_at_call 12; refine (newwriter_any _).mono ?_; rintro e w2 ⟨rfl, hw2, hb2⟩))
  have hP := cp_start w0 w1 w2 hc1 hb1 hw2 hb2
  have hB := below_tr hb0 (below_tr hb1 hb2)
  have hsz0 := hb0.size
  clear hc1 hb1 hw2 hb2
  obtain ⟨p, hp⟩ : ∃ p, Hid (p = w1.heap.size) := ⟨_, Lib.hid rfl⟩
  obtain ⟨c, hc⟩ : ∃ c, Hid (c = w0.heap.size) := ⟨_, Lib.hid rfl⟩
  rw [← hp.out, ← hc.out] at hP ⊢
  go_upto_region 5 with (go_at_call 25; refine (tput_cp _ _ _ _ _ _ t hP (by simp)).mono ?_; rintro e w3 ⟨rfl, hP3, hb3⟩)
  have hB3 : Below c w2 w3 := hb3
  obtain ⟨T, hT⟩ : ∃ T, Hid (T = wrap64 (t + d)) := ⟨_, Lib.hid rfl⟩
  have hTw : wrap64 (t + d) = T := by rw [hT.out]
  have hl3 : ([] ++ encT St.zero t).length ≤ 200 := by have := encT_len St.zero t; rw [List.nil_append]; omega
  have hCB : c ≤ w2.heap.size := hP.le
  have P4 := tput_cp w3 _ _ _ _ _ (wrap64 (t + d)) hP3 (by omega)
  have h2 := two_next t d hd
  rw [h2] at P4
  obtain ⟨L, hL⟩ : ∃ L, Hid (L = [] ++ encT St.zero t ++ encT (St.zero.next t) (wrap64 (t + d))) := ⟨_, Lib.hid rfl⟩
  have hl4 : L.length ≤ 400 := by rw [hL.out, List.length_append]; have := encT_len (St.zero.next t) (wrap64 (t + d)); omega
  rw [← hL.out] at P4
  clear h2 hTw
  have hb0' := hb0
  clear hb0 hP hP3
  go_upto_region 6 with (go_at_call 25; refine P4.mono ?_; rintro e w4 ⟨rfl, hP4, hb4⟩)
  have LN := len_cp _ _ _ _ _ _ hP4
  have hb24 := hb3.trans hb4
  clear P4 hb3 hb4 hB3 hL
  go_upto_region 7 with (go_at_call 15; refine LN.mono ?_; rintro e w' ⟨rfl, rfl⟩)
  have P5 := tput_cp w4 _ _ _ _ _ (wrap64 (wrap64 (wrap64 (t + d) + d) + x)) hP4 (by omega)
  rw [encT_at (wrap64 (t + d)) d x hx _ rfl] at P5
  clear LN
  go_upto_region 8 with (go_at_call 25; refine P5.mono ?_; rintro e w5 ⟨rfl, hP5, hb5⟩)
  have LN := len_cp _ _ _ _ _ _ hP5
  have hX := encX_len_of x
  rw [List.length_append] at LN
  have hb25 := hb24.trans hb5
  have hbw : Below w.heap.size w w5 := hB.trans (hb25.mono (by rw [hc.out]; exact hsz0))
  clear P5 hP5 hP4
  have hln : (L.length : Int) ≤ 400 := by omega
  obtain ⟨N, hN⟩ : ∃ N, Hid (N = L.length) := ⟨_, Lib.hid rfl⟩
  rw [← hN.out] at LN ⊢ hln
  rcases (by omega : x = 0 ∨ (¬ x = 0 ∧ -63 ≤ x ∧ x ≤ 64) ∨ (¬ (-63 ≤ x ∧ x ≤ 64) ∧ -255 ≤ x ∧ x ≤ 256) ∨ (¬ (-255 ≤ x ∧ x ≤ 256) ∧ -2047 ≤ x ∧ x ≤ 2048) ∨ (x < -2047) ∨ (2048 < x)) with h0 | ⟨h1, h2, h3⟩ | ⟨h1, h2, h3⟩ | ⟨h1, h2, h3⟩ | h1 | h1
  · rw [if_pos h0] at hX
    rw [hX, Int.natCast_add] at LN
    go_wp2_with (go_at_call 15; refine LN.mono ?_; rintro e w' ⟨rfl, rfl⟩)
    go_ret
    exact ⟨rfl, hbw⟩
  · rw [if_neg (by omega), if_pos (by omega)] at hX
    rw [hX, Int.natCast_add] at LN
    go_wp2_with (go_at_call 15; refine LN.mono ?_; rintro e w' ⟨rfl, rfl⟩)
    go_ret
    exact ⟨rfl, hbw⟩
  · rw [if_neg (by omega), if_neg (by omega), if_pos (by omega)] at hX
    rw [hX, Int.natCast_add] at LN
    rcases (by omega : x < -63 ∨ 64 < x) with hd1 | hd1
    · have e0 : ¬ x = 0 := by omega
      have e1 : ¬ -63 ≤ x := by omega
      have e2 : -255 ≤ x := by omega
      have e3 : x ≤ 256 := by omega
      clear h1 ht hd hx hl3 hl4 hX hsz0 hCB
      go_wp2_with (go_at_call 15; refine LN.mono ?_; rintro e w' ⟨rfl, rfl⟩)
      go_ret
      exact ⟨rfl, hbw⟩
    · have e0 : ¬ x = 0 := by omega
      have e1 : -63 ≤ x := by omega
      have e2 : ¬ x ≤ 64 := by omega
      have e3 : -255 ≤ x := by omega
      have e4 : x ≤ 256 := by omega
      clear h1 ht hd hx hl3 hl4 hX hsz0 hCB
      go_wp2_with (go_at_call 15; refine LN.mono ?_; rintro e w' ⟨rfl, rfl⟩)
      go_ret
      exact ⟨rfl, hbw⟩
  · rw [if_neg (by omega), if_neg (by omega), if_neg (by omega), if_pos (by omega)] at hX
    rw [hX, Int.natCast_add] at LN
    rcases (by omega : x < -255 ∨ 256 < x) with hd1 | hd1
    · have e0 : ¬ x = 0 := by omega
      have e1 : ¬ -63 ≤ x := by omega
      have e2 : ¬ -255 ≤ x := by omega
      have e3 : -2047 ≤ x := by omega
      have e4 : x ≤ 2048 := by omega
      clear h1 ht hd hx hl3 hl4 hX hsz0 hCB
      go_wp2_with (go_at_call 15; refine LN.mono ?_; rintro e w' ⟨rfl, rfl⟩)
      go_ret
      exact ⟨rfl, hbw⟩
    · have e0 : ¬ x = 0 := by omega
      have e1 : -63 ≤ x := by omega
      have e2 : ¬ x ≤ 64 := by omega
      have e3 : -255 ≤ x := by omega
      have e4 : ¬ x ≤ 256 := by omega
      have e5 : -2047 ≤ x := by omega
      have e6 : x ≤ 2048 := by omega
      clear h1 ht hd hx hl3 hl4 hX hsz0 hCB
      go_wp2_with (go_at_call 15; refine LN.mono ?_; rintro e w' ⟨rfl, rfl⟩)
      go_ret
      exact ⟨rfl, hbw⟩
  · rw [if_neg (by omega), if_neg (by omega), if_neg (by omega), if_neg (by omega)] at hX
    rw [hX, Int.natCast_add] at LN
    have e0 : ¬ x = 0 := by omega
    have e1 : ¬ -63 ≤ x := by omega
    have e2 : ¬ -255 ≤ x := by omega
    have e3 : ¬ -2047 ≤ x := by omega
    clear h1 ht hd hx hl3 hl4 hX hsz0 hCB
    go_wp2_with (go_at_call 15; refine LN.mono ?_; rintro e w' ⟨rfl, rfl⟩)
    go_ret
    exact ⟨rfl, hbw⟩
  · rw [if_neg (by omega), if_neg (by omega), if_neg (by omega), if_neg (by omega)] at hX
    rw [hX, Int.natCast_add] at LN
    have e0 : ¬ x = 0 := by omega
    have e1 : -63 ≤ x := by omega
    have e2 : ¬ x ≤ 64 := by omega
    have e3 : -255 ≤ x := by omega
    have e4 : ¬ x ≤ 256 := by omega
    have e5 : -2047 ≤ x := by omega
    have e6 : ¬ x ≤ 2048 := by omega
    clear h1 ht hd hx hl3 hl4 hX hsz0 hCB
    go_wp2_with (go_at_call 15; refine LN.mono ?_; rintro e w' ⟨rfl, rfl⟩)
    go_ret
    exact ⟨rfl, hbw⟩
end Go.Proofs.Ytknpcbildcbbnaa
