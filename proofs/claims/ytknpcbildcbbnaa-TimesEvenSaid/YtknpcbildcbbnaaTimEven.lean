/- The law TimesEven. -/
import Derived.Test.YtknpcbildcbbnaaTimCost
namespace Go.Proofs.Ytknpcbildcbbnaa
open Go.RowKit Bit Tim

namespace Tim
theorem even_next (t d : Int) (j : Nat) (h : -9223372036854775808 ≤ d ∧ d < 9223372036854775808) :
    encT ⟨true, wrap64 (t + wrap64 (((j : Nat) : Int) * d)), d⟩ (wrap64 (t + wrap64 (((j + 1 : Nat) : Int) * d))) = [false] ∧
    St.next ⟨true, wrap64 (t + wrap64 (((j : Nat) : Int) * d)), d⟩ (wrap64 (t + wrap64 (((j + 1 : Nat) : Int) * d))) = ⟨true, wrap64 (t + wrap64 (((j + 1 : Nat) : Int) * d)), d⟩ := by
  have e2 : ((j + 1 : Nat) : Int) * d = (j : Int) * d + d := by rw [Int.natCast_add, Int.add_mul]; simp
  rw [e2]
  generalize (j : Int) * d = y
  have e : wrap64 (t + wrap64 (y + d)) = wrap64 (wrap64 (wrap64 (t + wrap64 y) + d) + 0) := by unfold wrap64; omega
  constructor
  · rw [e, encT_at _ d 0 (by omega) _ rfl]; rfl
  · simp only [St.next, if_true]
    congr 1
    unfold wrap64; omega
end Tim

set_option maxRecDepth 100000 in
set_option maxHeartbeats 2000000 in
theorem timesEven_walk (t d n : Int) (ht : (Lit.int .i64 t).wf = true) (hd : (Lit.int .i64 d).wf = true) (hx : (Lit.int .i64 n).wf = true) (w : World) :
    Calls Try.prog 10 #[.int .i64 t, .int .i64 d, .int .i64 n] w fun e w' => e = .returned (.bool true) ∧ Below w.heap.size w w' := by
  have ht := wf_i64 ht
  have hd := wf_i64 hd
  have hx := wf_i64 hx
  obtain ⟨K, hK, hK1⟩ := umod_k n 100 (by decide) (by decide)
  have hK2 : K < 100 := by omega
  go_enter Try.func10, Try.ntmps10
  go_upto_region 5 with (first
    | (go_at_call 29; refine (tworks_any _).mono ?_; rintro e w0 ⟨rfl, hb0⟩)
    | (go_at_call 24; refine (timesnew_any _).mono ?_; rintro e w1 ⟨rfl, hc1, hb1⟩)
    | (go_at_call 12; refine (newwriter_any _).mono ?_; rintro e w2 ⟨rfl, hw2, hb2⟩))
  have hP := cp_start w0 w1 w2 hc1 hb1 hw2 hb2
  have hB := below_tr hb0 (below_tr hb1 hb2)
  have hsz0 := hb0.size
  clear hc1 hb1 hw2 hb2 hb0 hx hK1
  obtain ⟨p, hp⟩ : ∃ p, Hid (p = w1.heap.size) := ⟨_, Lib.hid rfl⟩
  obtain ⟨c, hc⟩ : ∃ c, Hid (c = w0.heap.size) := ⟨_, Lib.hid rfl⟩
  rw [← hp.out, ← hc.out] at hP ⊢
  go_upto_region 6 with (go_at_call 25; refine (tput_cp _ _ _ _ _ _ t hP (by simp)).mono ?_; rintro e w3 ⟨rfl, hP3, hb3⟩)
  have hl3 : ([] ++ encT St.zero t).length ≤ 200 := by have := encT_len St.zero t; rw [List.nil_append]; omega
  have hCB : c ≤ w2.heap.size := hP.le
  have P4 := tput_cp w3 _ _ _ _ _ (wrap64 (t + d)) hP3 (by omega)
  have h2 := two_next t d hd
  rw [h2] at P4
  obtain ⟨L, hL⟩ : ∃ L, Hid (L = [] ++ encT St.zero t ++ encT (St.zero.next t) (wrap64 (t + d))) := ⟨_, Lib.hid rfl⟩
  have hl4 : L.length ≤ 400 := by rw [hL.out, List.length_append]; have := encT_len (St.zero.next t) (wrap64 (t + d)); omega
  rw [← hL.out] at P4
  clear h2 hP hP3 hl3
  go_upto_region 7 with (go_at_call 25; refine P4.mono ?_; rintro e w4 ⟨rfl, hP4, hb4⟩)
  have LN := len_cp _ _ _ _ _ _ hP4
  have hb24 : Below w.heap.size w w4 := hB.trans ((hb3.trans hb4).mono (by rw [hc.out]; exact hsz0))
  have hcs : w.heap.size ≤ c := by rw [hc.out]; exact hsz0
  clear P4 hb3 hb4 hL hB hCB hsz0
  go_upto_region 8 with (go_at_call 15; refine LN.mono ?_; rintro e w' ⟨rfl, rfl⟩)
  clear LN
  have hst : (⟨true, wrap64 (t + d), d⟩ : St) = ⟨true, wrap64 (t + wrap64 (((1 : Nat) : Int) * d)), d⟩ := by
    congr 1; rw [Int.natCast_one, Int.one_mul]; unfold wrap64; omega
  rw [hst] at hP4
  clear hst
  have Hd := Lib.hid hd
  clear hd ht
  go_wp2
  go_loopw [10] (fun i wr => ∃ (j : Nat) (L1 : List Bool), j ≤ 98 ∧ i = .int .i64 (j + 2) ∧ (j = 0 ∨ j + 2 ≤ K) ∧ CP wr c c p ⟨true, wrap64 (t + wrap64 (((j + 1 : Nat) : Int) * d)), d⟩ L1 ∧ L1.length = L.length + j ∧ Below w.heap.size w wr) (fun i _ => 100 - (intOf i).toNat)
  case atStart => exact ⟨0, L, by omega, rfl, .inl rfl, hP4, by omega, hb24⟩
  case round =>
    obtain ⟨j, L1, hj, rfl, hjK, hC, hl, hbr⟩ := hrel
    clear hP4 hb24
    by_cases hlt : j + 2 < K
    · have hlti : (j : Int) + 2 < (K : Int) := by omega
      have hjb : (j : Int) ≤ 98 := by omega
      obtain ⟨n1, n2⟩ := even_next t d (j + 1) Hd.out
      have P5 := tput_cp wr _ _ _ _ _ (wrap64 (t + wrap64 (((j + 1 + 1 : Nat) : Int) * d))) hC (by omega)
      rw [n1, n2] at P5
      have hcast : (((j + 1 + 1 : Nat) : Int)) = (j : Int) + 2 := by omega
      clear n1 n2
      rw [hcast] at P5
      go_wp2_with (go_at_call 25; refine P5.mono ?_; rintro e w5 ⟨rfl, hP5, hb5⟩)
      go_roundw
      case rel =>
        refine ⟨j + 1, L1 ++ [false], by omega, by go_num, .inr (by omega), ?_, by rw [List.length_append, hl]; simp; omega, hbr.trans (hb5.mono hcs)⟩
        rw [hcast]; exact hP5
      case measure => simp [intOf]; omega
    · have hlti : ¬ ((j : Int) + 2 < (K : Int)) := by omega
      have LN := len_cp _ _ _ _ _ _ hC
      have hl4i : (L.length : Int) ≤ 400 := by omega
      have hjb : (j : Int) ≤ 98 := by omega
      have hKi : (K : Int) < 100 := by omega
      obtain ⟨N, hN⟩ : ∃ N, Hid (N = L.length) := ⟨_, Lib.hid rfl⟩
      rcases (by omega : (2 < (K : Int) ∧ (L1.length : Int) = (L.length : Int) + ((K : Int) - 2)) ∨ ((K : Int) ≤ 2 ∧ (L1.length : Int) = (L.length : Int))) with ⟨h2, hmx⟩ | ⟨h2, hmx⟩
      all_goals
        rw [hmx] at LN
        clear hmx hl hjK hC
        rw [← hN.out] at LN hl4i ⊢
        go_wp2_with (go_at_call 15; refine LN.mono ?_; rintro e w' ⟨rfl, rfl⟩)
        go_ret
        exact ⟨rfl, hbr⟩
end Go.Proofs.Ytknpcbildcbbnaa
