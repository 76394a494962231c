/- The law ChunkWrites. -/
import Derived.Test.YtdegmeclcbndgaaDoorCkS
namespace Go.Proofs.YtdegmeclcbndgaaDoor
open Go.RowKit Bit Tim Xo Dig Ck

set_option maxRecDepth 100000 in
set_option maxHeartbeats 2000000 in
theorem chunkWrites_walk (a : Option Addr) (len cap : Nat) (zs : List (Int × Int)) (hz : zs.length = len) (_hs : len * 16 ≤ 140737488351232) (w : World) (hT : Tab w) (hr : RowP .i64 .u64 w a zs) (hq : (a = none → cap = 0) ∧ len ≤ cap) :
    Calls Tryd.prog 8 #[.slice a len cap] w fun e w' => e = .returned (.bool true) ∧ Below w.heap.size w w' := by
  obtain ⟨hn, hcap⟩ := hq
  obtain ⟨ps, rfl⟩ := pts_of hr
  have hpl : ps.length = len := by rw [← hz]; simp [ptZ]
  obtain ⟨i0, hi, hz0, hz1, hz2⟩ := info_parts ptinfo
  go_enter Tryd.func8, Tryd.ntmps8
  by_cases hbig : 500 < len
  · have hbi : (500 : Int) < (len : Int) := by omega
    go_wp2
    go_ret
    exact ⟨rfl, Below.refl _ _⟩
  have hbi : ¬ (500 : Int) < (len : Int) := by omega
  have hsrc := hr.src cap hn
  rw [hz] at hsrc
  have hone := cellsP_one (ptZ ps)
  go_upto_region 4 with (at_builtin; refine wpList_copy_new (w0 := w) rfl _ _ 51 rfl 63 rfl i0 (.agg #[.int .i64 0, .int .u64 0]) 2 16 Tryd.underlying51 hi hz0 hz1 hz2 rfl (by decide) rfl a len cap (cellsP (ptZ ps)) rfl hsrc hone (by unfold maxLen; omega) (by omega) ?_; intro va w1 ho1 hb1 hva)
  obtain ⟨ua, uc, rfl, hru, hun, huc, _⟩ := own_rowP ho1 hr.wf
  clear hsrc hone ho1 hva
  have hT1 := hT.below hb1 hT.pos
  go_upto_region 5 with (go_at_call 25; refine (cenc_any ua len uc ps hpl (by omega) w1 hT1 hru).mono ?_; rintro e w2 ⟨rfl, hb2⟩)
  have hb12 := below_tr hb1 hb2
  go_upto_region 6 with (go_at_call 26; refine (rcenc_any a len cap ps hpl (by omega) w2 (hr.below hb12)).mono ?_; rintro e w3 ⟨rfl, hb3⟩)
  have hb13 := below_tr hb12 hb3
  have hru3 := (hru.below hb2).below hb3
  go_upto_region 7 with (first
    | (go_at_call 27; refine (csplit_any ua len uc ps hpl (by omega) w3 hun hru3).mono ?_; rintro e w4 ⟨va, xa, rfl, hoa, hpa, hfa, hb4⟩)
    | (go_at_call 28; refine (rsplit_any a len cap ps hpl (by omega) w4 hcap (hr.below (below_tr hb13 hb4))).mono ?_; rintro e w5 ⟨vb, xb, rfl, hob, hpb, hfb, hb5⟩))
  have hbel := below_tr (below_tr hb13 hb4) hb5
  have hoa5 := (Chg.of_below (fun _ => False) hb5).owns hoa (fun _ _ x => x)
  have hpa5 := hpa.below hb5
  have hru5 := (hru3.below hb4).below hb5
  have hr5 := hr.below hbel
  clear hoa hpa hb1 hb2 hb3 hb4 hb5 hb12 hb13 hru hru3
  obtain ⟨aa, ca, rfl⟩ := owns_slice hoa5
  obtain ⟨ab, cb, rfl⟩ := owns_slice hob
  have SM : ∀ W, RowP .i64 .u64 W ua (ptZ ps) → RowP .i64 .u64 W a (ptZ ps) → Calls Tryd.prog 29 #[.slice ua len uc, .slice a len cap] W fun e w' => e = .returned (.bool true) ∧ ∃ m, w' = W.drewN m := fun W h1 h2 =>
    (same_any ua a len uc len cap ps ps hpl hpl (by omega) (by omega) W h1 h2).mono (by
      rintro e w' ⟨rfl, hm⟩
      exact ⟨ret_bool (decide_eq_true rfl), hm⟩)
  go_upto_region 9 with (go_at_call 29; refine (SM _ hru5 hr5).mono ?_; rintro e w6 ⟨rfl, m0, rfl⟩)
  clear SM
  go_wp2
  go_loopw [10] (fun i wr => ∃ j m : Nat, j ≤ partN len ∧ i = .int .i64 j ∧ wr = w5.drewN m) (fun i _ => partN len - (intOf i).toNat)
  case atStart => exact ⟨0, m0, by omega, rfl, rfl⟩
  case round =>
    obtain ⟨j, m, hj, rfl, rfl⟩ := hrel
    have hpn : partN len ≤ 8 := by unfold partN; omega
    by_cases hlt : j < partN len
    · have hbm : Below w5.heap.size w5 (w5.drewN m) := below_drewN (Below.refl _ _) _
      obtain ⟨da, dca, p1, _, _, p4⟩ := (hpa5.below hbm).2 j hlt
      obtain ⟨db, dcb, q1, _, _, q4⟩ := (hpb.below hbm).2 j hlt
      obtain ⟨ga, ca2, hfa2, _, _, _⟩ := owns_form hoa5 (by omega)
      obtain ⟨gb, cb2, hfb2, _, _, _⟩ := owns_form hob (by omega)
      simp only [Value.slice.injEq, true_and] at hfa2 hfb2
      obtain ⟨rfl, rfl⟩ := hfa2
      obtain ⟨rfl, rfl⟩ := hfb2
      have hcl : (ckPart ps j).length = partL ps.length j := ckPart_len ps j
      have hpb64 : partL ps.length j ≤ 64 := by unfold partL; omega
      obtain ⟨L, hL⟩ : ∃ L, Hid (L = partL ps.length j) := ⟨_, Lib.hid rfl⟩
      rw [← hL.out] at p1 q1 hcl hpb64
      have ka0 := ((Chg.of_below (fun _ => False) hbm).owns hoa5 (fun _ _ x => x)).cells (g := ga) rfl j _ p1
      have kb0 := ((Chg.of_below (fun _ => False) hbm).owns hob (fun _ _ x => x)).cells (g := gb) rfl j _ q1
      have ka : (w5.drewN m).cell? ⟨ga, j, none⟩ = some (.slice (some da) (L) dca) := by rw [add_none, Nat.zero_add] at ka0; exact ka0
      have kb : (w5.drewN m).cell? ⟨gb, j, none⟩ = some (.slice (some db) (L) dcb) := by rw [add_none, Nat.zero_add] at kb0; exact kb0
      clear ka0 kb0
      have hji : (j : Int) < (partN len : Int) := by omega
      obtain ⟨w6, hw6⟩ : ∃ w6, Hid (w6 = w5.drewN m) := ⟨_, Lib.hid rfl⟩
      rw [← hw6.out] at ka kb p4 q4 ⊢
      have SM2 : ∀ W, Below w6.heap.size w6 W → Calls Tryd.prog 29 #[.slice (some da) (L) dca, .slice (some db) (L) dcb] W fun e w' => e = .returned (.bool true) ∧ ∃ m', w' = W.drewN m' := fun W hW =>
        (same_any (some da) (some db) (L) dca (L) dcb (ckPart ps j) (ckPart ps j) hcl hcl (by omega) (by omega) W (p4.below hW) (q4.below hW)).mono (by
          rintro e w' ⟨rfl, hm⟩
          exact ⟨ret_bool (decide_eq_true rfl), hm⟩)
      clear p1 q1 hcl hbm
      go_upto_region 12 with (fail)
      go_quiet ((go_at_call 29; exact Calls.quiet_of (SM2 _ (below_drewN (Below.refl _ _) _))))
      go_wp2
      go_roundw
      case rel => exact ⟨j + 1, m + nq, by omega, by go_num, by rw [hw6.out, World.drewN_drewN]⟩
      case measure => simp [intOf]; omega
    · have hji : ¬ (j : Int) < (partN len : Int) := by omega
      go_wp2
      go_ret
      exact ⟨rfl, below_drewN hbel _⟩
end Go.Proofs.YtdegmeclcbndgaaDoor
