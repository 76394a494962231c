/- The points' own test; the law ChunkBack. -/
import Derived.Test.YtdegmeclcbndgaaDoorCkH
namespace Go.Proofs.YtdegmeclcbndgaaDoor
open Go.RowKit Bit Tim Xo Dig Ck

theorem w_enc : encS [((100 : Int), 0)] = [1, 1, 1, 128, 0, 0, 0, 0, 0, 0, 0, 100, 0, 0, 0, 0, 0, 0, 0, 0] := by decide +kernel
theorem w_err : encE [((100 : Int), 0)] = 0 := by decide +kernel
theorem w_dec : decC [1, 1, 1, 128, 0, 0, 0, 0, 0, 0, 0, 100, 0, 0, 0, 0, 0, 0, 0, 0] = (0, [((100 : Int), 0)]) := by
  have h1 := dec_enc [((100 : Int), 0)] w_err (fun a ha => by simp at ha; subst ha; decide)
  have h2 := (encE_ok [((100 : Int), 0)] (by decide) (by decide) rfl).2
  rw [← h2, w_enc] at h1
  exact h1

set_option maxRecDepth 100000 in
set_option maxHeartbeats 2000000 in
theorem ckworks_any (w : World) (hT : Tab w) :
    Calls Tryd.prog 30 #[] w fun e w' => e = .returned (.bool true) ∧ Below w.heap.size w w' := by
  have hb0 : Below w.heap.size w (w.alloc (.cells #[.int .i64 100, .int .u64 0] 63)) := (Below.refl _ _).alloc (Nat.le_refl _) _
  have hr0 : RowP .i64 .u64 (w.alloc (.cells #[.int .i64 100, .int .u64 0] 63)) (some ⟨w.heap.size, 0, none⟩) (ptZ [((100 : Int), 0)]) := by
    refine PairsAt.rowP (fun i z hz => ?_) (fun z hz => by simp [ptZ] at hz; subst hz; decide)
    have hrow := RowV.new w [.int .i64 100, .int .u64 0] 63
    match i, hz with
    | 0, hz => cases hz; exact ⟨(hrow 0 _ rfl).1, (hrow 1 _ rfl).1⟩
    | _ + 1, hz => simp [ptZ] at hz
  have EN := cenc_any (some ⟨w.heap.size, 0, none⟩) 1 1 [((100 : Int), 0)] rfl (by omega) _ (hT.below hb0 hT.pos) hr0
  rw [w_enc, w_err] at EN
  have DC := fun W hW => cdec_any (mkS [1, 1, 1, 128, 0, 0, 0, 0, 0, 0, 0, 100, 0, 0, 0, 0, 0, 0, 0, 0]) (by decide) W hW
  rw [mkS_data, w_dec] at DC
  go_enter Tryd.func30, Tryd.ntmps30
  go_upto_region 2 with (go_at_call 25; refine EN.mono ?_; rintro e w1 ⟨rfl, hb1⟩)
  have hb01 := below_tr hb0 hb1
  go_upto_region 3 with (go_at_call 31; refine (DC _ (hT.below hb01 hT.pos)).mono ?_; rintro y w2 ⟨v, rfl, ho, _, hb2⟩)
  have hb02 := below_tr hb01 hb2
  obtain ⟨g, cap, rfl, _, _, _⟩ := owns_form ho (by simp)
  have hcell := pairs_own ho 0 (100, 0) rfl
  obtain ⟨c0, c1⟩ := hcell
  simp only [Nat.mul_zero, Nat.add_zero, Nat.zero_add] at c0 c1
  clear ho EN DC
  have hL : (mkS [1, 1, 1, 128, 0, 0, 0, 0, 0, 0, 0, 100, 0, 0, 0, 0, 0, 0, 0, 0]).toList = [1, 1, 1, 128, 0, 0, 0, 0, 0, 0, 0, 100, 0, 0, 0, 0, 0, 0, 0, 0] := by rw [ByteArray.toList_eq]; rfl
  go_wp2
  go_ret
  exact ⟨rfl, hb02⟩

namespace Ck
theorem encE_len {ps : List (Int × Nat)} (h : encE ps = 0) : ps.length ≤ 64 := by
  unfold encE at h
  split at h
  · cases h
  · omega
theorem encBytes_size (ps : List (Int × Nat)) (h : ps.length ≤ 64) : (mkS (encBytes ps)).size ≤ 10000 := by
  have h1 := encB_len ps St.zero XS.zero
  have h2 : (encBits ps).length ≤ 9280 := by unfold encBits; omega
  have h3 := dig_len8 ps.length (by omega)
  have h4 := dig_len8 (encBits ps).length (by omega)
  rw [mkS_size]
  unfold encBytes
  rw [List.length_append, List.length_append, pack_length, numB_len, numB_len]
  omega
theorem mkS_data' (s : ByteArray) : mkS s.data.toList = s := by
  first | rfl | (rw [← ByteArray.toList_eq]; exact mkS_toList s)
theorem decC_nil (s : List UInt8) (h : (decC s).1 ≠ 0) : (decC s).2 = [] := by
  unfold decC at h ⊢
  repeat' split
  all_goals first | rfl | skip
  rename_i c1 c2 c3 c4 c5
  rw [if_neg c1, if_neg c2, if_neg c3, if_neg c4, if_neg c5] at h
  unfold decP at h ⊢
  repeat' split
  all_goals first | rfl | skip
  rename_i d1 d2
  rw [if_pos d1, if_pos d2] at h
  exact absurd rfl h
theorem fit_of {w : World} {a : Option Addr} {ps : List (Int × Nat)} (h : RowP .i64 .u64 w a (ptZ ps)) : FitP ps := fun p hp => by
  have h1 := h.wf (p.1, (p.2 : Int)) (List.mem_map.mpr ⟨p, hp, rfl⟩)
  have h2 := wf_i64 h1.1
  have h3 := wf_u64 h1.2
  simp only at h2 h3
  exact ⟨h2.1, h2.2, by omega⟩
theorem wf_fit {ps : List (Int × Nat)} (h : FitP ps) : ∀ z ∈ ptZ ps, (Lit.int .i64 z.1).wf = true ∧ (Lit.int .u64 z.2).wf = true := fun z hz => by
  obtain ⟨p, hp, rfl⟩ := List.mem_map.mp hz
  obtain ⟨h1, h2, h3⟩ := h p hp
  constructor
  · simp [Lit.wf, IntKind.min, IntKind.max, IntKind.signed, IntKind.bits]; omega
  · simp [Lit.wf, IntKind.min, IntKind.max, IntKind.signed, IntKind.bits]; omega
end Ck

set_option maxRecDepth 100000 in
set_option maxHeartbeats 2000000 in
theorem chunkBack_walk (a : Option Addr) (len cap : Nat) (zs : List (Int × Int)) (s : ByteArray) (hz : zs.length = len) (_hs : len * 16 ≤ 140737488351232) (_hss : s.size ≤ 140737488351232) (w : World) (hT : Tab w) (hr : RowP .i64 .u64 w a zs) (hq : (a = none → cap = 0) ∧ len ≤ cap) :
    Calls Tryd.prog 9 #[.slice a len cap, .string s] w fun e w' => e = .returned (.bool true) ∧ Below w.heap.size w w' := by
  obtain ⟨hn, hcap⟩ := hq
  obtain ⟨ps, rfl⟩ := pts_of hr
  have hpl : ps.length = len := by rw [← hz]; simp [ptZ]
  obtain ⟨i0, hi, hz0, hz1, hz2⟩ := info_parts ptinfo
  go_enter Tryd.func9, Tryd.ntmps9
  go_upto_region 3 with (go_at_call 30; refine (ckworks_any w hT).mono ?_; rintro e w0 ⟨rfl, hb0⟩)
  by_cases hbig : 500 < len
  · have hbi : (500 : Int) < (len : Int) := by omega
    go_wp2
    go_ret
    exact ⟨rfl, hb0⟩
  have hbi : ¬ (500 : Int) < (len : Int) := by omega
  by_cases hbs : 3000 < s.size
  · have hsi : (3000 : Int) < (s.size : Int) := by omega
    go_wp2
    go_ret
    exact ⟨rfl, hb0⟩
  have hsi : ¬ (3000 : Int) < (s.size : Int) := by omega
  have hr0 := hr.below hb0
  have hsrc := hr0.src cap hn
  rw [hz] at hsrc
  have hone := cellsP_one (ptZ ps)
  have hT0 := hT.below hb0 hT.pos
  go_upto_region 6 with (first
    | (at_builtin; refine wpList_copy_new (w0 := w0) rfl _ _ 51 rfl 63 rfl i0 (.agg #[.int .i64 0, .int .u64 0]) 2 16 Tryd.underlying51 hi hz0 hz1 hz2 rfl (by decide) rfl a len cap (cellsP (ptZ ps)) rfl hsrc hone (by unfold maxLen; omega) (by omega) ?_; intro va w1 ho1 hb1 hva; obtain ⟨ua, uc, rfl, hru, hun, huc, _⟩ := own_rowP ho1 hr0.wf)
    | (go_at_call 25; refine (cenc_any ua len uc ps hpl (by omega) w1 (hT0.below hb1 hT0.pos) hru).mono ?_; rintro e w2 ⟨rfl, hb2⟩))
  have hb02 := below_tr (below_tr hb0 hb1) hb2
  clear hsrc hone ho1 hva hb1 hb2 hru hr0
  have hT2 := hT.below hb02 hT.pos
  by_cases hE : encE ps = 0
  · have hl64 : ps.length ≤ 64 := encE_len hE
    have hfit := fit_of hr
    have hS : encS ps = encBytes ps := by unfold encS; rw [if_pos hE]
    have hde := dec_enc ps hE hfit
    have D1 := cdec_any (mkS (encS ps)) (by rw [hS]; exact encBytes_size ps hl64) w2 hT2
    rw [mkS_data, hS, hde] at D1
    rw [hS, hE]
    have hrw := hr.below hb02
    have Hr := Lib.hid hr
    clear hS hde hE hr
    go_upto_region 8 with (go_at_call 31; refine D1.mono ?_; rintro y w3 ⟨v3, rfl, ho3, _, hb3⟩)
    rw [hpl] at ho3
    obtain ⟨a3, c3, rfl, hr3, _, _, _⟩ := own_rowP ho3 (wf_fit hfit)
    have hb03 := below_tr hb02 hb3
    have SM := same_any a3 a len c3 len cap ps ps hpl hpl (by omega) (by omega) w3 hr3 (hrw.below hb3)
    rw [decide_eq_true rfl] at SM
    have Hpl := Lib.hid hpl
    clear D1 ho3 hr3 hrw hz hpl
    go_upto_region 10 with (go_at_call 29; refine SM.mono ?_; rintro y w4 ⟨rfl, m4, rfl⟩)
    have hb04 := below_drewN hb03 m4
    have hT4 := hT.below hb04 hT.pos
    obtain ⟨⟨E2, xs2⟩, hdd⟩ : ∃ r, Hid (decC s.data.toList = r) := ⟨_, Lib.hid rfl⟩
    have DD := cdec_any s (by omega) _ hT4
    rw [hdd.out] at DD
    by_cases hE2 : E2 = 0
    · subst hE2
      have ED := Lib.hid (enc_dec _ _ hdd.out)
      go_upto_region 11 with (go_at_call 31; refine DD.mono ?_; rintro y w5 ⟨v5, rfl, ho5, _, hb5⟩)
      obtain ⟨a5, c5, rfl, hr5, _, _, hl5⟩ := own_rowP ho5 (wf_fit ED.out.2.2)
      have hl6 : xs2.length ≤ 64 := encE_len ED.out.1
      have hb05 := below_tr hb04 hb5
      have hT5 := hT.below hb05 hT.pos
      have EN5 := cenc_any a5 xs2.length c5 xs2 rfl (by omega) w5 hT5 hr5
      have hE : encE xs2 = 0 := ED.out.1
      have hS : mkS (encS xs2) = s := by
        unfold encS; rw [if_pos hE, ED.out.2.1]; exact mkS_data' s
      rw [hE, hS] at EN5
      clear hE hS DD ho5 hr5 hl5
      go_wp2_with (go_at_call 25; refine EN5.mono ?_; rintro y w6 ⟨rfl, hb6⟩)
      go_ret
      exact ⟨rfl, below_tr hb05 hb6⟩
    · have hNil := decC_nil s.data.toList (by rw [hdd.out]; exact hE2)
      rw [hdd.out] at hNil
      simp only at hNil
      subst hNil
      have hEi : ¬ (E2 : Int) = 0 := by omega
      go_upto_region 11 with (go_at_call 31; refine DD.mono ?_; rintro y w5 ⟨v5, rfl, ho5, _, hb5⟩)
      have hb05 := below_tr hb04 hb5
      obtain ⟨a5, c5, rfl, hr5, _, _, hl5⟩ := own_rowP ho5 (by intro z hz; simp [ptZ] at hz)
      simp only [List.length_nil]
      clear DD ho5 hr5 hl5
      go_wp2
      go_ret
      exact ⟨rfl, hb05⟩
  · have hEi : ¬ (encE ps : Int) = 0 := by omega
    go_upto_region 10 with (fail)
    obtain ⟨⟨E2, xs2⟩, hdd⟩ : ∃ r, Hid (decC s.data.toList = r) := ⟨_, Lib.hid rfl⟩
    have DD := cdec_any s (by omega) w2 hT2
    rw [hdd.out] at DD
    by_cases hE2 : E2 = 0
    · subst hE2
      have ED := Lib.hid (enc_dec _ _ hdd.out)
      go_upto_region 11 with (go_at_call 31; refine DD.mono ?_; rintro y w5 ⟨v5, rfl, ho5, _, hb5⟩)
      obtain ⟨a5, c5, rfl, hr5, _, _, hl5⟩ := own_rowP ho5 (wf_fit ED.out.2.2)
      have hl6 : xs2.length ≤ 64 := encE_len ED.out.1
      have hb05 := below_tr hb02 hb5
      have hT5 := hT.below hb05 hT.pos
      have EN5 := cenc_any a5 xs2.length c5 xs2 rfl (by omega) w5 hT5 hr5
      have hE : encE xs2 = 0 := ED.out.1
      have hS : mkS (encS xs2) = s := by
        unfold encS; rw [if_pos hE, ED.out.2.1]; exact mkS_data' s
      rw [hE, hS] at EN5
      clear hE hS DD ho5 hr5 hl5
      go_wp2_with (go_at_call 25; refine EN5.mono ?_; rintro y w6 ⟨rfl, hb6⟩)
      go_ret
      exact ⟨rfl, below_tr hb05 hb6⟩
    · have hNil := decC_nil s.data.toList (by rw [hdd.out]; exact hE2)
      rw [hdd.out] at hNil
      simp only at hNil
      subst hNil
      have hEi : ¬ (E2 : Int) = 0 := by omega
      go_upto_region 11 with (go_at_call 31; refine DD.mono ?_; rintro y w5 ⟨v5, rfl, ho5, _, hb5⟩)
      have hb05 := below_tr hb02 hb5
      obtain ⟨a5, c5, rfl, hr5, _, _, hl5⟩ := own_rowP ho5 (by intro z hz; simp [ptZ] at hz)
      simp only [List.length_nil]
      clear DD ho5 hr5 hl5
      go_wp2
      go_ret
      exact ⟨rfl, hb05⟩
end Go.Proofs.YtdegmeclcbndgaaDoor
