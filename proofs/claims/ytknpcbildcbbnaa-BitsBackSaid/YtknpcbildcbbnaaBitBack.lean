/- The law BitsBack. -/
import Derived.Test.YtknpcbildcbbnaaBitFill
namespace Go.Proofs.Ytknpcbildcbbnaa
open Go.RowKit Bit

/-- How many bits. -/
def cntZ (N : Int) : Nat := (wrap64 ((IntKind.u64.wrap N).tmod 65)).toNat
theorem cntZ_eq (N : Int) : wrap64 ((IntKind.u64.wrap N).tmod 65) = (cntZ N : Int) ∧ cntZ N ≤ 64 := by
  obtain ⟨K, hK, hK2⟩ := umod_k N 65 (by omega) (by omega)
  have e : cntZ N = K := by unfold cntZ; rw [hK]; rfl
  rw [e]; exact ⟨hK, by omega⟩

theorem bitsZ_len (zs : List (Int × Int)) : ∀ j, (bitsZ cntZ zs j).length ≤ 64 * j := by
  intro j
  induction j with
  | zero => simp [bitsZ_zero]
  | succ j ih =>
    cases h : zs[j]? with
    | none =>
      have : bitsZ cntZ zs (j + 1) = bitsZ cntZ zs j := by unfold bitsZ; rw [List.take_add_one, h]; simp
      rw [this]; omega
    | some z =>
      rw [bitsZ_succ _ _ _ _ h, List.length_append, bitsOf_length]
      have := (cntZ_eq z.2).2
      omega

set_option maxRecDepth 100000 in
set_option maxHeartbeats 2000000 in
theorem bitsBack_walk (a : Option Addr) (len cap : Nat) (zs : List (Int × Int)) (hz : zs.length = len) (_hs : len * 16 ≤ 140737488351232) (w : World) (hr : RowP .u64 .i64 w a zs) :
    Calls Try.prog 5 #[.slice a len cap] w fun e w' => e = .returned (.bool true) ∧ Below w.heap.size w w' := by
  go_enter Try.func5, Try.ntmps5
  go_upto_region 3 with (go_at_call 23; refine (works_any _).mono ?_; rintro e w0 ⟨rfl, hb0⟩)
  go_wp2_with (go_at_call 12; refine (newwriter_any _).mono ?_; rintro e w1 ⟨rfl, hw1, hb1⟩)
  have hb01 := below_tr hb0 hb1
  obtain ⟨p, hp⟩ : ∃ p, Hid (p = w0.heap.size) := ⟨_, Lib.hid rfl⟩
  rw [← hp.out] at hw1 ⊢
  have hpw : w.heap.size ≤ p := by rw [hp.out]; exact hb0.size
  go_loopw [4, 5, 6] (fun sm i _n wr => ∃ (j : Nat) (v : Value), j ≤ 100 ∧ j ≤ len ∧ i = .int .i64 j ∧ sm = .int .i64 ((bitsZ cntZ zs j).length : Nat) ∧ One wr w.heap.size p v (bitsZ cntZ zs j) ∧ Below w.heap.size w wr) (fun _ i _ _ => 100 - (intOf i).toNat)
  case atStart =>
    refine ⟨0, .slice none 0 0, by omega, by omega, rfl, by rw [bitsZ_zero]; rfl, ⟨?_, hpw, fun g hg => by simp [Value.ownBlock] at hg⟩, hb01⟩
    rw [bitsZ_zero]; exact hw1
  case round =>
    obtain ⟨j, v1, hj, hjl0, rfl, rfl, hO, hbel⟩ := hrel
    by_cases hlt : j < len ∧ j < 100
    · have hr2 := hr.below hbel
      rcases hr2.row with h0 | ⟨x, rfl, hc⟩
      · rw [h0] at hz; simp at hz; omega
      have hzj := List.getElem?_eq_getElem (l := zs) (i := j) (by omega)
      obtain ⟨⟨V, N⟩, hVN⟩ : ∃ z, Hid (zs[j]'(by omega) = z) := ⟨_, Lib.hid rfl⟩
      rw [hVN.out] at hzj
      obtain ⟨hc0, hc1⟩ := hc j _ hzj
      have hwf := hr.wf (V, N) (List.mem_of_getElem? hzj)
      have hV := wf_u64 hwf.1
      have hN := wf_i64 hwf.2
      obtain ⟨V', rfl⟩ := Int.eq_ofNat_of_zero_le hV.1
      have HN := Lib.hid hN
      have HV := Lib.hid hV
      have hsucc := Lib.hid (bitsZ_succ cntZ zs j _ hzj)
      have Hle := Lib.hid (bitsZ_len zs j)
      clear hN hV hwf hzj hc
      simp only at hc0 hc1
      have hjl : (j : Int) < (len : Int) := by omega
      have hj6 : (j : Int) < 100 := by omega
      obtain ⟨hcz, hc64⟩ := cntZ_eq N
      obtain ⟨C, hC⟩ : ∃ C, Hid (C = cntZ N) := ⟨_, Lib.hid rfl⟩
      rw [← hC.out] at hcz hc64
      obtain ⟨S, hS⟩ : ∃ S, Hid (S = (bitsZ cntZ zs j).length) := ⟨_, Lib.hid rfl⟩
      rw [← hS.out]
      have hSb : S ≤ 6400 := by have := Hle.out; rw [hS.out]; omega
      have P1 := put_any wr p v1 (bitsZ cntZ zs j) V' C (by have := HV.out; simp only at this; omega) hO.w1 (by rw [← hS.out]; omega) (by omega) (by omega)
      have emm : (max (min (C : Int) 64) 0).toNat = C := by omega
      rw [emm] at P1
      go_wp2_with (go_at_call 13; refine P1.mono ?_; rintro e w2 ⟨rfl, v2, hw2, hv2, hc2⟩)
      go_roundw
      case rel =>
        have hL2 : bitsZ cntZ zs (j + 1) = bitsZ cntZ zs j ++ bitsOf V' C := by rw [hsucc.out, hC.out]; rfl
        have hw2' : WInv w2 p v2 (pack (bitsZ cntZ zs (j + 1))) (bitsZ cntZ zs (j + 1)).length := by rw [hL2, List.length_append, bitsOf_length]; exact hw2
        refine ⟨j + 1, v2, by omega, by omega, by go_num, ?_, hO.step hbel.size hw2' hv2, hbel.trans (hc2.below hbel.size hO.notp)⟩
        rw [hL2, List.length_append, bitsOf_length, ← hS.out]; go_num
      case measure => simp [intOf]; omega
    · have hW := hO.w1
      obtain ⟨L, hL⟩ : ∃ L, Hid (L = bitsZ cntZ zs j) := ⟨_, Lib.hid rfl⟩
      have hLl : L.length ≤ 6400 := by have := bitsZ_len zs j; rw [hL.out]; omega
      rw [← hL.out] at hW hO ⊢
      have hpk : (mkS (pack L)).size = (L.length + 7) / 8 := by rw [txt_size, pack_length]
      have hpk2 : ((mkS (pack L)).size : Int) = ((L.length : Int) + 7) / 8 := by rw [hpk]; omega
      have Hpk := Lib.hid hpk
      clear hpk
      have hLe : Hid (L.length = (bitsZ cntZ zs j).length) := Lib.hid (by rw [hL.out])
      have hwx : w.heap.size ≤ wr.heap.size := hbel.size
      have hex : ((j : Int) < (len : Int) ∧ (100 : Int) ≤ (j : Int)) ∨ (len : Int) ≤ (j : Int) := by omega
      rcases hex with ⟨hx1, hx2⟩ | hx1
      all_goals
        go_upto_region 14 with (first
          | (go_at_call 16; refine (text_any _ _ _ _ _ hW).mono ?_; rintro e w' ⟨rfl, rfl⟩)
          | (go_at_call 15; refine (len_any _ _ _ _ _ hW).mono ?_; rintro e w' ⟨rfl, rfl⟩)
          | (go_at_call 18; refine (newreader_any _ (mkS (pack L)) L.length L.length (by rw [Hpk.out]; omega) (by rw [Hpk.out]; omega)).mono ?_; rintro e w4 ⟨rfl, hw4, hb4⟩))
        have hbel4 := below_tr hbel hb4
        have hpsz : (mkS (pack L)).size ≤ 1000 ∧ L.length ≤ 8 * (mkS (pack L)).size := by rw [Hpk.out]; omega
        clear hO hb4 hW
        obtain ⟨q, hq⟩ : ∃ q, Hid (q = wr.heap.size) := ⟨_, Lib.hid rfl⟩
        rw [← hq.out] at hw4 ⊢
        have hwq : w.heap.size ≤ q := by rw [hq.out]; exact hwx
        clear hwx
        go_wp2
        go_loopw [8] (fun i wq => ∃ (i' : Nat), i' ≤ j ∧ i = .int .i64 i' ∧ DInv wq q (mkS (pack L)) (bitsZ cntZ zs i').length L.length ∧ Below w.heap.size w wq) (fun i _ => 100 - (intOf i).toNat)
        case atStart =>
          refine ⟨0, by omega, rfl, ?_, hbel4⟩
          rw [bitsZ_zero]; exact hw4
        case round =>
          rename_i wq
          obtain ⟨i', hij, rfl, hD, hbq⟩ := hrel
          by_cases hlt2 : i' < j
          · have hr2 := hr.below hbq
            rcases hr2.row with h0 | ⟨x, rfl, hc⟩
            · rw [h0] at hz; simp at hz; omega
            have hzj := List.getElem?_eq_getElem (l := zs) (i := i') (by omega)
            obtain ⟨⟨V, N⟩, hVN⟩ : ∃ z, Hid (zs[i']'(by omega) = z) := ⟨_, Lib.hid rfl⟩
            rw [hVN.out] at hzj
            obtain ⟨hc0, hc1⟩ := hc i' _ hzj
            have hwf := hr.wf (V, N) (List.mem_of_getElem? hzj)
            have hV := wf_u64 hwf.1
            have hN := wf_i64 hwf.2
            obtain ⟨V', rfl⟩ := Int.eq_ofNat_of_zero_le hV.1
            have hVb : V' < 18446744073709551616 := by have := hV.2; simp only at this; omega
            have hrd := bitsZ_read cntZ zs i' j _ hzj hlt2
            rw [← hL.out] at hrd
            have hsucc := Lib.hid (bitsZ_succ cntZ zs i' _ hzj)
            simp only at hc0 hc1 hrd
            obtain ⟨hcz, hc64⟩ := cntZ_eq N
            obtain ⟨C, hC⟩ : ∃ C, Hid (C = cntZ N) := ⟨_, Lib.hid rfl⟩
            rw [← hC.out] at hcz hc64 hrd
            have e0 : ((V' : Int)).toNat = V' := rfl
            rw [e0] at hrd
            obtain ⟨S, hS⟩ : ∃ S, Hid (S = (bitsZ cntZ zs i').length) := ⟨_, Lib.hid rfl⟩
            rw [← hS.out] at hrd hD
            have G1 := rget_some wr q (mkS (pack L)) S L.length C hD (by omega) hpsz.2 (by omega) hc64 hrd.1
            obtain ⟨R, hR⟩ : ∃ R, Hid (R = V' % 2 ^ C) := ⟨_, Lib.hid rfl⟩
            rw [txt_list, hrd.2, ← hR.out] at G1
            have hwr3 : ∀ w', Chg (fun k => k = q) wr w' → Below w.heap.size w w' := fun w' h => hbq.trans (h.below hbq.size (fun k hk e => by omega))
            have Hwr3 := Lib.hid hwr3
            clear hN hV hwf hzj hc hrd hwr3
            have hjl : (i' : Int) < (len : Int) := by omega
            have hj6 : (i' : Int) < 100 := by omega
            have hnext : ∀ w5, DInv w5 q (mkS (pack L)) (S + C) L.length → DInv w5 q (mkS (pack L)) (bitsZ cntZ zs (i' + 1)).length L.length := fun w5 h => by
              rw [hsucc.out, List.length_append, bitsOf_length, ← hC.out, ← hS.out]; exact h
            have Hnext := Lib.hid hnext
            clear hnext
            go_upto_region 19 with (go_at_call 20; refine G1.mono ?_; rintro e w5 ⟨rfl, hw5, hc5⟩)
            have hb5 := Hwr3.out _ hc5
            have hr5 := hr.below hb5
            rcases hr5.row with h0 | ⟨x', hx', hc3⟩
            · rw [h0] at hz; simp at hz; omega
            obtain rfl := Option.some.inj hx'
            have hzj := List.getElem?_eq_getElem (l := zs) (i := i') (by omega)
            rw [hVN.out] at hzj
            have hce0 := (hc3 i' _ hzj).1
            simp only at hce0
            clear hc3 hzj
            by_cases hCC : (C : Int) < 64
            · obtain ⟨D, hD2⟩ : ∃ D : Nat, Hid (D = 2 ^ C) := ⟨_, Lib.hid rfl⟩
              have hpw : IntKind.u64.wrap ((2 : Int) ^ C) = (D : Int) := by
                have h1 : ((2 : Int) ^ C) = ((2 ^ C : Nat) : Int) := by simp
                have h2 : 2 ^ C < 18446744073709551616 := by
                  have h3 : 2 ^ C < 2 ^ 64 := Nat.pow_lt_pow_right (by decide) (by omega)
                  exact h3
                rw [h1, ← hD2.out] at *
                rw [IntKind.wrap_u64]; omega
              have hD0 : 0 < D := by rw [hD2.out]; exact Nat.two_pow_pos _
              have hD1 : ¬ (D : Int) = 0 := by omega
              have hVR : (V' : Int) % (D : Int) = (R : Int) := by rw [hR.out, ← hD2.out]; simp
              go_wp2
              go_roundw
              case rel => exact ⟨i' + 1, by omega, by go_num, Hnext.out _ hw5, hb5⟩
              case measure => simp [intOf]; omega
            · have hC64 : C = 64 := by omega
              have hRV : V' = R := by rw [hR.out, hC64, Nat.mod_eq_of_lt hVb]
              subst hRV
              go_wp2
              go_roundw
              case rel => exact ⟨i' + 1, by omega, by go_num, Hnext.out _ hw5, hb5⟩
              case measure => simp [intOf]; omega
          · obtain rfl : i' = j := by omega
            rw [← hLe.out] at hD
            have G0 := left_d wr q _ L.length L.length 0 hD (Nat.le_refl _) (by omega) (by omega)
            go_wp2_with (go_at_call 22; refine G0.mono ?_; rintro e w5 ⟨rfl, m, rfl⟩)
            go_ret
            exact ⟨rfl, below_drewN hbq _⟩
end Go.Proofs.Ytknpcbildcbbnaa
