/- The law XorBack. -/
import Derived.Test.YtdegmeclcbndgaaDoorXorWorks
import Derived.Test.YtdegmeclcbndgaaDoorSlice
namespace Go.Proofs.YtdegmeclcbndgaaDoor
open Go.RowKit Bit Tim Xo

set_option maxRecDepth 100000 in
set_option maxHeartbeats 2000000 in
theorem xorBack_walk (a : Option Addr) (len cap : Nat) (zs : List Int) (hz : zs.length = len) (_hl : len * 8 ≤ 140737488351232) (w : World) (hT : Tab w) (hr : RowI .u64 w a zs) :
    Calls Tryd.prog 5 #[.slice a len cap] w fun e w' => e = .returned (.bool true) ∧ Below w.heap.size w w' := by
  obtain ⟨xs, rfl, hxs⟩ := row_u64 hr
  rw [List.length_map] at hz
  go_enter Tryd.func5, Tryd.ntmps5
  go_upto_region 4 with (first
    | (go_at_call 23; refine (xworks_any _ hT).mono ?_; rintro e w0 ⟨rfl, hb0⟩)
    | (go_at_call 12; refine (xornew_any _).mono ?_; rintro e w1 ⟨rfl, hc1, hb1⟩)
    | (go_at_call 13; refine (newwriter_any _).mono ?_; rintro e w2 ⟨rfl, hw2, hb2⟩))
  have hT0 := hT.below hb0 hT.pos
  have hP := kp_start w0 w1 w2 hT0 hc1 hb1 hw2 hb2
  have hB := below_tr hb0 (below_tr hb1 hb2)
  have hsz0 := hb0.size
  clear hc1 hb1 hw2 hb2 hb0
  obtain ⟨p, hp⟩ : ∃ p, Hid (p = w1.heap.size) := ⟨_, Lib.hid rfl⟩
  obtain ⟨c, hc⟩ : ∃ c, Hid (c = w0.heap.size) := ⟨_, Lib.hid rfl⟩
  have hP' : KP w2 w.heap.size c p XS.zero [] := by
    rw [← hp.out] at hP; rw [hc.out]
    obtain ⟨v, h1, h2⟩ := hP.ex
    exact ⟨⟨v, h1, fun g hg => Nat.le_trans hsz0 (h2 g hg)⟩, hsz0, Nat.le_trans hsz0 hP.bp, hP.tab, hT.pos⟩
  rw [← hp.out, ← hc.out]
  clear hP
  go_wp2
  go_loopw [5] (fun i wr => ∃ (j : Nat), j ≤ 100 ∧ j ≤ len ∧ i = .int .i64 j ∧ KP wr w.heap.size c p (Xo.stR XS.zero (xs.take j)) (Xo.encR XS.zero (xs.take j)) ∧ Below w.heap.size w wr) (fun i _ => 100 - (intOf i).toNat)
  case atStart => exact ⟨0, by omega, by omega, rfl, hP', hB⟩
  case round =>
    obtain ⟨j, hj, hjn, rfl, hC, hbel⟩ := hrel
    clear hP' hB
    have hel := Xo.encR_len (xs.take j) XS.zero
    have hel2 : (Xo.encR XS.zero (xs.take j)).length ≤ 7700 := by rw [List.length_take] at hel; omega
    by_cases hlt : j < len ∧ j < 100
    · obtain ⟨hlt, h60⟩ := hlt
      have hr2 := hr.below hbel
      rcases hr2.row with h0 | ⟨x, rfl, hc⟩
      · have h0' := congrArg List.length h0; rw [List.length_map, hz] at h0'; simp at h0'; omega
      · have hzj := List.getElem?_eq_getElem (l := xs) (i := j) (by omega)
        obtain ⟨t, hVN⟩ : ∃ z, Hid (xs[j]'(by omega) = z) := ⟨_, Lib.hid rfl⟩
        rw [hVN.out] at hzj
        have hc0 : wr.cell? _ = some (.int .u64 (t : Nat)) := hc j _ (by rw [List.getElem?_map, hzj]; rfl)
        have Hzj := Lib.hid hzj
        have htk : xs.take (j + 1) = xs.take j ++ [t] := by rw [List.take_add_one, hzj]; rfl
        have hjl : (j : Int) < (len : Int) := by omega
        have hj6 : (j : Int) < 100 := by omega
        have Htk := Lib.hid htk
        clear hzj hc htk
        go_wp2_with (go_at_call 14; refine (vput_kp wr _ c p _ _ t (hxs t (List.mem_of_getElem? Hzj.out)) hC (by omega)).mono ?_; rintro e w3 ⟨rfl, hC3, hb3⟩)
        go_roundw
        case rel =>
          refine ⟨j + 1, by omega, by omega, by go_num, ?_, hbel.trans hb3⟩
          rw [Htk.out, Xo.encR_snoc, Xo.stR_snoc]; exact hC3
        case measure => simp [intOf]; omega
    · obtain ⟨J, hJ⟩ : ∃ J, Hid (J = xs.take j) := ⟨_, Lib.hid rfl⟩
      rw [← hJ.out] at hC hel2
      have hJl : J.length = j := by rw [hJ.out, List.length_take]; omega
      have hJg : ∀ (i : Nat) (t : Nat), J[i]? = some t → xs[i]? = some t := by
        intro i t h
        rw [hJ.out, List.getElem?_take] at h
        split at h
        · exact h
        · cases h
      obtain ⟨L, hL⟩ : ∃ L, Hid (L = Xo.encR XS.zero J) := ⟨_, Lib.hid rfl⟩
      rw [← hL.out] at hC hel2
      have TX : ∀ W, Below wr.heap.size wr W → Calls Tryd.prog 17 #[.pointer (some ⟨p, 0, none⟩)] W fun e w' => e = .returned (.string (mkS (pack L))) ∧ W = w' := fun W hW => text_kp _ _ _ _ _ _ (hC.keep hW)
      have LN : ∀ W, Below wr.heap.size wr W → Calls Tryd.prog 16 #[.pointer (some ⟨p, 0, none⟩)] W fun e w' => e = .returned (.int .i64 (L.length : Nat)) ∧ W = w' := fun W hW => len_kp _ _ _ _ _ _ (hC.keep hW)
      have hex : ((j : Int) < (len : Int) ∧ (100 : Int) ≤ (j : Int)) ∨ (len : Int) ≤ (j : Int) := by omega
      have hexit : j = len ∨ j = 100 := by omega
      have Hexit := Lib.hid hexit
      have HJl := Lib.hid hJl
      have HJg := Lib.hid hJg
      clear hexit hJl hJg hlt hel
      rcases hex with ⟨hx1, hx2⟩ | hx1
      all_goals
        go_upto_region 9 with (first
          | (go_at_call 12; refine (xornew_any _).mono ?_; rintro e w6 ⟨rfl, hc6, hb6⟩)
          | (go_at_call 17; refine (TX _ hb6).mono ?_; rintro e w' ⟨rfl, rfl⟩)
          | (go_at_call 16; refine (LN _ hb6).mono ?_; rintro e w' ⟨rfl, rfl⟩)
          | (go_at_call 19; refine (newreader_of w6 L (by omega)).mono ?_; rintro e w7 ⟨rfl, hr7, hb7⟩))
        have hdl : wr.heap.size < w6.heap.size := hc6.lt
        have hsw := hbel.size
        have hR7 : KRP w7 w.heap.size wr.heap.size w6.heap.size XS.zero L := ⟨hc6.keep (Chg.of_below (fun _ => False) hb7) (fun x => x), hr7, by omega, hsw, by omega, hT.below (hbel.trans ((below_tr hb6 hb7).mono hsw)) hT.pos, hT.pos⟩
        have hB7 := below_tr hbel (below_tr hb6 hb7)
        clear hc6 hb6 hr7 hb7 TX LN
        obtain ⟨d, hd⟩ : ∃ d, Hid (d = wr.heap.size) := ⟨_, Lib.hid rfl⟩
        obtain ⟨r, hrr⟩ : ∃ r, Hid (r = w6.heap.size) := ⟨_, Lib.hid rfl⟩
        rw [← hrr.out, ← hd.out] at hR7 ⊢
        clear hdl hsw
        go_wp2
        go_loopw [8] (fun i wq => ∃ (i' : Nat), i' ≤ j ∧ i = .int .i64 i' ∧ KRP wq w.heap.size d r (Xo.stR XS.zero (J.take i')) (encR (Xo.stR XS.zero (J.take i')) (J.drop i')) ∧ Below w.heap.size w wq) (fun i _ => 100 - (intOf i).toNat)
        case atStart =>
          refine ⟨0, by omega, rfl, ?_, hB7⟩
          rw [hL.out] at hR7; exact hR7
        case round =>
          obtain ⟨i', hij, rfl, hR, hbq⟩ := hrel
          clear hB7 hR7
          by_cases hlt2 : i' < j
          · have hJi := List.getElem?_eq_getElem (l := J) (i := i') (by rw [HJl.out]; exact hlt2)
            obtain ⟨t, hVN⟩ : ∃ z, Hid (J[i']'(by rw [HJl.out]; exact hlt2) = z) := ⟨_, Lib.hid rfl⟩
            rw [hVN.out] at hJi
            have hzi := HJg.out i' t hJi
            have hwf := hxs t (List.mem_of_getElem? hzi)
            have hdr : J.drop i' = t :: J.drop (i' + 1) := by
              have hlt3 : i' < J.length := by rw [HJl.out]; exact hlt2
              rw [List.drop_eq_getElem_cons hlt3, hVN.out]
            have htk : J.take (i' + 1) = J.take i' ++ [t] := by rw [List.take_add_one, hJi]; rfl
            rw [hdr] at hR
            obtain ⟨S, hS⟩ : ∃ S, Hid (S = Xo.stR XS.zero (J.take i')) := ⟨_, Lib.hid rfl⟩
            rw [← hS.out] at hR
            have hgt := getV_enc S hR.cd.ok t hwf (Xo.encR (S.next t) (J.drop (i' + 1)))
            have hR' : KRP wr w.heap.size d r S (encV S t ++ Xo.encR (S.next t) (J.drop (i' + 1))) := hR
            have Hnext : Hid (Xo.stR XS.zero (J.take (i' + 1)) = S.next t) := Lib.hid (by rw [htk, Xo.stR_snoc, hS.out])
            obtain ⟨RR, hRR⟩ : ∃ RR, Hid (RR = encV S t ++ Xo.encR (S.next t) (J.drop (i' + 1))) := ⟨_, Lib.hid rfl⟩
            have hdrop : RR.drop (encV S t).length = Xo.encR (S.next t) (J.drop (i' + 1)) := by rw [hRR.out, List.drop_append_of_le_length (Nat.le_refl _), List.drop_length, List.nil_append]
            rw [← hRR.out] at hR' hgt
            have Hdrop := Lib.hid hdrop
            have Hgt := Lib.hid hgt
            have HJi := Lib.hid hzi
            clear hdrop hgt hzi hwf hdr htk hJi hR
            have hjl : (i' : Int) < (len : Int) := by omega
            have hj6 : (i' : Int) < 100 := by omega
            go_upto_region 13 with (go_at_call 21; refine (vget_rp _ _ _ _ _ _ hR').mono ?_; rintro e w9 ⟨t9, ok9, rfl, hb9, hy9, hn9⟩)
            cases ok9 with
            | false => have := (hn9 rfl).1; rw [Hgt.out] at this; cases this
            | true =>
            obtain ⟨n9, e9, hR9⟩ := hy9 rfl
            rw [Hgt.out] at e9; cases e9
            rw [Hdrop.out] at hR9
            have hb5 := hbq.trans hb9
            have hr5 := hr.below hb5
            rcases hr5.row with h0 | ⟨x', rfl, hc3⟩
            · have h0' := congrArg List.length h0; rw [List.length_map, hz] at h0'; simp at h0'; omega
            have hce0 : w9.cell? _ = some (.int .u64 (t : Nat)) := hc3 i' _ (by rw [List.getElem?_map, HJi.out]; rfl)
            clear hc3 hy9 hn9
            go_wp2
            go_roundw
            case rel =>
              refine ⟨i' + 1, by omega, by go_num, ?_, hb5⟩
              rw [Hnext.out]; exact hR9
            case measure => simp [intOf]; omega
          · obtain rfl : i' = j := by omega
            have hnil : J.drop i' = [] := by rw [List.drop_eq_nil_iff, HJl.out]; exact Nat.le_refl _
            rw [hnil] at hR
            have hR' : KRP wr w.heap.size d r (Xo.stR XS.zero (J.take i')) [] := hR
            clear hR
            go_upto_region 16 with (go_at_call 21; refine (vget_rp _ _ _ _ _ _ hR').mono ?_; rintro e w9 ⟨t9, ok9, rfl, hb9, hy9, hn9⟩)
            cases ok9 with
            | true => obtain ⟨n9, e9, hR9⟩ := hy9 rfl; rw [getV_nil] at e9; cases e9
            | false =>
            obtain ⟨_, rfl, R', hR9, hl9⟩ := hn9 rfl
            obtain rfl : R' = [] := List.length_eq_zero_iff.mp (by simpa using hl9)
            have LF := dleft w9 r [] hR9
            have hb5 := hbq.trans hb9
            clear hy9 hn9
            go_wp2_with (go_at_call 24; refine LF.mono ?_; rintro e w10 ⟨rfl, m, rfl⟩)
            go_ret
            exact ⟨rfl, below_drewN hb5 _⟩
end Go.Proofs.YtdegmeclcbndgaaDoor
