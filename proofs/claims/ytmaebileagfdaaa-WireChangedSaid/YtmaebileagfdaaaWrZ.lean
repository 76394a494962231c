/- The law of messages that are changed. -/
import Derived.Test.YtmaebileagfdaaaWrV
import Derived.Test.YtmaebileagfdaaaWrArg
import Derived.Test.YtmaebileagfdaaaWrX
import Derived.Test.YtmaebileagfdaaaFrameLaw
namespace Go.Proofs.Ytmaebileagfdaaa
open Go.RowKit Dig Wr

set_option maxRecDepth 100000 in
set_option maxHeartbeats 4000000 in
theorem wireChanged_walk (m : Msg) (a : Option Addr) (n c : Nat) (at0 by0 : Int) (hm : MWf m) (hsu : m.su < 4294967296) (hn : m.rs.length = n) (hb16 : n * 16 ≤ 140737488351232) (hs : a = none → n = 0 ∧ c = 0) (_ha : (Lit.int .i64 at0).wf = true) (hb : (Lit.int .u8 by0).wf = true) (w : World) (hr : RowS w a m.rs) :
    Calls Try.prog 13 #[msgV m a n c, .int .i64 at0, .int .u8 by0] w fun e w' => e = .returned (.bool true) ∧ Below w.heap.size w w' := by
  obtain ⟨hb0, hb1⟩ := wf_u8 hb
  obtain ⟨by1, hby⟩ := u8_of hb0 hb1
  subst hby
  clear hb0 hb1
  have GR := fun W h => great_any m a n c hn (by omega) W h
  have OW := fun W h => own_any m a n c hn hb16 hs W h
  have h0 := RowV.new w [.int .i64 m.k, .int .i64 m.e, .int .i64 m.b, .int .i64 m.l, .int .i64 m.la, .int .i64 m.ap, .int .u32 (m.su : Nat), .slice a n c, .string m.tx] 80
  have hb0 : Below w.heap.size w (w.alloc (.cells #[.int .i64 m.k, .int .i64 m.e, .int .i64 m.b, .int .i64 m.l, .int .i64 m.la, .int .i64 m.ap, .int .u32 (m.su : Nat), .slice a n c, .string m.tx] 80)) := (Below.refl _ _).alloc (Nat.le_refl _) _
  obtain ⟨W1, hW1⟩ : ∃ W1, Hid (W1 = w.alloc (.cells #[.int .i64 m.k, .int .i64 m.e, .int .i64 m.b, .int .i64 m.l, .int .i64 m.la, .int .i64 m.ap, .int .u32 (m.su : Nat), .slice a n c, .string m.tx] 80)) := ⟨_, Lib.hid rfl⟩
  obtain ⟨p, hp⟩ : ∃ p, Hid (p = w.heap.size) := ⟨_, Lib.hid rfl⟩
  have hx1 : RowV W1 p [.int .i64 m.k, .int .i64 m.e, .int .i64 m.b, .int .i64 m.l, .int .i64 m.la, .int .i64 m.ap, .int .u32 (m.su : Nat), .slice a n c, .string m.tx] := by rw [hW1.out, hp.out]; exact h0
  have hb1 : Below w.heap.size w W1 := by rw [hW1.out]; exact hb0
  have hr1 := hr.below hb1
  clear h0 hb0
  unfold msgV at GR OW ⊢
  go_enter Try.func13, Try.ntmps13
  go_upto_region 1 with (fail)
  rw [← hW1.out, ← hp.out]
  go_upto_region 3 with (go_at_call 35; refine (wworks_any _).mono ?_; rintro y w2 ⟨rfl, hb2⟩)
  have hx2 := hx1.below hb2
  have hr2 := hr1.below hb2
  have hb02 := below_tr hb1 hb2
  clear hx1 hr1 hb1 hb2 hW1
  have mb0 := (hx2 0 _ rfl).1
  have mb1 := (hx2 1 _ rfl).1
  have mb2 := (hx2 2 _ rfl).1
  have mb3 := (hx2 3 _ rfl).1
  have mb4 := (hx2 4 _ rfl).1
  have mb5 := (hx2 5 _ rfl).1
  have mb6 := (hx2 6 _ rfl).1
  have mb7 := (hx2 7 _ rfl).1
  have mb8 := (hx2 8 _ rfl).1
  by_cases hby0 : by1 = 0
  · subst hby0
    go_wp2_with (go_at_call 36; refine (GR _ hr2).mono ?_; rintro y w3 ⟨⟨g, rfl⟩, hb3⟩; cases g)
    all_goals
      go_ret
      exact ⟨rfl, below_tr hb02 hb3⟩
  · have hbne : (((by1.toNat : Nat) : Int) == 0) = false := by rw [beq_eq_false_iff_ne]; intro e; exact hby0 (UInt8.toNat_inj.mp (by simpa using e))
    go_upto_region 5 with (go_at_call 36; refine (GR _ hr2).mono ?_; rintro y w3 ⟨⟨g, rfl⟩, hb3⟩; cases g)
    all_goals try (go_ret; exact ⟨rfl, below_tr hb02 hb3⟩)
    have hx3 := hx2.below hb3
    have hr3 := hr2.below hb3
    have hb03 := below_tr hb02 hb3
    clear mb0 mb1 mb2 mb3 mb4 mb5 mb6 mb7 mb8 hx2 hr2 hb3 hb02 GR
    have mb0 := (hx3 0 _ rfl).1
    have mb1 := (hx3 1 _ rfl).1
    have mb2 := (hx3 2 _ rfl).1
    have mb3 := (hx3 3 _ rfl).1
    have mb4 := (hx3 4 _ rfl).1
    have mb5 := (hx3 5 _ rfl).1
    have mb6 := (hx3 6 _ rfl).1
    have mb7 := (hx3 7 _ rfl).1
    have mb8 := (hx3 8 _ rfl).1
    obtain ⟨S, e, hE⟩ : ∃ S e, Hid (encW m = (S, e)) := ⟨_, _, Lib.hid rfl⟩
    have EN : ∀ W a' c', RowS W a' m.rs → Calls Try.prog 37 #[msgV m a' n c'] W fun e' w' => e' = .returned (.tuple #[.string (mkS S), .int .i64 (e : Nat)]) ∧ Below W.heap.size W w' := fun W a' c' h => by
      have := encode_any m hm hsu a' n c' hn (by omega) W h
      rw [hE.out] at this
      exact this
    by_cases he : e = 0
    · subst he
      obtain ⟨D, hD1, hD2, hD3, hD4⟩ := enc_ok (m := m) (by rw [hE.out])
      rw [hE.out] at hD2 hD3 hD4
      simp only at hD2 hD3 hD4
      have HD2 := Lib.hid hD2
      clear hD2
      have hszi : ((mkS S).size : Int) = (S.length : Int) := by rw [mkS_size]
      have hD3i : (18 : Int) ≤ (S.length : Int) := by omega
      have hD4i : (S.length : Int) ≤ 66000 := by omega
      obtain ⟨K, hK1, hK2⟩ := umod_k at0 (S.length : Int) (by omega) (by omega)
      have hKL : K < S.length := by omega
      have HK1 := Lib.hid hK1
      clear hK1
      go_upto_region 10 with (first
        | (go_at_call 38; refine (OW _ hr3).mono ?_; rintro y w4 ⟨a', c', rfl, hr4, hb4⟩)
        | (go_at_call 37; refine (EN _ a' c' hr4).mono ?_; rintro y w5 ⟨rfl, hb5⟩))
      have hb05 := below_tr hb03 (below_tr hb4 hb5)
      clear hx3 hr3 mb0 mb1 mb2 mb3 mb4 mb5 mb6 mb7 mb8 hb03 hb4 hb5 OW EN hr4
      go_cut [9] from 36 to 42 (fun k wx => k = .int .i64 K ∧ wx = w5)
      case first =>
        go_wp2
        go_meet
        case rel => exact ⟨by rw [HK1.out], rfl⟩
      case rest =>
        obtain ⟨rfl, rfl⟩ := hcut
        have hconv : ∀ w, _ := fun w => Lib.run_convert_string_bytes (P := Try.prog) (u := .string) w 9 47 5 (mkS S) (by kernel_rfl) (by kernel_rfl) (by kernel_rfl)
        go_upto_region 11 with (fail)
        go_cut [10] from 43 to 44 (fun b wc => ∃ g cap, b = .slice (some ⟨g, 0, none⟩) S.length cap ∧ w.heap.size ≤ g ∧ RowB wc g S ∧ Below w.heap.size w wc)
        case first =>
          go_wp2
          go_meet
          case rel =>
            have hr := bytesWorld_row wc 5 (mkS S)
            rw [mkS_data] at hr
            exact ⟨_, _, by rw [mkS_size], hb05.size, hr, below_tr hb05 (bytesWorld_below _ 5 (mkS S))⟩
        case rest =>
          obtain ⟨g, cap, rfl, HG, HR, HB1⟩ := hcut
          clear hconv hb05
          obtain ⟨z, hz, hzx⟩ := xor_byte (S[K]'hKL) by1 hby0
          obtain ⟨hcell, hfz⟩ := HR K S[K] (by rw [List.getElem?_eq_getElem hKL])
          have hs1 := HR.set K hKL z
          have hB2 := below_setCell HB1 HG (p := K) (.int .u8 (z.toNat : Nat))
          obtain ⟨E1, hE1, hE0⟩ := dec_changed hD1 K (by rw [← HD2.out]; exact hKL) z (by rw [← HD2.out, List.getElem?_eq_getElem hKL]; intro e; exact hzx (Option.some.inj e).symm)
          rw [← HD2.out] at hE1
          have hcutd := dec_cut hD1 K (by rw [← HD2.out]; exact hKL)
          rw [← HD2.out] at hcutd
          have G1 : ∀ W, Calls Try.prog 32 #[.string (mkS (S.set K z))] W (DeOut W (E1, zm)) := fun W => by
            have := wdecode_any (mkS (S.set K z)) (by rw [mkS_size, List.length_set]; omega) W
            rw [mkS_data, hE1] at this; exact this
          have G2 : ∀ W, Calls Try.prog 32 #[.string (mkS (S.take K))] W (DeOut W (1, zm)) := fun W => by
            have := wdecode_any (mkS (S.take K)) (by rw [mkS_size, List.length_take]; omega) W
            rw [mkS_data, hcutd] at this; exact this
          have hE0i : ¬ (E1 : Int) = 0 := by omega
          have hsl : (mkS S).extract 0 K = mkS (S.take K) := by
            have := extract_mkS (mkS S) 0 K
            rw [mkS_data, Nat.zero_add, List.drop_zero] at this
            exact this
          clear hE1 hcutd HR HB1
          go_upto_region 13 with (fail)
          generalize (wc.setCell ⟨g, K, none⟩ (.int .u8 (z.toNat : Nat))) = w2 at hs1 hB2 ⊢
          have hcv := run_bytes_string (P := Try.prog) w2 47 9 5 ⟨g, 0, none⟩ S.length cap (S.set K z) (by kernel_rfl) (by kernel_rfl) (by kernel_rfl) (by simp) hs1.bytesAt
          clear hs1 hcell hfz
          go_upto_region 14 with (go_at_call 32; refine (G1 _).mono ?_; rintro y w6 ⟨hb6, a2, n2, c2, hn2, rfl, ho⟩; unfold msgV zm)
          have hx6 := RowV.new w6 [.int .i64 0, .int .i64 0, .int .i64 0, .int .i64 0, .int .i64 0, .int .i64 0, .int .u32 0, .slice a2 n2 c2, .string ByteArray.empty] 80
          have hba : Below w6.heap.size w6 (w6.alloc (.cells #[.int .i64 0, .int .i64 0, .int .i64 0, .int .i64 0, .int .i64 0, .int .i64 0, .int .u32 0, .slice a2 n2 c2, .string ByteArray.empty] 80)) := (Below.refl _ _).alloc (Nat.le_refl _) _
          obtain ⟨W7, hW7⟩ : ∃ W7, Hid (W7 = w6.alloc (.cells #[.int .i64 0, .int .i64 0, .int .i64 0, .int .i64 0, .int .i64 0, .int .i64 0, .int .u32 0, .slice a2 n2 c2, .string ByteArray.empty] 80)) := ⟨_, Lib.hid rfl⟩
          obtain ⟨q, hq⟩ : ∃ q, Hid (q = w6.heap.size) := ⟨_, Lib.hid rfl⟩
          have hx7 : RowV W7 q [.int .i64 0, .int .i64 0, .int .i64 0, .int .i64 0, .int .i64 0, .int .i64 0, .int .u32 0, .slice a2 n2 c2, .string ByteArray.empty] := by rw [hW7.out, hq.out]; exact hx6
          rw [← hW7.out] at hba ⊢
          rw [← hq.out]
          have hb7 := below_tr (below_tr hB2 hb6) hba
          have hKi : (K : Int) ≤ (S.length : Int) := by omega
          clear hx6 hW7 hba ho hcv G1 hB2 hb6
          go_upto_region 15 with (go_at_call 32; refine (G2 _).mono ?_; rintro y w8 ⟨hb8, a3, n3, c3, hn3, rfl, ho⟩; unfold msgV zm)
          have hb9 : Below W7.heap.size W7 (w8.alloc (.cells #[.int .i64 0, .int .i64 0, .int .i64 0, .int .i64 0, .int .i64 0, .int .i64 0, .int .u32 0, .slice a3 n3 c3, .string ByteArray.empty] 80)) := below_tr hb8 ((Below.refl _ _).alloc (Nat.le_refl _) _)
          have c0 := ((hx7.below hb9) 0 _ rfl).1
          have hbe := below_tr hb7 hb9
          generalize (w8.alloc (.cells #[.int .i64 0, .int .i64 0, .int .i64 0, .int .i64 0, .int .i64 0, .int .i64 0, .int .u32 0, .slice a3 n3 c3, .string ByteArray.empty] 80)) = W9 at c0 hbe ⊢
          clear hb8 hb9 ho
          go_wp2
          go_ret
          exact ⟨ret_bool (a := ((E1 : Int) != 0)) (by rw [bne_iff_ne]; exact hE0i), hbe⟩
    · have hei : ¬ (e : Int) = 0 := by omega
      have hS : S = [] := by have := enc_err (m := m) (by rw [hE.out]; exact he); rw [hE.out] at this; exact this
      subst hS
      have hem : mkS [] = { data := #[] } := rfl
      simp only [hem] at EN
      go_wp2_with (first
        | (go_at_call 38; refine (OW _ hr3).mono ?_; rintro y w4 ⟨a', c', rfl, hr4, hb4⟩)
        | (go_at_call 37; refine (EN _ a' c' hr4).mono ?_; rintro y w5 ⟨rfl, hb5⟩))
      go_ret
      exact ⟨rfl, below_tr hb03 (below_tr hb4 hb5)⟩
end Go.Proofs.Ytmaebileagfdaaa
