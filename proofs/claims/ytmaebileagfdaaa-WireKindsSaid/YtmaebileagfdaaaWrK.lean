/- The document's check of a message. -/
import Derived.Test.YtmaebileagfdaaaWrC
namespace Go.Proofs.Ytmaebileagfdaaa
open Go.RowKit Dig Wr
set_option linter.unusedSimpArgs false

set_option maxRecDepth 100000 in
theorem rin_any (x : Int) (w : World) :
    Calls Try.prog 67 #[.int .i64 x] w fun e w' => e = .returned (.bool (inB 0 x)) ∧ w' = w := by
  go_enter Try.func67, Try.ntmps67
  go_wp2
  all_goals go_ret
  all_goals exact ⟨ret_bool (by unfold inB; first | (simp [*]; done) | (simp [*]; omega)), rfl⟩

theorem size_nil (s : ByteArray) : (s.size = 0) = (s.toList = []) := by
  rw [ByteArray.toList_eq, size_toList, List.length_eq_zero_iff]

def okT (m : Msg) : Bool := if m.k = 2 then dataB m else if m.k = 4 then pieceB m else if m.k = 5 then bareB m && decide (m.l = 0) else bareB m && decide (m.b = 0)

set_option maxRecDepth 100000 in
set_option maxHeartbeats 4000000 in
theorem rcheck_any (m : Msg) (hm : MWf m) (a : Option Addr) (n c : Nat) (hn : m.rs.length = n) (hb : n ≤ 4611686018427387904) (w : World) (hr : RowS w a m.rs) :
    Calls Try.prog 54 #[msgV m a n c] w fun e w' => e = .returned (.int .i64 (chk m : Nat)) ∧ Below w.heap.size w w' := by
  obtain ⟨k, e, b, l, la, ap, su, rs, tx⟩ := m
  simp only at hn hr
  unfold MWf at hm
  simp only at hm
  obtain ⟨m0, m1, m2, m3, m4, m5⟩ := hm
  have R1 := fun W => rin_any e W
  have R2 := fun W => rin_any b W
  have R3 := fun W => rin_any l W
  have R4 := fun W => rin_any ap W
  have hck : Hid (chk ⟨k, e, b, l, la, ap, su, rs, tx⟩ = if k < 1 ∨ 5 < k then 5 else if headB ⟨k, e, b, l, la, ap, su, rs, tx⟩ && okT ⟨k, e, b, l, la, ap, su, rs, tx⟩ then 0 else 3) := Lib.hid rfl
  have hhd : Hid (headB ⟨k, e, b, l, la, ap, su, rs, tx⟩ = (decide (1 ≤ e) && (inB 0 e && (inB 0 b && (inB 0 l && inB 0 ap))))) := Lib.hid (by
    unfold headB inB; simp only
    by_cases h1 : 1 ≤ e
    · have h0 : 0 ≤ e := by omega
      simp [h1, h0]
    · simp [h1])
  have hapb : Hid (inB 0 ap = true → 0 ≤ ap ∧ ap ≤ 99999999) := Lib.hid (by unfold inB; simp)
  obtain ⟨Q, hQ⟩ : ∃ Q, Hid (chk ⟨k, e, b, l, la, ap, su, rs, tx⟩ = Q) := ⟨_, Lib.hid rfl⟩
  rw [hQ.out] at hck ⊢
  generalize inB 0 e = B1 at R1 hhd
  generalize inB 0 b = B2 at R2 hhd
  generalize inB 0 l = B3 at R3 hhd
  have hb0 : Below w.heap.size w (w.alloc (.cells #[.int .i64 k, .int .i64 e, .int .i64 b, .int .i64 l, .int .i64 la, .int .i64 ap, .int .u32 (su : Nat), .slice a n c, .string tx] 80)) := (Below.refl _ _).alloc (Nat.le_refl _) _
  have kc := RowV.new w [.int .i64 k, .int .i64 e, .int .i64 b, .int .i64 l, .int .i64 la, .int .i64 ap, .int .u32 (su : Nat), .slice a n c, .string tx] 80
  go_enter Try.func54, Try.ntmps54
  unfold msgV
  by_cases hk : k < 1 ∨ 5 < k
  · have hfin := Lib.hid (hck.out.trans (if_pos hk))
    clear hck hhd hapb
    rcases hk with hk | hk
    · go_wp2
      go_ret
      exact ⟨ret_i64 (by rw [hfin.out]; rfl), hb0⟩
    · have hk2 : ¬ k < 1 := by omega
      go_wp2
      go_ret
      exact ⟨ret_i64 (by rw [hfin.out]; rfl), hb0⟩
  have hkl : ¬ k < 1 := by omega
  have hkh : ¬ 5 < k := by omega
  obtain ⟨H, hH⟩ : ∃ H, Hid (headB ⟨k, e, b, l, la, ap, su, rs, tx⟩ = H) := ⟨_, Lib.hid rfl⟩
  rw [hH.out] at hck hhd
  go_upto_region 3 with (fail)
  go_cut [3] from 13 to 35 (fun s3 wx => s3 = .bool H ∧ wx = w.alloc (.cells #[.int .i64 k, .int .i64 e, .int .i64 b, .int .i64 l, .int .i64 la, .int .i64 ap, .int .u32 (su : Nat), .slice a n c, .string tx] 80))
  case first =>
    by_cases he : 1 ≤ e
    · cases B1 with
      | false => go_wp2_with (first | (go_at_call 67; refine (R1 _).mono ?_; clear R1; rintro y w5 ⟨rfl, rfl⟩) | (go_at_call 67; refine (R2 _).mono ?_; clear R2; rintro y w5 ⟨rfl, rfl⟩) | (go_at_call 67; refine (R3 _).mono ?_; clear R3; rintro y w5 ⟨rfl, rfl⟩) | (go_at_call 67; refine (R4 _).mono ?_; clear R4; rintro y w5 ⟨rfl, rfl⟩)); go_meet; exact ⟨congrArg Value.bool (by rw [hhd.out]; simp), rfl⟩
      | true => cases B2 with
        | false => go_wp2_with (first | (go_at_call 67; refine (R1 _).mono ?_; clear R1; rintro y w5 ⟨rfl, rfl⟩) | (go_at_call 67; refine (R2 _).mono ?_; clear R2; rintro y w5 ⟨rfl, rfl⟩) | (go_at_call 67; refine (R3 _).mono ?_; clear R3; rintro y w5 ⟨rfl, rfl⟩) | (go_at_call 67; refine (R4 _).mono ?_; clear R4; rintro y w5 ⟨rfl, rfl⟩)); go_meet; exact ⟨congrArg Value.bool (by rw [hhd.out]; simp), rfl⟩
        | true => cases B3 with
          | false => go_wp2_with (first | (go_at_call 67; refine (R1 _).mono ?_; clear R1; rintro y w5 ⟨rfl, rfl⟩) | (go_at_call 67; refine (R2 _).mono ?_; clear R2; rintro y w5 ⟨rfl, rfl⟩) | (go_at_call 67; refine (R3 _).mono ?_; clear R3; rintro y w5 ⟨rfl, rfl⟩) | (go_at_call 67; refine (R4 _).mono ?_; clear R4; rintro y w5 ⟨rfl, rfl⟩)); go_meet; exact ⟨congrArg Value.bool (by rw [hhd.out]; simp), rfl⟩
          | true => go_wp2_with (first | (go_at_call 67; refine (R1 _).mono ?_; clear R1; rintro y w5 ⟨rfl, rfl⟩) | (go_at_call 67; refine (R2 _).mono ?_; clear R2; rintro y w5 ⟨rfl, rfl⟩) | (go_at_call 67; refine (R3 _).mono ?_; clear R3; rintro y w5 ⟨rfl, rfl⟩) | (go_at_call 67; refine (R4 _).mono ?_; clear R4; rintro y w5 ⟨rfl, rfl⟩)); go_meet; exact ⟨congrArg Value.bool (by rw [hhd.out]; simp [he]), rfl⟩
    · have hei : e < 1 := by omega
      go_wp2
      go_meet
      exact ⟨congrArg Value.bool (by rw [hhd.out, decide_eq_false (show ¬ 1 ≤ e by omega)]; rfl), rfl⟩
  case rest =>
    obtain ⟨rfl, rfl⟩ := hcut
    clear hhd R1 R2 R3 R4
    have hbT : H = true → 0 ≤ ap ∧ ap ≤ 99999999 := fun h => by
      have h1 := hH.out
      rw [h] at h1
      unfold headB inB at h1
      simp at h1
      omega
    have HbT := Lib.hid hbT
    clear hbT hapb
    have hck2 : Hid (Q = if (H && okT ⟨k, e, b, l, la, ap, su, rs, tx⟩) = true then 0 else 3) := Lib.hid (hck.out.trans (if_neg hk))
    clear hck hH hkl hkh m0 m1 m2 m3 m4 m5
    rcases (by omega : k = 2 ∨ k = 1 ∨ k = 3 ∨ k = 4 ∨ k = 5) with rfl | rfl | rfl | rfl | rfl
    · have hfin : Hid (Q = if (H && (noB ⟨2, e, b, l, la, ap, su, rs, tx⟩ && decide (0 < l) && (recsB rs && decide (rs.length ≤ 4)))) = true then 0 else 3) := Lib.hid (hck2.out.trans (by simp [okT, dataB]))
      obtain ⟨N, hN⟩ : ∃ N, Hid (noB ⟨2, e, b, l, la, ap, su, rs, tx⟩ = N) := ⟨_, Lib.hid rfl⟩
      rw [hN.out] at hfin
      clear hck2 hk HbT
      go_upto_if 48 with (fail)
      go_cut [3] from 48 to 69 (fun s3 wx => s3 = .bool (H && N) ∧ wx = w.alloc (.cells #[.int .i64 2, .int .i64 e, .int .i64 b, .int .i64 l, .int .i64 la, .int .i64 ap, .int .u32 (su : Nat), .slice a n c, .string tx] 80))
      case first =>
        cases H
        · go_wp2
          go_meet
          exact ⟨congrArg Value.bool (by simp), rfl⟩
        · go_wp2
          all_goals subst_vars
          all_goals go_meet
          all_goals exact ⟨congrArg Value.bool (by first | (unfold noB; simp [*, empty_size]; done) | (rw [← hN.out]; unfold noB; simp [*, empty_size]; done)), rfl⟩
      case rest =>
        obtain ⟨rfl, rfl⟩ := hcut
        clear hN
        obtain ⟨T, hT⟩ : ∃ T, Hid (T = (H && N)) := ⟨_, Lib.hid rfl⟩
        rw [← hT.out]
        go_upto_region 16 with (fail)
        go_cut [3] from 125 to 136 (fun s3 wx => s3 = .bool (T && decide (0 < l) && decide (n ≤ 4)) ∧ wx = w.alloc (.cells #[.int .i64 2, .int .i64 e, .int .i64 b, .int .i64 l, .int .i64 la, .int .i64 ap, .int .u32 (su : Nat), .slice a n c, .string tx] 80))
        case first =>
          cases T
          · go_wp2
            go_meet
            exact ⟨congrArg Value.bool (by simp), rfl⟩
          · by_cases hl : 1 ≤ l
            · go_wp2
              all_goals go_meet
              all_goals exact ⟨congrArg Value.bool (by rw [decide_eq_true (show 0 < l by omega)]; first | (simp; done) | (simp; omega)), rfl⟩
            · have hl2 : l < 1 := by omega
              go_wp2
              all_goals go_meet
              all_goals exact ⟨congrArg Value.bool (by rw [decide_eq_false (show ¬ 0 < l by omega)]; simp), rfl⟩
        case rest =>
          obtain ⟨rfl, rfl⟩ := hcut
          obtain ⟨U, hU⟩ : ∃ U, Hid (U = (T && decide (0 < l) && decide (n ≤ 4))) := ⟨_, Lib.hid rfl⟩
          rw [← hU.out]
          have hr1 := hr.below hb0
          have hfin2 : Hid (Q = if (U && recsB rs) = true then 0 else 3) := Lib.hid (by
            rw [hfin.out, hU.out, hT.out, hn]
            congr 1
            cases H <;> cases N <;> cases recsB rs <;> simp)
          clear hfin hU hT
          go_wp2
          go_loopw [3, 4] (fun v3 v4 wr => ∃ (j : Nat) (V : Bool), j ≤ n ∧ v4 = .int .i64 j ∧ v3 = .bool V ∧ Hid (V = (U && recsB (rs.take j))) ∧ wr = w.alloc (.cells #[.int .i64 2, .int .i64 e, .int .i64 b, .int .i64 l, .int .i64 la, .int .i64 ap, .int .u32 (su : Nat), .slice a n c, .string tx] 80)) (fun _ v4 _ => n - (intOf v4).toNat)
          case atStart => exact ⟨0, U, by omega, rfl, rfl, Lib.hid (by simp [recsB]), rfl⟩
          case round =>
            obtain ⟨j, V, hj, rfl, rfl, hV, rfl⟩ := hrel
            by_cases hlt : j < n
            · have hji : (j : Int) < (n : Int) := by omega
              cases V with
              | false =>
                have hF : Hid ((U && recsB rs) = false) := Lib.hid (by
                  have h1 := hV.out
                  cases U
                  · rfl
                  · simp only [Bool.true_and] at h1 ⊢
                    unfold recsB at h1 ⊢
                    rw [← List.take_append_drop j rs, List.all_append, ← h1]; rfl)
                go_wp2
                go_ret
                exact ⟨ret_i64 (by rw [hfin2.out, hF.out]; rfl), hb0⟩
              | true =>
                have hza := List.getElem?_eq_getElem (l := rs) (i := j) (by omega)
                obtain ⟨r, hVN⟩ : ∃ r, Hid (rs[j]'(by omega) = r) := ⟨_, Lib.hid rfl⟩
                rw [hVN.out] at hza
                rcases hr1.row with h0 | ⟨x, rfl, hc⟩
                · rw [h0] at hza; simp at hza
                have c0 := hc j _ hza
                have Ha := Lib.hid hza
                clear hc hza
                have hst : Hid ((U && recsB (rs.take (j + 1))) = (decide (1 ≤ r.size) && decide (r.size ≤ 65536))) := Lib.hid (by
                  have h1 := hV.out
                  have h2 : U = true ∧ recsB (rs.take j) = true := by simpa using h1.symm
                  rw [h2.1, Bool.true_and]
                  have h3 := h2.2
                  unfold recsB at h3 ⊢
                  rw [List.take_add_one, Ha.out, List.all_append, h3]; simp)
                by_cases h1 : 1 ≤ r.size
                · have hne : r.toList.isEmpty = false := by rw [empty_size]; exact decide_eq_false (by omega)
                  by_cases h2 : r.size ≤ 65536
                  · have h2i : (r.size : Int) ≤ 65536 := by omega
                    go_wp2
                    go_roundw
                    case rel => exact ⟨j + 1, true, by omega, by go_num, rfl, Lib.hid (by rw [hst.out]; simp [h1, h2]), by first | rfl | trivial⟩
                    case measure => simp [intOf]; omega
                  · have h2i : ¬ (r.size : Int) ≤ 65536 := by omega
                    go_wp2
                    go_roundw
                    case rel => exact ⟨j + 1, false, by omega, by go_num, rfl, Lib.hid (by rw [hst.out]; simp [h2]), by first | rfl | trivial⟩
                    case measure => simp [intOf]; omega
                · have hne : r.toList.isEmpty = true := by rw [empty_size]; exact decide_eq_true (by omega)
                  go_wp2
                  go_roundw
                  case rel => exact ⟨j + 1, false, by omega, by go_num, rfl, Lib.hid (by rw [hst.out]; simp [h1]), by first | rfl | trivial⟩
                  case measure => simp [intOf]; omega
            · have hji : ¬ (j : Int) < (n : Int) := by omega
              have hF : Hid ((U && recsB rs) = V) := Lib.hid (by rw [hV.out, List.take_of_length_le (by omega)])
              cases V
              all_goals
                go_wp2
                go_ret
                exact ⟨ret_i64 (by rw [hfin2.out, hF.out]; rfl), hb0⟩
    · have hfin : Hid (Q = if (H && (noB ⟨1, e, b, l, la, ap, su, rs, tx⟩ && decide (rs.length = 0) && decide (b = 0))) = true then 0 else 3) := Lib.hid (hck2.out.trans (by simp [okT, bareB, pieceB]))
      have Hn := Lib.hid hn
      clear hck2 hk hr hn
      cases H
      · go_wp2
        all_goals go_ret
        all_goals exact ⟨ret_i64 (by rw [hfin.out]; rfl), hb0⟩
      · obtain ⟨ha1, ha2⟩ := HbT.out rfl
        go_wp2
        all_goals go_ret
        all_goals exact ⟨ret_i64 (by rw [hfin.out, Hn.out]; unfold noB; first | (simp only [size_nil]; simp [*]; done) | (simp only [size_nil]; rename_i hx; simp at hx; simp [*]; done) | (simp [*]; done) | (rename_i hx; simp at hx; simp [*]; done) | (rename_i hx; simp [empty_size] at hx; rw [if_neg (by simp; omega)]; rfl) | (rename_i hx; simp [empty_size] at hx; rw [if_pos (by simp; omega)]; rfl) | (rw [if_neg (by simp; omega)]; rfl) | (rw [if_pos (by simp; omega)]; rfl)), (Below.refl _ _).alloc (Nat.le_refl _) _⟩
    · have hfin : Hid (Q = if (H && (noB ⟨3, e, b, l, la, ap, su, rs, tx⟩ && decide (rs.length = 0) && decide (b = 0))) = true then 0 else 3) := Lib.hid (hck2.out.trans (by simp [okT, bareB, pieceB]))
      have Hn := Lib.hid hn
      clear hck2 hk hr hn
      cases H
      · go_wp2
        all_goals go_ret
        all_goals exact ⟨ret_i64 (by rw [hfin.out]; rfl), hb0⟩
      · obtain ⟨ha1, ha2⟩ := HbT.out rfl
        go_wp2
        all_goals go_ret
        all_goals exact ⟨ret_i64 (by rw [hfin.out, Hn.out]; unfold noB; first | (simp only [size_nil]; simp [*]; done) | (simp only [size_nil]; rename_i hx; simp at hx; simp [*]; done) | (simp [*]; done) | (rename_i hx; simp at hx; simp [*]; done) | (rename_i hx; simp [empty_size] at hx; rw [if_neg (by simp; omega)]; rfl) | (rename_i hx; simp [empty_size] at hx; rw [if_pos (by simp; omega)]; rfl) | (rw [if_neg (by simp; omega)]; rfl) | (rw [if_pos (by simp; omega)]; rfl)), (Below.refl _ _).alloc (Nat.le_refl _) _⟩
    · have hfin : Hid (Q = if (H && (decide (rs.length = 0) && decide (1 ≤ tx.size) && decide (tx.size ≤ 256) && decide (1 ≤ la) && decide (la ≤ 16777216) && decide (ap ≤ la - tx.size))) = true then 0 else 3) := Lib.hid (hck2.out.trans (by simp [okT, bareB, pieceB]))
      have Hn := Lib.hid hn
      clear hck2 hk hr hn
      cases H
      · go_wp2
        all_goals go_ret
        all_goals exact ⟨ret_i64 (by rw [hfin.out]; rfl), hb0⟩
      · obtain ⟨ha1, ha2⟩ := HbT.out rfl
        go_wp2
        all_goals go_ret
        all_goals exact ⟨ret_i64 (by rw [hfin.out, Hn.out]; first | (simp only [size_nil]; simp [*]; done) | (simp only [size_nil]; rename_i hx; simp at hx; simp [*]; done) | (simp [*]; done) | (rename_i hx; simp at hx; simp [*]; done) | (rename_i hx; simp [empty_size] at hx; rw [if_neg (by simp; omega)]; rfl) | (rename_i hx; simp [empty_size] at hx; rw [if_pos (by simp; omega)]; rfl) | (rw [if_neg (by simp; omega)]; rfl) | (rw [if_pos (by simp; omega)]; rfl)), (Below.refl _ _).alloc (Nat.le_refl _) _⟩
    · have hfin : Hid (Q = if (H && (noB ⟨5, e, b, l, la, ap, su, rs, tx⟩ && decide (rs.length = 0) && decide (l = 0))) = true then 0 else 3) := Lib.hid (hck2.out.trans (by simp [okT, bareB, pieceB]))
      have Hn := Lib.hid hn
      clear hck2 hk hr hn
      cases H
      · go_wp2
        all_goals go_ret
        all_goals exact ⟨ret_i64 (by rw [hfin.out]; rfl), hb0⟩
      · obtain ⟨ha1, ha2⟩ := HbT.out rfl
        go_wp2
        all_goals go_ret
        all_goals exact ⟨ret_i64 (by rw [hfin.out, Hn.out]; unfold noB; first | (simp only [size_nil]; simp [*]; done) | (simp only [size_nil]; rename_i hx; simp at hx; simp [*]; done) | (simp [*]; done) | (rename_i hx; simp at hx; simp [*]; done) | (rename_i hx; simp [empty_size] at hx; rw [if_neg (by simp; omega)]; rfl) | (rename_i hx; simp [empty_size] at hx; rw [if_pos (by simp; omega)]; rfl) | (rw [if_neg (by simp; omega)]; rfl) | (rw [if_pos (by simp; omega)]; rfl)), (Below.refl _ _).alloc (Nat.le_refl _) _⟩
end Go.Proofs.Ytmaebileagfdaaa
