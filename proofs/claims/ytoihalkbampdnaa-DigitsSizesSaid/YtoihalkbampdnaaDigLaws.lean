/- The laws of the digits, walked: the first. -/
import Derived.Test.YtoihalkbampdnaaDigR
namespace Go.Proofs.Ytoihalkbampdnaa
open Go.RowKit Dig

theorem digitsNums_walk (n0 : Int) (s : ByteArray) (hn : (Lit.int .u64 n0).wf = true) (hs : s.size ≤ 140737488351232) (w : World) :
    Calls Try.prog 7 #[.int .u64 n0, .string s] w fun e w' => e = .returned (.bool true) ∧ Below w.heap.size w w' := by
  obtain ⟨h0, h1⟩ := wf_u64 hn
  obtain ⟨N, rfl⟩ := Int.eq_ofNat_of_zero_le h0
  have hN : N < 18446744073709551616 := by omega
  have hs9 : s.size ≤ 9223372036854775807 := by omega
  obtain ⟨n, k, e, h⟩ : ∃ n k e, Hid (getNum s.data.toList = (n, k, e)) := ⟨_, _, _, Lib.hid rfl⟩
  clear hn h0 h1
  have HB := Below.refl w.heap.size w
  go_enter Try.func7, Try.ntmps7
  go_wp2_with (first
    | (go_at_call 22; refine (getnum_eq s hs9 h _).mono ?_; rintro e w' ⟨rfl, hb⟩; replace HB := below_tr HB hb; clear hb)
    | (go_at_call 23; refine (refgetnum_eq s hs9 h _).mono ?_; rintro e w' ⟨rfl, rfl⟩)
    | (go_at_call 24; refine (num_any N hN _).mono ?_; rintro e w' ⟨rfl, hb⟩; replace HB := below_tr HB hb; clear hb)
    | (go_at_call 25; refine (refnum_any N hN _).mono ?_; rintro e w' ⟨rfl, hb⟩; replace HB := below_tr HB hb; clear hb))
  go_ret
  exact ⟨rfl, HB⟩

theorem digitsSigns_walk (n0 : Int) (s : ByteArray) (hn : (Lit.int .i64 n0).wf = true) (hs : s.size ≤ 140737488351232) (w : World) :
    Calls Try.prog 10 #[.int .i64 n0, .string s] w fun e w' => e = .returned (.bool true) ∧ Below w.heap.size w w' := by
  obtain ⟨h0, h1⟩ := wf_i64 hn
  have hs9 : s.size ≤ 9223372036854775807 := by omega
  obtain ⟨n, k, e, h⟩ : ∃ n k e, Hid (getNum s.data.toList = (n, k, e)) := ⟨_, _, _, Lib.hid rfl⟩
  clear hn
  have HB := Below.refl w.heap.size w
  go_enter Try.func10, Try.ntmps10
  go_wp2_with (first
    | (go_at_call 28; refine (getsigned_any s hs9 h _).mono ?_; rintro e w' ⟨rfl, hb⟩; replace HB := below_tr HB hb; clear hb)
    | (go_at_call 29; refine (refgetsigned_any s hs9 h _).mono ?_; rintro e w' ⟨rfl, rfl⟩)
    | (go_at_call 27; refine (signed_any n0 h0 h1 _).mono ?_; rintro e w' ⟨rfl, hb⟩; replace HB := below_tr HB hb; clear hb)
    | (go_at_call 30; refine (refsigned_any n0 h0 h1 _).mono ?_; rintro e w' ⟨rfl, hb⟩; replace HB := below_tr HB hb; clear hb))
  go_ret
  exact ⟨rfl, HB⟩

theorem digitsTexts_walk (t s : ByteArray) (most : Int) (ht : t.size ≤ 140737488351232) (hs : s.size ≤ 140737488351232) (hm : (Lit.int .i64 most).wf = true) (w : World) :
    Calls Try.prog 12 #[.string t, .string s, .int .i64 most] w fun e w' => e = .returned (.bool true) ∧ Below w.heap.size w w' := by
  obtain ⟨h0, h1⟩ := wf_i64 hm
  have hs9 : s.size ≤ 4611686018427387904 := by omega
  have ht9 : t.size ≤ 4611686018427387904 := by omega
  obtain ⟨n, k, e, h⟩ : ∃ n k e, Hid (getNum s.data.toList = (n, k, e)) := ⟨_, _, _, Lib.hid rfl⟩
  clear hm
  have HB := Below.refl w.heap.size w
  go_enter Try.func12, Try.ntmps12
  go_wp2_with (first
    | (go_at_call 31; refine (gettext_any s hs9 most h0 h1 h _).mono ?_; rintro e w' ⟨rfl, hb⟩; replace HB := below_tr HB hb; clear hb)
    | (go_at_call 32; refine (refgettext_any s hs9 most h0 h1 h _).mono ?_; rintro e w' ⟨rfl, rfl⟩)
    | (go_at_call 33; refine (text_any t ht9 _).mono ?_; rintro e w' ⟨rfl, hb⟩; replace HB := below_tr HB hb; clear hb)
    | (go_at_call 34; refine (reftext_any t ht9 _).mono ?_; rintro e w' ⟨rfl, hb⟩; replace HB := below_tr HB hb; clear hb))
  go_ret
  exact ⟨rfl, HB⟩

theorem dig256 : dig 256 = [1, 0] := by rw [dig_pos 256 (by decide), dig_pos (256 / 256) (by decide), show 256 / 256 / 256 = 0 from rfl, dig_zero]; rfl
theorem dig1 : dig 1 = [1] := by rw [dig_pos 1 (by decide), show 1 / 256 = 0 from rfl, dig_zero]; rfl
theorem dig2 : dig 2 = [2] := by rw [dig_pos 2 (by decide), show 2 / 256 = 0 from rfl, dig_zero]; rfl

theorem works01_any (w : World) : Calls Try.prog 26 #[] w fun e w' => e = .returned (.bool true) ∧ Below w.heap.size w w' := by
  have HB := Below.refl w.heap.size w
  have c1 : ∀ w, Calls Try.prog 22 #[.string ⟨#[1, 0]⟩] w fun r w' => r = .returned (.tuple #[.int .u64 0, .int .i64 0, .int .i64 3]) ∧ Below w.heap.size w w' :=
    fun w => getnum_eq (n := 0) (k := 0) (e := 3) _ (by decide) (Lib.hid rfl) w
  have c2 : ∀ w, Calls Try.prog 24 #[.int .u64 256] w fun r w' => r = .returned (.string ⟨#[2, 1, 0]⟩) ∧ Below w.heap.size w w' := fun w =>
    (num_any 256 (by decide) w).mono fun r w' ⟨h1, h2⟩ => ⟨by rw [h1, numB, dig256]; rfl, h2⟩
  have c3 : ∀ w, Calls Try.prog 27 #[.int .i64 (-1)] w fun r w' => r = .returned (.string ⟨#[1, 1]⟩) ∧ Below w.heap.size w w' := fun w =>
    (signed_any (-1) (by decide) (by decide) w).mono fun r w' ⟨h1, h2⟩ => ⟨by rw [h1, numB, show zig (-1) = 1 from rfl, dig1]; rfl, h2⟩
  have c4 : ∀ w, Calls Try.prog 33 #[.string ⟨#[97, 98]⟩] w fun r w' => r = .returned (.string ⟨#[1, 2, 97, 98]⟩) ∧ Below w.heap.size w w' := fun w =>
    (text_any ⟨#[97, 98]⟩ (by decide) w).mono fun r w' ⟨h1, h2⟩ => ⟨by rw [h1, textB, show (⟨#[97, 98]⟩ : ByteArray).data.toList.length = 2 from rfl, numB, dig2]; rfl, h2⟩
  have C1 := Lib.hid c1
  have C2 := Lib.hid c2
  have C3 := Lib.hid c3
  have C4 := Lib.hid c4
  clear c1 c2 c3 c4
  go_enter Try.func26, Try.ntmps26
  go_wp2_with (first
    | (go_at_call 22; refine (C1.out _).mono ?_; rintro e w' ⟨rfl, hb⟩; replace HB := below_tr HB hb; clear hb)
    | (go_at_call 24; refine (C2.out _).mono ?_; rintro e w' ⟨rfl, hb⟩; replace HB := below_tr HB hb; clear hb)
    | (go_at_call 27; refine (C3.out _).mono ?_; rintro e w' ⟨rfl, hb⟩; replace HB := below_tr HB hb; clear hb)
    | (go_at_call 33; refine (C4.out _).mono ?_; rintro e w' ⟨rfl, hb⟩; replace HB := below_tr HB hb; clear hb))
  go_ret
  exact ⟨rfl, HB⟩

set_option maxHeartbeats 400000 in
theorem digitsTextBack_walk (t s : ByteArray) (ht : t.size ≤ 140737488351232) (hs : s.size ≤ 140737488351232) (w : World) :
    Calls Try.prog 13 #[.string t, .string s] w fun e w' => e = .returned (.bool true) ∧ Below w.heap.size w w' := by
  have htl : t.data.toList.length < 18446744073709551616 := by rw [← size_toList]; omega
  have hl := dig_len8 t.data.toList.length htl
  have hw : (mkS (textB t.data.toList)).size = (numB t.data.toList.length).length + t.size := by rw [mkS_size, textB, List.length_append, ← size_toList]
  have hw9 : (numB t.data.toList.length).length ≤ 9 := by rw [numB_len]; omega
  have hz : ¬ 9223372036854775807 < (mkS (textB t.data.toList)).size + s.size := by rw [hw]; omega
  have hL : (mkS (textB t.data.toList) ++ s).data.toList = textB t.data.toList ++ s.data.toList := by simp [mkS]
  have hsz : (mkS (textB t.data.toList) ++ s).size ≤ 4611686018427387904 := by rw [ByteArray.size_append, hw]; omega
  have hg : Hid (getNum (mkS (textB t.data.toList) ++ s).data.toList = (t.data.toList.length, (numB t.data.toList.length).length, 0)) :=
    Lib.hid (by rw [hL, textB, List.append_assoc, getNum_numB _ htl])
  have c1 : ∀ w, Calls Try.prog 31 #[.string (mkS (textB t.data.toList) ++ s), .int .i64 t.size] w fun r w' => r = .returned (.tuple #[.string t, .int .i64 ((textB t.data.toList).length : Nat), .int .i64 0]) ∧ Below w.heap.size w w' := fun w =>
    (gettext_any _ hsz t.size (by omega) (by omega) hg w).mono fun r w' ⟨h1, h2⟩ => ⟨by
      have e := getText_textB t.data.toList s.data.toList t.size htl (by rw [← size_toList]; omega)
      rw [h1, hL, e, mkS_toList]; rfl, h2⟩
  obtain ⟨x, y, c2⟩ : ∃ x y, ∀ w, Calls Try.prog 31 #[.string (mkS (textB t.data.toList) ++ s), .int .i64 ((t.size : Int) - 1)] w fun r w' => r = .returned (.tuple #[x, y, .int .i64 8]) ∧ Below w.heap.size w w' :=
    ⟨_, _, fun w => (gettext_any _ hsz ((t.size : Int) - 1) (by omega) (by omega) hg w).mono fun r w' ⟨h1, h2⟩ => ⟨by
      have e := getText_fewer t.data.toList s.data.toList htl
      rw [← size_toList] at e
      rw [hL, e] at h1
      exact h1, h2⟩⟩
  have C1 := Lib.hid c1
  have C2 := Lib.hid c2
  have Hw := Lib.hid hw
  have HL := Lib.hid hL
  have hsize : (mkS (textB t.data.toList)).size = (textB t.data.toList).length := mkS_size _
  have HB := Below.refl w.heap.size w
  clear c1 c2 hw hL hl hw9 htl
  go_enter Try.func13, Try.ntmps13
  go_wp2_with (first
    | (go_at_call 26; refine (works01_any _).mono ?_; rintro e w' ⟨rfl, hb⟩; replace HB := below_tr HB hb; clear hb)
    | (go_at_call 33; refine (text_any t (by omega) _).mono ?_; rintro e w' ⟨rfl, hb⟩; replace HB := below_tr HB hb; clear hb)
    | (go_at_call 31; (with_reducible refine (C1.out _).mono ?_); rintro e w' ⟨rfl, hb⟩; replace HB := below_tr HB hb; clear hb)
    | (go_at_call 31; (with_reducible refine (C2.out _).mono ?_); rintro e w' ⟨rfl, hb⟩; replace HB := below_tr HB hb; clear hb))
  go_ret
  exact ⟨rfl, HB⟩

theorem take_mkS_list {B : ByteArray} {l : List UInt8} (h : B = mkS l) {k : Nat} : (B.extract 0 k).data.toList = l.take k := by
  rw [h, extract_toList, mkS_data]; simp
theorem take_mkS (l : List UInt8) (k : Nat) : (mkS l).extract 0 k = mkS (l.take k) := by
  apply ByteArray.ext; apply Array.toList_inj.mp
  rw [extract_toList, mkS_data, mkS_data]; simp

set_option maxHeartbeats 400000 in
theorem digitsCuts_walk (n0 : Int) (t : ByteArray) (at0 : Int) (hn : (Lit.int .u64 n0).wf = true) (ht : t.size ≤ 140737488351232) (_ha : (Lit.int .i64 at0).wf = true) (w : World) :
    Calls Try.prog 14 #[.int .u64 n0, .string t, .int .i64 at0] w fun e w' => e = .returned (.bool true) ∧ Below w.heap.size w w' := by
  obtain ⟨h0, h1⟩ := wf_u64 hn
  obtain ⟨N, rfl⟩ := Int.eq_ofNat_of_zero_le h0
  have hN : N < 18446744073709551616 := by omega
  have htl : t.data.toList.length < 18446744073709551616 := by rw [← size_toList]; omega
  have hl1 := dig_len8 N hN
  have hl2 := dig_len8 t.data.toList.length htl
  have hs1 : (mkS (numB N)).size = (dig N).length + 1 := by rw [mkS_size, numB_len]
  have hs2 : (mkS (textB t.data.toList)).size = (dig t.data.toList.length).length + 1 + t.size := by rw [mkS_size, textB, List.length_append, numB_len, ← size_toList]
  obtain ⟨A, hA⟩ : ∃ A, Hid (A = mkS (numB N)) := ⟨_, Lib.hid rfl⟩
  obtain ⟨B, hB⟩ : ∃ B, Hid (B = mkS (textB t.data.toList)) := ⟨_, Lib.hid rfl⟩
  rw [← hA.out] at hs1
  rw [← hB.out] at hs2
  have hA0 : 0 < A.size := by omega
  have hB0 : 0 < B.size := by omega
  have hA9 : A.size ≤ 9 := by omega
  have hB9 : B.size ≤ 4611686018427387904 := by omega
  obtain ⟨K1, hK1, hK1l⟩ := umod_k at0 A.size (by omega) (by omega)
  obtain ⟨K2, hK2, hK2l⟩ := umod_k at0 B.size (by omega) (by omega)
  have eA := isEmpty_false hA0
  have eB := isEmpty_false hB0
  have c1 : ∀ w, Calls Try.prog 22 #[.string (A.extract 0 K1)] w fun r w' => r = .returned (.tuple #[.int .u64 0, .int .i64 0, .int .i64 1]) ∧ Below w.heap.size w w' := fun w =>
    getnum_eq (n := 0) (k := 0) (e := 1) _ (by rw [hA.out, take_mkS, mkS_size, List.length_take, numB_len]; omega) (Lib.hid (by
      rw [hA.out, take_mkS, mkS_data]; exact getNum_cut N hN K1 (by rw [numB_len]; omega))) w
  obtain ⟨x, y, c2⟩ : ∃ x y, ∀ w, Calls Try.prog 31 #[.string (B.extract 0 K2), .int .i64 t.size] w fun r w' => r = .returned (.tuple #[x, y, .int .i64 1]) ∧ Below w.heap.size w w' := by
    have hlen : (textB t.data.toList).length = (dig t.data.toList.length).length + 1 + t.size := by rw [← mkS_size, ← hB.out, hs2]
    obtain ⟨n, k, e, hg⟩ : ∃ n k e, Hid (getNum (B.extract 0 K2).data.toList = (n, k, e)) := ⟨_, _, _, Lib.hid rfl⟩
    exact ⟨_, _, fun w => (gettext_any (B.extract 0 K2) (by rw [hB.out, take_mkS, mkS_size, List.length_take, hlen]; omega) t.size (by omega) (by omega) hg w).mono fun r w' ⟨h1, h2⟩ => ⟨by
      have e := getText_cut t.data.toList htl K2 (by rw [hlen]; omega)
      rw [← size_toList] at e
      rw [← take_mkS_list hB.out] at e
      rw [e] at h1
      exact h1, h2⟩⟩
  have C1 := Lib.hid c1
  have C2 := Lib.hid c2
  have H1 := Lib.hid hs1
  have H2 := Lib.hid hs2
  have HB := Below.refl w.heap.size w
  clear hn h0 h1 hl1 hl2 hs1 hs2 c1 c2 htl
  have cn : ∀ w, Calls Try.prog 24 #[.int .u64 N] w fun r w' => r = .returned (.string A) ∧ Below w.heap.size w w' := fun w => by rw [hA.out]; exact num_any N hN w
  have ct : ∀ w, Calls Try.prog 33 #[.string t] w fun r w' => r = .returned (.string B) ∧ Below w.heap.size w w' := fun w => by rw [hB.out]; exact text_any t (by omega) w
  have CN := Lib.hid cn
  have CT := Lib.hid ct
  clear cn ct
  go_enter Try.func14, Try.ntmps14
  go_wp2_with (first
    | (go_at_call 26; refine (works01_any _).mono ?_; rintro e w' ⟨rfl, hb⟩; replace HB := below_tr HB hb; clear hb)
    | (go_at_call 24; refine (CN.out _).mono ?_; rintro e w' ⟨rfl, hb⟩; replace HB := below_tr HB hb; clear hb)
    | (go_at_call 33; refine (CT.out _).mono ?_; rintro e w' ⟨rfl, hb⟩; replace HB := below_tr HB hb; clear hb)
    | (go_at_call 22; refine (C1.out _).mono ?_; rintro e w' ⟨rfl, hb⟩; replace HB := below_tr HB hb; clear hb)
    | (go_at_call 31; refine (C2.out _).mono ?_; rintro e w' ⟨rfl, hb⟩; replace HB := below_tr HB hb; clear hb))
  go_ret
  exact ⟨rfl, HB⟩
end Go.Proofs.Ytoihalkbampdnaa
