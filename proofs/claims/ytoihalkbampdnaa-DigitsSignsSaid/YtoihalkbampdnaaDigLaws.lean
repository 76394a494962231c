/- The laws of the digits, walked: the first. -/
import Derived.Test.YtoihalkbampdnaaDigR
namespace Go.Proofs.Ytoihalkbampdnaa
open Go.RowKit Dig

theorem digitsNums_walk (n0 : Int) (s : ByteArray) (hn : (Lit.int .u64 n0).wf = true) (hs : s.size ≤ 140737488351232) (w : World) :
    Calls Try.prog 7 #[.int .u64 n0, .string s] w fun e w' => e = .returned (.bool true) ∧ Below w.heap.size w w' := by
  obtain ⟨h0, h1⟩ := wf_u64 hn
  obtain ⟨N, rfl⟩ := Int.eq_ofNat_of_zero_le h0
  have hN : N < 18446744073709551616 := by omega
  have hs9 : s.size ≤ 9223372036854775807 := by omega
  obtain ⟨n, k, e, h⟩ : ∃ n k e, Hid (getNum s.data.toList = (n, k, e)) := ⟨_, _, _, Lib.hid rfl⟩
  clear hn h0 h1
  have HB := Below.refl w.heap.size w
  go_enter Try.func7, Try.ntmps7
  go_wp2_with (first
    | (go_at_call 22; refine (getnum_eq s hs9 h _).mono ?_; rintro e w' ⟨rfl, hb⟩; replace HB := below_tr HB hb; clear hb)
    | (go_at_call 23; refine (refgetnum_eq s hs9 h _).mono ?_; rintro e w' ⟨rfl, rfl⟩)
    | (go_at_call 24; refine (num_any N hN _).mono ?_; rintro e w' ⟨rfl, hb⟩; replace HB := below_tr HB hb; clear hb)
    | (go_at_call 25; refine (refnum_any N hN _).mono ?_; rintro e w' ⟨rfl, hb⟩; replace HB := below_tr HB hb; clear hb))
  go_ret
  exact ⟨rfl, HB⟩

theorem digitsSigns_walk (n0 : Int) (s : ByteArray) (hn : (Lit.int .i64 n0).wf = true) (hs : s.size ≤ 140737488351232) (w : World) :
    Calls Try.prog 10 #[.int .i64 n0, .string s] w fun e w' => e = .returned (.bool true) ∧ Below w.heap.size w w' := by
  obtain ⟨h0, h1⟩ := wf_i64 hn
  have hs9 : s.size ≤ 9223372036854775807 := by omega
  obtain ⟨n, k, e, h⟩ : ∃ n k e, Hid (getNum s.data.toList = (n, k, e)) := ⟨_, _, _, Lib.hid rfl⟩
  clear hn
  have HB := Below.refl w.heap.size w
  go_enter Try.func10, Try.ntmps10
  go_wp2_with (first
    | (go_at_call 28; refine (getsigned_any s hs9 h _).mono ?_; rintro e w' ⟨rfl, hb⟩; replace HB := below_tr HB hb; clear hb)
    | (go_at_call 29; refine (refgetsigned_any s hs9 h _).mono ?_; rintro e w' ⟨rfl, rfl⟩)
    | (go_at_call 27; refine (signed_any n0 h0 h1 _).mono ?_; rintro e w' ⟨rfl, hb⟩; replace HB := below_tr HB hb; clear hb)
    | (go_at_call 30; refine (refsigned_any n0 h0 h1 _).mono ?_; rintro e w' ⟨rfl, hb⟩; replace HB := below_tr HB hb; clear hb))
  go_ret
  exact ⟨rfl, HB⟩

theorem digitsTexts_walk (t s : ByteArray) (most : Int) (ht : t.size ≤ 140737488351232) (hs : s.size ≤ 140737488351232) (hm : (Lit.int .i64 most).wf = true) (w : World) :
    Calls Try.prog 12 #[.string t, .string s, .int .i64 most] w fun e w' => e = .returned (.bool true) ∧ Below w.heap.size w w' := by
  obtain ⟨h0, h1⟩ := wf_i64 hm
  obtain ⟨n, k, e, h⟩ : ∃ n k e, Hid (getNum s.data.toList = (n, k, e)) := ⟨_, _, _, Lib.hid rfl⟩
  clear hm
  have HB := Below.refl w.heap.size w
  go_enter Try.func12, Try.ntmps12
  go_wp2_with (first
    | (go_at_call 31; refine (gettext_any s hs most h0 h1 h _).mono ?_; rintro e w' ⟨rfl, hb⟩; replace HB := below_tr HB hb; clear hb)
    | (go_at_call 32; refine (refgettext_any s hs most h0 h1 h _).mono ?_; rintro e w' ⟨rfl, rfl⟩)
    | (go_at_call 33; refine (text_any t ht _).mono ?_; rintro e w' ⟨rfl, hb⟩; replace HB := below_tr HB hb; clear hb)
    | (go_at_call 34; refine (reftext_any t ht _).mono ?_; rintro e w' ⟨rfl, hb⟩; replace HB := below_tr HB hb; clear hb))
  go_ret
  exact ⟨rfl, HB⟩

theorem dig256 : dig 256 = [1, 0] := by rw [dig_pos 256 (by decide), dig_pos (256 / 256) (by decide), show 256 / 256 / 256 = 0 from rfl, dig_zero]; rfl
theorem dig1 : dig 1 = [1] := by rw [dig_pos 1 (by decide), show 1 / 256 = 0 from rfl, dig_zero]; rfl
theorem dig2 : dig 2 = [2] := by rw [dig_pos 2 (by decide), show 2 / 256 = 0 from rfl, dig_zero]; rfl

theorem works01_any (w : World) : Calls Try.prog 26 #[] w fun e w' => e = .returned (.bool true) ∧ Below w.heap.size w w' := by
  have HB := Below.refl w.heap.size w
  have c1 : ∀ w, Calls Try.prog 22 #[.string ⟨#[1, 0]⟩] w fun r w' => r = .returned (.tuple #[.int .u64 0, .int .i64 0, .int .i64 3]) ∧ Below w.heap.size w w' :=
    fun w => getnum_eq (n := 0) (k := 0) (e := 3) _ (by decide) (Lib.hid rfl) w
  have c2 : ∀ w, Calls Try.prog 24 #[.int .u64 256] w fun r w' => r = .returned (.string ⟨#[2, 1, 0]⟩) ∧ Below w.heap.size w w' := fun w =>
    (num_any 256 (by decide) w).mono fun r w' ⟨h1, h2⟩ => ⟨by rw [h1, numB, dig256]; rfl, h2⟩
  have c3 : ∀ w, Calls Try.prog 27 #[.int .i64 (-1)] w fun r w' => r = .returned (.string ⟨#[1, 1]⟩) ∧ Below w.heap.size w w' := fun w =>
    (signed_any (-1) (by decide) (by decide) w).mono fun r w' ⟨h1, h2⟩ => ⟨by rw [h1, numB, show zig (-1) = 1 from rfl, dig1]; rfl, h2⟩
  have c4 : ∀ w, Calls Try.prog 33 #[.string ⟨#[97, 98]⟩] w fun r w' => r = .returned (.string ⟨#[1, 2, 97, 98]⟩) ∧ Below w.heap.size w w' := fun w =>
    (text_any ⟨#[97, 98]⟩ (by decide) w).mono fun r w' ⟨h1, h2⟩ => ⟨by rw [h1, textB, show (⟨#[97, 98]⟩ : ByteArray).data.toList.length = 2 from rfl, numB, dig2]; rfl, h2⟩
  have C1 := Lib.hid c1
  have C2 := Lib.hid c2
  have C3 := Lib.hid c3
  have C4 := Lib.hid c4
  clear c1 c2 c3 c4
  go_enter Try.func26, Try.ntmps26
  go_wp2_with (first
    | (go_at_call 22; refine (C1.out _).mono ?_; rintro e w' ⟨rfl, hb⟩; replace HB := below_tr HB hb; clear hb)
    | (go_at_call 24; refine (C2.out _).mono ?_; rintro e w' ⟨rfl, hb⟩; replace HB := below_tr HB hb; clear hb)
    | (go_at_call 27; refine (C3.out _).mono ?_; rintro e w' ⟨rfl, hb⟩; replace HB := below_tr HB hb; clear hb)
    | (go_at_call 33; refine (C4.out _).mono ?_; rintro e w' ⟨rfl, hb⟩; replace HB := below_tr HB hb; clear hb))
  go_ret
  exact ⟨rfl, HB⟩
end Go.Proofs.Ytoihalkbampdnaa
