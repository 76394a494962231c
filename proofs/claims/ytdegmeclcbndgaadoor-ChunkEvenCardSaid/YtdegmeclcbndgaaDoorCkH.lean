/- The program's decoder of points. -/
import Derived.Test.YtdegmeclcbndgaaDoorCkG
namespace Go.Proofs.YtdegmeclcbndgaaDoor
open Go.RowKit Bit Tim Xo Dig Ck

set_option maxRecDepth 100000 in
set_option maxHeartbeats 2000000 in
theorem cdec_any (s : ByteArray) (hs : s.size ≤ 10000) (w : World) (hT : Tab w) :
    Calls Tryd.prog 31 #[.string s] w (PtOut w (decC s.data.toList)) := by
  obtain ⟨n, k, e, h1⟩ : ∃ n k e, Hid (getNum s.data.toList = (n, k, e)) := ⟨_, _, _, Lib.hid rfl⟩
  obtain ⟨m, j, e2, h2⟩ : ∃ a b c, Hid (getNum (s.data.toList.drop k) = (a, b, c)) := ⟨_, _, _, Lib.hid rfl⟩
  obtain ⟨f1, f2, f3, f4⟩ := getNum_facts h1.out
  obtain ⟨g1, g2, g3, g4⟩ := getNum_facts h2.out
  rw [List.length_drop] at g2
  rw [← size_toList] at f2 g2
  go_enter Tryd.func31, Tryd.ntmps31
  go_upto_region 2 with (go_at_call 49; refine (getnum_eq s (by omega) h1 _).mono ?_; rintro y w1 ⟨rfl, hb1⟩)
  by_cases he : e = 0
  · subst he
    by_cases hn : n < 1 ∨ 64 < n
    · have hfin : Hid (decC s.data.toList = (2, [])) := Lib.hid (by
        unfold decC; rw [h1.out]; simp only [ne_eq, not_true_eq_false, if_false]; rw [if_pos hn])
      rcases hn with hn | hn
      · have hni : (n : Int) < 1 := by omega
        go_wp2
        go_ret2
        exact PtOut.err 2 hfin.out hb1
      · have hni : ¬ (n : Int) < 1 := by omega
        have hni2 : (64 : Int) < (n : Int) := by omega
        go_wp2
        go_ret2
        exact PtOut.err 2 hfin.out hb1
    have hni : ¬ (n : Int) < 1 := by omega
    have hni2 : ¬ (64 : Int) < (n : Int) := by omega
    have hki : (k : Int) ≤ (s.size : Int) := by omega
    have hx : Hid (getNum (s.extract k s.size).data.toList = (m, j, e2)) := Lib.hid (by
      rw [extract_toList, List.take_of_length_le (by rw [← size_toList]; omega)]; exact h2.out)
    go_upto_region 7 with (go_at_call 49; refine (getnum_eq _ (by rw [ByteArray.size_extract]; omega) hx _).mono ?_; rintro y w2 ⟨rfl, hb2⟩)
    have hb12 := below_tr hb1 hb2
    have hn' : ¬ (n < 1 ∨ 64 < n) := hn
    by_cases he2 : e2 = 0
    · subst he2
      have hdc := decC_at h1.out h2.out
      rw [if_neg hn'] at hdc
      have Hdc := Lib.hid hdc
      clear hdc hn
      have hkj : (k : Int) + (j : Int) ≤ (s.size : Int) := by omega
      obtain ⟨A, hA⟩ : ∃ A, Hid (A = k + j) := ⟨_, Lib.hid rfl⟩
      have hAi : (k : Int) + (j : Int) = (A : Int) := by rw [hA.out]; omega
      have hAs : (A : Int) ≤ (s.size : Int) := by omega
      obtain ⟨s2, hs2⟩ : ∃ s2, Hid (s2 = s.extract A s.size) := ⟨_, Lib.hid rfl⟩
      have hsz2 : s2.size = s.size - A := by rw [hs2.out, ByteArray.size_extract]; omega
      have hl2 : s2.data.toList = s.data.toList.drop (k + j) := by
        rw [hs2.out, extract_toList, List.take_of_length_le (by rw [← size_toList]; exact Nat.le_refl _), hA.out]
      have Hl2 := Lib.hid hl2
      have hsb : s2.size ≤ 10000 := by omega
      have Hsz2 := Lib.hid hsz2
      clear hl2 hsz2
      rw [← Hl2.out, ← size_toList] at Hdc
      go_upto_region 9 with (fail)
      go_upto_region 10 with (fail)
      rw [← hs2.out]
      have hT2 := hT.below hb12 hT.pos
      have hw1 : IntKind.u64.wrap (8 * (s2.size : Int)) = 8 * (s2.size : Int) := by rw [IntKind.wrap_u64]; omega
      have hw2 : IntKind.u64.wrap (s2.size : Int) = (s2.size : Int) := by rw [IntKind.wrap_u64]; omega
      by_cases c1 : 8 * s2.size < m
      · have hfin : Hid (decC s.data.toList = (1, [])) := Lib.hid (by rw [Hdc.out, if_pos c1])
        have c1i : 8 * (s2.size : Int) < (m : Int) := by omega
        clear Hdc
        go_wp2
        go_ret2
        exact PtOut.err 1 hfin.out hb12
      · have c1i : ¬ 8 * (s2.size : Int) < (m : Int) := by omega
        have hmb : (m : Int) ≤ 80000 := by omega
        obtain ⟨D, hD⟩ : ∃ D, Hid (D = (m + 7) / 8) := ⟨_, Lib.hid rfl⟩
        have hmd : ((m : Int) + 8 - 1) / 8 = (D : Int) := by have := hD.out; omega
        have hmd2 : ((m : Int) + 7) / 8 = (D : Int) := by have := hD.out; omega
        have hw3 : IntKind.u64.wrap ((m : Int) + 8) = (m : Int) + 8 := by rw [IntKind.wrap_u64]; omega
        by_cases c2 : (m + 7) / 8 < s2.size
        · have hfin : Hid (decC s.data.toList = (6, [])) := Lib.hid (by rw [Hdc.out, if_neg c1, if_pos c2])
          have c2i : (D : Int) < (s2.size : Int) := by have := hD.out; omega
          clear Hdc c2
          go_wp2
          go_ret2
          exact PtOut.err 6 hfin.out hb12
        · have hfin : Hid (decC s.data.toList = decP s2.data.toList n m) := Lib.hid (by rw [Hdc.out, if_neg c1, if_neg c2])
          have c2i : ¬ (D : Int) < (s2.size : Int) := by have := hD.out; omega
          have PT := points_any s2 n m (by omega) (by omega) (by omega) (by omega) w2 hT2
          clear Hdc c2
          go_wp2_with (go_at_call 50; refine PT.mono ?_; rintro y w3 ⟨v, rfl, q1, q2, q3⟩)
          go_ret2
          rw [hfin.out]
          exact ⟨_, rfl, q1, fun g hg => Nat.le_trans hb12.size (q2 g hg), below_tr hb12 q3⟩
    · have hfin : Hid (decC s.data.toList = (e2, [])) := Lib.hid (by
        unfold decC; rw [h1.out]; simp only [ne_eq, not_true_eq_false, if_false]; rw [if_neg hn', h2.out]; simp only; rw [if_pos he2])
      have hne : ¬ (e2 : Int) = 0 := by omega
      go_wp2
      go_ret2
      exact PtOut.err e2 hfin.out hb12
  · have hfin : Hid (decC s.data.toList = (e, [])) := Lib.hid (by
      unfold decC; rw [h1.out]; simp only; rw [if_pos he])
    have hne : ¬ (e : Int) = 0 := by omega
    go_wp2
    go_ret2
    exact PtOut.err e hfin.out hb1
end Go.Proofs.YtdegmeclcbndgaaDoor
