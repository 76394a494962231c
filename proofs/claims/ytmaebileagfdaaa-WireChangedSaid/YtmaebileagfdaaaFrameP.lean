/- Frames, in plain lists. -/
import Derived.Test.YtmaebileagfdaaaFrameG
import Derived.Test.YtmaebileagfdaaaCrcLin
namespace Go.Proofs.Ytmaebileagfdaaa
open Go.RowKit Dig Crc
namespace Frm
theorem put_ok {k : Int} {d : List UInt8} (h : 1 ≤ k ∧ k ≤ 255) (hd : d.length ≤ 65536) : put k d = (body k d ++ sumB (moreN 0 (body k d)), 0) := by
  unfold put; rw [if_neg (by omega), if_neg (by omega)]
theorem put_kind {k : Int} {d : List UInt8} (h : k < 1 ∨ 255 < k) : put k d = ([], 5) := by unfold put; rw [if_pos h]
theorem put_long {k : Int} {d : List UInt8} (h : 1 ≤ k ∧ k ≤ 255) (hd : 65536 < d.length) : put k d = ([], 8) := by unfold put; rw [if_neg (by omega), if_pos hd]
theorem put_len {k : Int} {d : List UInt8} (h : 1 ≤ k ∧ k ≤ 255) (hd : d.length ≤ 65536) : (put k d).1.length = (textB d).length + 5 := by
  rw [put_ok h hd]; simp [body, sumB]
theorem put_e (k : Int) (d : List UInt8) : ((put k d).2 = 0 ∧ (1 ≤ k ∧ k ≤ 255) ∧ d.length ≤ 65536) ∨ ((put k d).2 = 5 ∧ (put k d).1 = [] ∧ (k < 1 ∨ 255 < k)) ∨ ((put k d).2 = 8 ∧ (put k d).1 = [] ∧ (1 ≤ k ∧ k ≤ 255) ∧ 65536 < d.length) := by
  by_cases h1 : k < 1 ∨ 255 < k
  · rw [put_kind h1]; exact .inr (.inl ⟨rfl, rfl, h1⟩)
  · by_cases h2 : 65536 < d.length
    · rw [put_long (by omega) h2]; exact .inr (.inr ⟨rfl, rfl, by omega, h2⟩)
    · rw [put_ok (by omega) (by omega)]; exact .inl ⟨rfl, by omega, by omega⟩

theorem get_put {k : Int} {d : List UInt8} (h : 1 ≤ k ∧ k ≤ 255) (hd : d.length ≤ 65536) (r : List UInt8) : get ((put k d).1 ++ r) = (k.toNat, d, (put k d).1.length, 0) := by
  have hb0 : ¬ UInt8.ofNat k.toNat = 0 := by
    intro e
    have := congrArg UInt8.toNat e
    rw [UInt8.toNat_ofNat'] at this
    simp at this; omega
  have hbt : (UInt8.ofNat k.toNat).toNat = k.toNat := by rw [UInt8.toNat_ofNat']; omega
  rw [put_len h hd, put_ok h hd]
  have hs4 : (sumB (moreN 0 (body k d))).length = 4 := rfl
  have e1 : body k d ++ sumB (moreN 0 (body k d)) ++ r = UInt8.ofNat k.toNat :: (textB d ++ (sumB (moreN 0 (body k d)) ++ r)) := by simp [body]
  have hgt := getText_textB d (sumB (moreN 0 (body k d)) ++ r) 65536 (by omega) (by omega)
  have hbl : (body k d).length = (textB d).length + 1 := by simp [body]
  rw [e1]
  unfold get
  simp only
  rw [if_neg hb0, hgt]
  simp only
  rw [if_neg (by simp), ← e1, if_neg, if_neg, hbt]
  · rw [← hbl, List.append_assoc, List.drop_append_of_le_length (Nat.le_refl _), List.drop_length, List.nil_append, List.take_append_of_le_length (by rw [hs4]; omega), List.take_of_length_le (by rw [hs4]; omega),
      List.take_append_of_le_length (Nat.le_refl _), List.take_length]
    simp
  · simp only [List.length_append, hs4, hbl]; omega
theorem sumB_inj {a b : Nat} (ha : a < 4294967296) (hb : b < 4294967296) (h : sumB a = sumB b) : a = b := by
  simp only [sumB, List.cons.injEq, and_true] at h
  obtain ⟨h0, h1, h2, h3⟩ := h
  have e0 := congrArg UInt8.toNat h0
  have e1 := congrArg UInt8.toNat h1
  have e2 := congrArg UInt8.toNat h2
  have e3 := congrArg UInt8.toNat h3
  simp only [UInt8.toNat_ofNat'] at e0 e1 e2 e3
  omega

theorem get_err (s : List UInt8) (h : (get s).2.2.2 ≠ 0) : get s = (0, [], 0, (get s).2.2.2) := by
  unfold get at h ⊢
  split
  · rfl
  · simp only at h
    split
    · rfl
    · rename_i h0
      rw [if_neg h0] at h
      split
      · rfl
      · rename_i h1
        rw [if_neg h1] at h
        split
        · rfl
        · rename_i h2
          rw [if_neg h2] at h
          split
          · rfl
          · rename_i h3
            rw [if_neg h3] at h
            simp at h

theorem get_ok {s : List UInt8} (h : (get s).2.2.2 = 0) : ∃ b r t k, s = b :: r ∧ ¬ b = 0 ∧ getText r 65536 = (t, k, 0) ∧ k + 5 ≤ s.length ∧ (s.drop (k + 1)).take 4 = sumB (moreN 0 (s.take (k + 1))) ∧ get s = (b.toNat, t, k + 5, 0) := by
  unfold get at h ⊢
  split at h
  · simp at h
  · rename_i b r
    by_cases h0 : b = 0
    · rw [if_pos h0] at h; simp at h
    · rw [if_neg h0] at h
      rcases hg : getText r 65536 with ⟨t, k, e⟩
      rw [hg] at h
      simp only at h
      by_cases h1 : e = 0
      · subst h1
        rw [if_neg (by simp)] at h
        by_cases h2 : (b :: r).length < k + 5
        · rw [if_pos h2] at h; simp at h
        · rw [if_neg h2] at h
          by_cases h3 : ((b :: r).drop (k + 1)).take 4 = sumB (moreN 0 ((b :: r).take (k + 1)))
          · refine ⟨b, r, t, k, rfl, h0, hg, by omega, h3, ?_⟩
            simp only
            rw [if_neg h0, if_neg (by simp), if_neg h2, if_neg (by simpa using h3)]
          · rw [if_pos h3] at h; simp at h
      · rw [if_pos h1] at h; exact absurd h h1

theorem getText_num (n : Nat) (X : List UInt8) (h : n < 18446744073709551616) (hm : n ≤ 65536) (hX : n ≤ X.length) : getText (numB n ++ X) 65536 = (X.take n, (numB n).length + n, 0) := by
  unfold getText
  rw [getNum_numB n h X]
  simp only
  rw [if_neg (by simp), if_neg (by omega), if_neg (by rw [List.length_append]; omega), List.drop_append_of_le_length (Nat.le_refl _), List.drop_length, List.nil_append]

theorem get_changed {k : Int} {d : List UInt8} (h : 1 ≤ k ∧ k ≤ 255) (hd : d.length ≤ 2000) (p : Nat) (hp : p < (put k d).1.length) (y : UInt8) (hy : (put k d).1[p]? ≠ some y) :
    (get ((put k d).1.set p y)).2.2.2 = 0 → (get ((put k d).1.set p y)).2.2.1 < (put k d).1.length ∧ 1 ≤ p ∧ p ≤ 3 := by
  intro h0
  have hlen := put_len h (show d.length ≤ 65536 by omega)
  have hput := put_ok h (show d.length ≤ 65536 by omega)
  obtain ⟨l, hl⟩ : ∃ l, l = (put k d).1 := ⟨_, rfl⟩
  rw [← hl] at hp hy h0 hlen ⊢
  rw [hput] at hl
  simp only at hl
  have hb5 : (body k d).length = (textB d).length + 1 := by simp [body]
  obtain ⟨b, r, t, k', hs, hb, hgt, hk, hsum, hget⟩ := get_ok h0
  rw [hget]
  simp only
  rw [List.length_set] at hk
  have key : k' + 5 ≠ l.length := by
    intro e
    have hkT : k' = (textB d).length := by omega
    have e1 : l.drop (k' + 1) = sumB (moreN 0 (body k d)) := by rw [hl, hkT, ← hb5, List.drop_append_of_le_length (Nat.le_refl _), List.drop_length, List.nil_append]
    have e2 : l.take (k' + 1) = body k d := by rw [hl, hkT, ← hb5, List.take_append_of_le_length (Nat.le_refl _), List.take_length]
    have hs4 : (sumB (moreN 0 (body k d))).length = 4 := rfl
    by_cases hpk : p < k' + 1
    · have e3 : (l.set p y).drop (k' + 1) = l.drop (k' + 1) := by rw [List.drop_set_of_lt hpk]
      have e4 : (l.set p y).take (k' + 1) = (body k d).set p y := by rw [List.take_set, e2]
      rw [e3, e4, e1, List.take_of_length_le (by rw [hs4]; omega)] at hsum
      have e5 := sumB_inj (moreN_lt _ _) (moreN_lt _ _) hsum
      have hpb : p < (body k d).length := by omega
      have hbp : (body k d)[p]? = l[p]? := by rw [hl, List.getElem?_append_left hpb]
      have hne : (body k d)[p] ≠ y := by
        intro e6
        apply hy
        rw [← hbp, List.getElem?_eq_getElem hpb, e6]
      have e7 : (body k d) = (body k d).take p ++ (body k d)[p] :: (body k d).drop (p + 1) := by
        rw [← List.drop_eq_getElem_cons hpb, List.take_append_drop]
      have e8 : (body k d).set p y = (body k d).take p ++ y :: (body k d).drop (p + 1) := by
        rw [List.set_eq_take_append_cons_drop, if_pos hpb]
      rw [e8] at e5
      refine byte_ne 0 ((body k d).take p) ((body k d).drop (p + 1)) _ _ hne ?_
      rw [← e7]; exact e5
    · have e4 : (l.set p y).take (k' + 1) = body k d := by rw [List.take_set_of_le (by omega), e2]
      rw [e4, List.drop_set, if_neg hpk, e1, List.take_of_length_le (by rw [List.length_set, hs4]; omega)] at hsum
      have e5 : (sumB (moreN 0 (body k d)))[p - (k' + 1)]? = some y := by
        conv => lhs; rw [← hsum]
        rw [List.getElem?_set_self (by rw [hs4]; omega)]
      apply hy
      rw [← e5, ← e1, List.getElem?_drop]
      congr 1; omega
  refine ⟨by omega, ?_⟩
  -- the count is not where it was changed, unless p is 1, 2 or 3
  have hnl : (numB d.length).length ≤ 3 := by
    have := dig_len d.length 2 (by omega)
    simp [numB]; omega
  have htl : (textB d).length = (numB d.length).length + d.length := by simp [textB]
  apply Classical.byContradiction
  intro hno
  have hp0 : p = 0 ∨ 3 < p := by omega
  apply key
  have hlr : l = UInt8.ofNat k.toNat :: (numB d.length ++ (d ++ sumB (moreN 0 (body k d)))) := by rw [hl]; simp [body, textB]
  rcases hp0 with rfl | hp3
  · rw [hlr, List.set_cons_zero] at hs
    obtain ⟨rfl, rfl⟩ := List.cons.inj hs
    rw [getText_num d.length _ (by omega) (by omega) (by simp)] at hgt
    simp only [Prod.mk.injEq] at hgt
    omega
  · obtain ⟨p', rfl⟩ : ∃ p', p = p' + 1 := ⟨p - 1, by omega⟩
    rw [hlr, List.set_cons_succ, List.set_append_right _ _ (by omega)] at hs
    obtain ⟨rfl, rfl⟩ := List.cons.inj hs
    rw [getText_num d.length _ (by omega) (by omega) (by simp)] at hgt
    simp only [Prod.mk.injEq] at hgt
    omega
end Frm
end Go.Proofs.Ytmaebileagfdaaa
