/- Points read of bits and bytes, in plain lists. No program in sight. -/
import Derived.Test.YtdegmeclcbndgaaDoorCk
import Derived.Test.YtdegmeclcbndgaaDoorTimC
import Derived.Test.YtdegmeclcbndgaaDoorXorL
namespace Go.Proofs.YtdegmeclcbndgaaDoor
open Go.RowKit Bit Tim Xo Dig

namespace Ck
theorem getT_pre {s : St} {R : List Bool} {t : Int} {k : Nat} (h : getT s R = some (t, k)) : k ≤ R.length ∧ encT s t = R.take k ∧ -9223372036854775808 ≤ t ∧ t < 9223372036854775808 := by
  cases hb : s.b with
  | false =>
    by_cases h64 : 64 ≤ R.length
    · have h1 := cand_first s R hb h64
      rw [h] at h1
      split at h1
      · rename_i he
        cases h1
        exact ⟨h64, he, wrap_fit _⟩
      · cases h1
    · rw [none_first s R hb h64] at h; cases h
  | true =>
    cases hp : parse R with
    | none => rw [none_next s R hb hp] at h; cases h
    | some y =>
      obtain ⟨x, n⟩ := y
      have h1 := cand_next s R hb x n hp (parse_fit R x n hp)
      rw [h] at h1
      split at h1
      · rename_i he
        cases h1
        refine ⟨?_, he, wrap_fit _⟩
        unfold parse at hp
        split at hp
        · cases hp
        · split at hp
          · cases hp; assumption
          · cases hp
      · cases h1
theorem getV_pre {x : XS} (ok : XOk x) {R : List Bool} {v k : Nat} (h : getV x R = some (v, k)) : k ≤ R.length ∧ encV x v = R.take k ∧ v < 18446744073709551616 := by
  refine ⟨getV_len h, ?_⟩
  unfold getV at h
  cases hg : guess x R with
  | none => rw [hg] at h; cases h
  | some y =>
    obtain ⟨v', n'⟩ := y
    rw [hg] at h
    simp only at h
    split at h
    · rename_i he
      cases h
      exact ⟨he, guess_bound x ok hg⟩
    · cases h

/-- Is a time above the last one? -/
def above (last : Option Int) (t : Int) : Bool := match last with | none => true | some u => decide (u < t)
/-- So many points read of bits: the error, the points, the bits that are left. -/
def readP : Nat → St → XS → Option Int → List Bool → Nat × List (Int × Nat) × List Bool
  | 0, _, _, _, R => (0, [], R)
  | n + 1, s, x, last, R => match getT s R with
    | none => (3, [], R)
    | some (t, k) => match getV x (R.drop k) with
      | none => (3, [], R)
      | some (v, k2) => if above last t then
          ((readP n (s.next t) (x.next v) (some t) ((R.drop k).drop k2)).1, (t, v) :: (readP n (s.next t) (x.next v) (some t) ((R.drop k).drop k2)).2.1, (readP n (s.next t) (x.next v) (some t) ((R.drop k).drop k2)).2.2)
        else (9, [], R)

def ascL (last : Option Int) : List (Int × Nat) → Bool
  | [] => true
  | a :: l => above last a.1 && ascL (some a.1) l
theorem ascL_some (a : Int × Nat) (l : List (Int × Nat)) : ascL (some a.1) l = ascB (a :: l) := by
  induction l generalizing a with
  | nil => rfl
  | cons b l ih => simp only [ascL, ascB, ih, above]
theorem ascL_none (l : List (Int × Nat)) : ascL none l = ascB l := by
  cases l with
  | nil => rfl
  | cons a l => simp only [ascL, above, Bool.true_and, ascL_some]
def FitP (l : List (Int × Nat)) : Prop := ∀ a ∈ l, -9223372036854775808 ≤ a.1 ∧ a.1 < 9223372036854775808 ∧ a.2 < 18446744073709551616

theorem readP_enc (l : List (Int × Nat)) : ∀ (s : St) (x : XS) (last : Option Int) (R : List Bool), XOk x → FitP l → ascL last l = true → readP l.length s x last (Ck.encB s x l ++ R) = (0, l, R) := by
  induction l with
  | nil => intro s x last R _ _ _; rfl
  | cons a l ih =>
    intro s x last R ok hf ha
    obtain ⟨f1, f2, f3⟩ := hf a (by simp)
    simp only [ascL, Bool.and_eq_true] at ha
    have hg := getT_enc s a.1 (encV x a.2 ++ Ck.encB (s.next a.1) (x.next a.2) l ++ R) f1 f2
    have hv := getV_enc x ok a.2 f3 (Ck.encB (s.next a.1) (x.next a.2) l ++ R)
    simp only [encB, List.length_cons, readP]
    rw [List.append_assoc, hg]
    simp only
    rw [List.drop_append_of_le_length (Nat.le_refl _), List.drop_length, List.nil_append, List.append_assoc, hv]
    simp only
    rw [if_pos ha.1, List.drop_append_of_le_length (Nat.le_refl _), List.drop_length, List.nil_append, ih _ _ _ _ (ok.next f3) (fun b hb => hf b (by simp [hb])) ha.2]

theorem readP_dec (n : Nat) : ∀ (s : St) (x : XS) (last : Option Int) (R : List Bool) (l : List (Int × Nat)) (R' : List Bool), XOk x → readP n s x last R = (0, l, R') → R = Ck.encB s x l ++ R' ∧ l.length = n ∧ ascL last l = true ∧ FitP l := by
  induction n with
  | zero =>
    intro s x last R l R' _ h
    simp only [readP, Prod.mk.injEq, true_and] at h
    obtain ⟨rfl, rfl⟩ := h
    exact ⟨rfl, rfl, rfl, fun a ha => by simp at ha⟩
  | succ n ih =>
    intro s x last R l R' ok h
    simp only [readP] at h
    cases hg : getT s R with
    | none => rw [hg] at h; simp at h
    | some y =>
      obtain ⟨t, k⟩ := y
      rw [hg] at h
      simp only at h
      cases hv : getV x (R.drop k) with
      | none => rw [hv] at h; simp at h
      | some z =>
        obtain ⟨v, k2⟩ := z
        rw [hv] at h
        simp only at h
        split at h
        · rename_i ha
          obtain ⟨g1, g2, g3, g4⟩ := getT_pre hg
          obtain ⟨v1, v2, v3⟩ := getV_pre ok hv
          generalize hr : readP n (s.next t) (x.next v) (some t) ((R.drop k).drop k2) = r at h
          obtain ⟨r1, r2, r3⟩ := r
          simp only [Prod.mk.injEq] at h
          obtain ⟨rfl, rfl, rfl⟩ := h
          obtain ⟨i1, i2, i3, i4⟩ := ih _ _ _ _ _ _ (ok.next v3) hr
          refine ⟨?_, by simp [i2], by simp [ascL, ha, i3], fun a ham => ?_⟩
          · simp only [encB]
            rw [g2, v2, List.append_assoc, List.append_assoc, ← i1, List.take_append_drop, List.take_append_drop]
          · rcases List.mem_cons.mp ham with rfl | ham
            · exact ⟨g3, g4, v3⟩
            · exact i4 a ham
        · simp at h

/-- Are the bits that fill the last byte 0? -/
def filledB (s : List UInt8) (m : Nat) : Bool := m % 8 == 0 || (s.getD (s.length - 1) 0).toNat % 2 ^ (8 - m % 8) == 0
def decP (s : List UInt8) (n m : Nat) : Nat × List (Int × Nat) :=
  if (readP n St.zero XS.zero none ((bitsT s).take m)).1 = 0 then
    (if (readP n St.zero XS.zero none ((bitsT s).take m)).2.2 = [] ∧ filledB s m = true then (0, (readP n St.zero XS.zero none ((bitsT s).take m)).2.1) else (3, []))
  else ((readP n St.zero XS.zero none ((bitsT s).take m)).1, [])
def decC (s : List UInt8) : Nat × List (Int × Nat) :=
  if (getNum s).2.2 ≠ 0 then ((getNum s).2.2, [])
  else if (getNum s).1 < 1 ∨ 64 < (getNum s).1 then (2, [])
  else if (getNum (s.drop (getNum s).2.1)).2.2 ≠ 0 then ((getNum (s.drop (getNum s).2.1)).2.2, [])
  else if 8 * (s.drop ((getNum s).2.1 + (getNum (s.drop (getNum s).2.1)).2.1)).length < (getNum (s.drop (getNum s).2.1)).1 then (1, [])
  else if ((getNum (s.drop (getNum s).2.1)).1 + 7) / 8 < (s.drop ((getNum s).2.1 + (getNum (s.drop (getNum s).2.1)).2.1)).length then (6, [])
  else decP (s.drop ((getNum s).2.1 + (getNum (s.drop (getNum s).2.1)).2.1)) (getNum s).1 (getNum (s.drop (getNum s).2.1)).1
theorem decC_at {s : List UInt8} {n k m j : Nat} (h1 : getNum s = (n, k, 0)) (h2 : getNum (s.drop k) = (m, j, 0)) :
    decC s = if n < 1 ∨ 64 < n then (2, []) else if 8 * (s.drop (k + j)).length < m then (1, []) else if (m + 7) / 8 < (s.drop (k + j)).length then (6, []) else decP (s.drop (k + j)) n m := by
  unfold decC
  rw [h1]
  simp only [ne_eq, not_true_eq_false, if_false]
  rw [h2]
  simp only [not_true_eq_false, if_false]

theorem filled_pack (L : List Bool) : filledB (pack L) L.length = true := by
  unfold filledB
  by_cases h : L.length % 8 = 0
  · simp [h]
  · rw [pack_length]
    have e : (L.length + 7) / 8 - 1 = L.length / 8 := by omega
    rw [e]
    have hp := packN_get ((L.length + 7) / 8) L (L.length / 8) (by omega)
    have hg : (pack L).getD (L.length / 8) 0 = UInt8.ofNat (byteAt L (L.length / 8)) := by
      rw [List.getD_eq_getElem?_getD]
      unfold pack
      rw [hp]; rfl
    rw [hg, UInt8.toNat_ofNat', Nat.mod_eq_of_lt (byteAt_lt _ _), byteAt_low]
    simp

theorem dec_enc (ps : List (Int × Nat)) (h0 : encE ps = 0) (hf : FitP ps) : decC (encBytes ps) = (0, ps) := by
  have hl : 1 ≤ ps.length ∧ ps.length ≤ 64 ∧ ascB ps = true := by
    unfold encE at h0
    split at h0
    · cases h0
    · split at h0
      · exact ⟨by omega, by omega, by assumption⟩
      · cases h0
  obtain ⟨l1, l2, l3⟩ := hl
  have hbl := encB_len ps St.zero XS.zero
  unfold encBytes
  have g1 := getNum_numB ps.length (by omega) (numB (encBits ps).length ++ pack (encBits ps))
  have hb : (encBits ps).length < 18446744073709551616 := by unfold encBits; omega
  have g2 := getNum_numB (encBits ps).length hb (pack (encBits ps))
  have d1 : (numB ps.length ++ (numB (encBits ps).length ++ pack (encBits ps))).drop (numB ps.length).length = numB (encBits ps).length ++ pack (encBits ps) := by
    rw [List.drop_append_of_le_length (Nat.le_refl _), List.drop_length, List.nil_append]
  have d2 : (numB ps.length ++ (numB (encBits ps).length ++ pack (encBits ps))).drop ((numB ps.length).length + (numB (encBits ps).length).length) = pack (encBits ps) := by
    rw [← List.drop_drop, d1, List.drop_append_of_le_length (Nat.le_refl _), List.drop_length, List.nil_append]
  rw [decC_at g1 (by rw [d1]; exact g2), d2, if_neg (by omega), if_neg (by rw [pack_length]; omega), if_neg (by rw [pack_length]; omega)]
  have hr := readP_enc ps St.zero XS.zero none [] XOk.zero hf (by rw [ascL_none]; exact l3)
  rw [List.append_nil] at hr
  unfold decP
  rw [bitsT_pack]
  unfold encBits
  rw [hr]
  simp only [if_true]
  rw [if_pos ⟨trivial, filled_pack _⟩]

theorem pack_filled (s : List UInt8) (m : Nat) (h1 : m ≤ 8 * s.length) (h2 : s.length ≤ (m + 7) / 8) (hf : filledB s m = true) : pack ((bitsT s).take m) = s := by
  have hlt : ((bitsT s).take m).length = m := by rw [List.length_take, bitsT_length]; omega
  have hls : s.length = (m + 7) / 8 := by omega
  apply List.ext_getElem?
  intro j
  by_cases hj : j < s.length
  · have hp := packN_get ((m + 7) / 8) ((bitsT s).take m) j (by omega)
    unfold pack
    rw [hlt, hp, List.getElem?_eq_getElem hj]
    congr 1
    apply UInt8.toNat_inj.mp
    rw [UInt8.toNat_ofNat', Nat.mod_eq_of_lt (byteAt_lt _ _)]
    apply Nat.eq_of_testBit_eq
    intro i
    by_cases hi : i < 8
    · have h7 : i = 7 - (7 - i) := by omega
      rw [h7, byteAt_testBit _ _ _ (by omega), List.getD_eq_getElem?_getD, List.getElem?_take]
      have hgj : s.getD j 0 = s[j] := by rw [List.getD_eq_getElem?_getD, List.getElem?_eq_getElem hj]; rfl
      by_cases hm : 8 * j + (7 - i) < m
      · rw [if_pos hm, bitsT_get s _ (by omega)]
        have e1 : (8 * j + (7 - i)) / 8 = j := by omega
        have e2 : 7 - (8 * j + (7 - i)) % 8 = 7 - (7 - i) := by omega
        rw [e1, e2, hgj]; rfl
      · rw [if_neg hm]
        show false = _
        unfold filledB at hf
        simp only [Bool.or_eq_true, beq_iff_eq] at hf
        rcases hf with h8 | h8
        · omega
        · have hje : j = s.length - 1 := by omega
          rw [← hje, hgj] at h8
          have h9 : s[j].toNat.testBit (7 - (7 - i)) = (s[j].toNat % 2 ^ (8 - m % 8)).testBit (7 - (7 - i)) := by
            rw [Nat.testBit_mod_two_pow]
            have : 7 - (7 - i) < 8 - m % 8 := by omega
            simp [this]
          rw [h9, h8, Nat.zero_testBit]
    · have hlt2 : ∀ a : Nat, a < 256 → a.testBit i = false := fun a ha => Nat.testBit_lt_two_pow (Nat.lt_of_lt_of_le ha (show 2 ^ 8 ≤ 2 ^ i from Nat.pow_le_pow_right (by decide) (by omega)))
      rw [hlt2 _ (byteAt_lt _ _), hlt2 _ (s[j].toNat_lt)]
  · rw [List.getElem?_eq_none (by rw [pack_length, hlt]; omega), List.getElem?_eq_none (by omega)]

theorem enc_dec (s : List UInt8) (ps : List (Int × Nat)) (h : decC s = (0, ps)) : encE ps = 0 ∧ encBytes ps = s ∧ FitP ps := by
  obtain ⟨n, k, e, h1⟩ : ∃ n k e, getNum s = (n, k, e) := ⟨_, _, _, rfl⟩
  obtain ⟨m, j, e2, h2⟩ : ∃ m j e2, getNum (s.drop k) = (m, j, e2) := ⟨_, _, _, rfl⟩
  have he : e = 0 := by
    by_cases he : e = 0
    · exact he
    · unfold decC at h; rw [h1] at h; simp only at h; rw [if_pos he] at h; cases h; exact absurd rfl he
  subst he
  have he2 : e2 = 0 := by
    by_cases he : e2 = 0
    · exact he
    · unfold decC at h; rw [h1] at h; simp only [ne_eq, not_true_eq_false, if_false] at h
      split at h
      · cases h
      · rw [h2] at h; simp only at h; rw [if_pos he] at h; cases h; exact absurd rfl he
  subst he2
  rw [decC_at h1 h2] at h
  split at h
  · cases h
  rename_i c1
  split at h
  · cases h
  rename_i c2
  split at h
  · cases h
  rename_i c3
  unfold decP at h
  generalize hr : readP n St.zero XS.zero none ((bitsT (s.drop (k + j))).take m) = r at h
  obtain ⟨r1, r2, r3⟩ := r
  simp only at h
  split at h
  · rename_i hr1
    subst hr1
    split at h
    · rename_i hr2
      cases h
      obtain ⟨rfl, hfl⟩ := hr2
      obtain ⟨i1, i2, i3, i4⟩ := readP_dec n _ _ _ _ _ _ XOk.zero hr
      rw [List.append_nil] at i1
      have hlen : ((bitsT (s.drop (k + j))).take m).length = m := by rw [List.length_take, bitsT_length]; omega
      have hpk := pack_filled (s.drop (k + j)) m (by omega) (by omega) hfl
      have hn1 := numB_getNum s (by rw [h1])
      have hn2 := numB_getNum (s.drop k) (by rw [h2])
      rw [h1] at hn1
      rw [h2] at hn2
      simp only at hn1 hn2
      refine ⟨(encE_ok ps (by omega) (by omega) (by rw [← ascL_none]; exact i3)).1, ?_, i4⟩
      unfold encBytes encBits
      rw [← i1, hpk, hlen, i2, hn1.1, hn2.1, ← List.drop_drop, List.take_append_drop, List.take_append_drop]
    · cases h
  · cases h
    rename_i hx
    exact absurd rfl hx
end Ck
end Go.Proofs.YtdegmeclcbndgaaDoor
