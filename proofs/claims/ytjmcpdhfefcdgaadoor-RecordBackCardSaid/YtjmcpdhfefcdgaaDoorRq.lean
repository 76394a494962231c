/- Records written and read again: plain. -/
import Derived.Test.YtjmcpdhfefcdgaaDoorRm
namespace Go.Proofs.YtjmcpdhfefcdgaaDoor
open Go.RowKit Lb Dig Inn

namespace Lb
theorem inSig_num (l : List UInt8) : inSig l 0 = (zag (inNum l 0).1, (inNum l 0).2.1, (inNum l 0).2.2) := by
  unfold inSig inNum; rw [if_neg (by omega), if_neg (by omega)]
theorem inSig_numB (z : Int) (h0 : -9223372036854775808 ≤ z) (h1 : z < 9223372036854775808) (r : List UInt8) : inSig (numB (zig z) ++ r) 0 = (z, r, 0) := by
  rw [inSig_num, inNum_numB _ (zig_lt _ h0 h1), zag_zig]
theorem inSig_back {l : List UInt8} {z : Int} {r : List UInt8} (h : inSig l 0 = (z, r, 0)) : l = numB (zig z) ++ r := by
  rcases h0 : inNum l 0 with ⟨n, l1, e1⟩
  rw [inSig_num, h0] at h
  simp only [Prod.mk.injEq] at h
  obtain ⟨rfl, rfl, rfl⟩ := h
  rw [zig_zag]; exact inNum_ok h0
theorem inSig_err {l : List UInt8} {e : Nat} (h : e ≠ 0) : (inSig l e).2.2 = e := by rw [inSig_bad h]
theorem inNum_err {l : List UInt8} {e : Nat} (h : e ≠ 0) : (inNum l e).2.2 = e := by rw [inNum_bad h]
theorem inLab_err {t : List UInt8} {e : Nat} (h : e ≠ 0) : (inLab t e).2 = e := by unfold inLab; rw [if_pos h]
theorem rdS_write : ∀ (l : List Smp) (r : List UInt8) (ps : List Smp), (∀ s ∈ l, chkL s.1 = 0 ∧ (-9223372036854775808 ≤ s.2.1 ∧ s.2.1 < 9223372036854775808) ∧ s.2.2 < 18446744073709551616) → rdS l.length (smsB l ++ r) 0 ps = (ps ++ l, r, 0) := by
  intro l
  induction l with
  | nil => intro r ps _; simp [rdS, smsB]
  | cons p l ih =>
    intro r ps h
    obtain ⟨h0, ⟨h1, h2⟩, h3⟩ := h p (List.mem_cons_self ..)
    have e : smsB (p :: l) ++ r = textB (encL p.1).1 ++ (numB (zig p.2.1) ++ (numB p.2.2 ++ (smsB l ++ r))) := by simp [smsB, smB]
    have t1 := inText_textB (encL p.1).1 (numB (zig p.2.1) ++ (numB p.2.2 ++ (smsB l ++ r))) 1024 (by have := encL_le p.1; omega) (by have := encL_le p.1; omega)
    have t2 : inLab (encL p.1).1 0 = (p.1, 0) := by
      have := dec_enc p.1 h0 []
      rw [List.append_nil, if_pos rfl] at this
      unfold inLab; rw [if_neg (by omega), this]
    have t3 := inSig_numB p.2.1 h1 h2 (numB p.2.2 ++ (smsB l ++ r))
    have t4 := inNum_numB p.2.2 h3 (smsB l ++ r)
    rw [List.length_cons, e, rdS_succ t1 t2 t3 t4, ih r _ (fun q hq => h q (List.mem_cons_of_mem _ hq))]
    simp
theorem rdS_read : ∀ (k : Nat) (l : List UInt8) (ps0 ps : List Smp) (r : List UInt8), rdS k l 0 ps0 = (ps, r, 0) → ∃ q, ps = ps0 ++ q ∧ q.length = k ∧ l = smsB q ++ r := by
  intro k
  induction k with
  | zero =>
    intro l ps0 ps r h
    simp [rdS] at h
    exact ⟨[], by simp [h.1], rfl, by simp [smsB, h.2]⟩
  | succ k ih =>
    intro l ps0 ps r h
    rcases h1 : inText l 0 1024 with ⟨t, l1, e1⟩
    rcases h2 : inLab t e1 with ⟨ls, e2⟩
    rcases h3 : inSig l1 e2 with ⟨a, l2, e3⟩
    rcases h4 : inNum l2 e3 with ⟨v, l3, e4⟩
    rw [rdS_succ h1 h2 h3 h4] at h
    by_cases he4 : e4 = 0
    · subst he4
      have he3 : e3 = 0 := by
        rcases Nat.eq_zero_or_pos e3 with h9 | h9
        · exact h9
        · have := inNum_err (l := l2) (e := e3) (by omega)
          rw [h4] at this; simp at this; omega
      subst he3
      have he2 : e2 = 0 := by
        rcases Nat.eq_zero_or_pos e2 with h9 | h9
        · exact h9
        · have := inSig_err (l := l1) (e := e2) (by omega)
          rw [h3] at this; simp at this; omega
      subst he2
      have he1 : e1 = 0 := by
        rcases Nat.eq_zero_or_pos e1 with h9 | h9
        · exact h9
        · have := inLab_err (t := t) (e := e1) (by omega)
          rw [h2] at this; simp at this; omega
      subst he1
      have hd : decL t = (ls, 0) := by unfold inLab at h2; rwa [if_neg (by omega)] at h2
      have he := enc_dec t (by rw [hd])
      rw [hd] at he
      simp only at he
      obtain ⟨q, q1, q2, q3⟩ := ih l3 _ _ _ h
      refine ⟨(ls, a, v) :: q, by rw [q1]; simp, by simp [q2], ?_⟩
      rw [(inText_ok h1).1, inSig_back h3, inNum_ok h4, q3]
      simp [smsB, smB, he]
    · rw [rdS_bad he4] at h
      simp only [Prod.mk.injEq] at h
      omega
theorem takeM_write (l : List Mt) (h : chkM l = 0) (r : List UInt8) : takeM ((encM l).1 ++ r) 0 = (l, r, 0) := by
  obtain ⟨h8, hok⟩ := chkM_ok h
  have he : (encM l).1 = numB l.length ++ matsB l := by unfold encM; rw [if_neg (by omega)]
  have ht := takeM_eq (s := (encM l).1 ++ r) (e := 0) (by rw [he, List.append_assoc]; exact inNum_numB _ (by omega) _) (show inMust 0 (decide (l.length ≤ 8)) 8 = 0 from by rw [decide_eq_true h8]; rfl) (rdM_write l r [] hok)
  rw [List.nil_append, h] at ht
  rw [ht]; rfl
theorem takeM_read {s l : List UInt8} {ms : List Mt} (h : takeM s 0 = (ms, l, 0)) : s = (encM ms).1 ++ l := by
  have h1 := takeM_drop h
  have h2 := (getM_facts s).2.2.2
  have h3 : getM s = (ms, s.length - l.length, 0) := by unfold getM; rw [h]; rfl
  rw [h3] at h2
  rw [h2 rfl]
  simp only
  conv => lhs; rw [← List.take_append_drop (s.length - l.length) s]
  rw [h1]
theorem encC_one (k : Int) (sm : List Smp) (ms : List Mt) (fr tt : Int) (h : chkR k sm ms fr tt = 0) : encC k sm ms fr tt = (numB k.toNat ++ (if k = 2 then (encM ms).1 ++ (numB (zig fr) ++ numB (zig tt)) else numB sm.length ++ smsB sm), 0) := by
  unfold encC; rw [if_neg (by omega)]
/-- What is written is read. -/
theorem decR_encC (k : Int) (sm : List Smp) (ms : List Mt) (fr tt : Int) (h : chkR k sm ms fr tt = 0) (hs : ∀ s ∈ sm, (-9223372036854775808 ≤ s.2.1 ∧ s.2.1 < 9223372036854775808) ∧ s.2.2 < 18446744073709551616) (hf : -9223372036854775808 ≤ fr ∧ fr < 9223372036854775808) (ht : -9223372036854775808 ≤ tt ∧ tt < 9223372036854775808) (r : List UInt8) :
    decR ((encC k sm ms fr tt).1 ++ r) = if r = [] then (⟨k, sm, ms, fr, tt⟩, 0) else (zR, 6) := by
  have key : ∃ l1 K, inNum ((encC k sm ms fr tt).1 ++ r) 0 = (K, l1, 0) ∧ inMust 0 (decide (K = 1) || decide (K = 2)) 5 = 0 ∧ bodyD K l1 0 = (⟨k, sm, ms, fr, tt⟩, r, 0) := by
    rw [encC_one k sm ms fr tt h]
    rcases chkR_one h with ⟨rfl, rfl, rfl, rfl, h1, h2, h3⟩ | ⟨rfl, rfl, h1, h2⟩
    · refine ⟨_, _, by rw [if_neg (by decide)]; simp only [List.append_assoc]; exact inNum_numB _ (by decide) _, by decide, ?_⟩
      have hb := bad_ok h3
      exact body_one (inNum_numB sm.length (by omega) _) (show inMust 0 (decide (1 ≤ sm.length) && decide (sm.length ≤ 32)) 2 = 0 from by rw [decide_eq_true h1, decide_eq_true h2]; rfl) (rdS_write sm r [] (fun s hss => ⟨hb s hss, hs s hss⟩))
    · refine ⟨_, _, by rw [if_pos rfl]; simp only [List.append_assoc]; exact inNum_numB _ (by decide) _, by decide, ?_⟩
      exact body_two (by decide) (takeM_write ms h1 _) (inSig_numB fr hf.1 hf.2 _) (inSig_numB tt ht.1 ht.2 _)
  obtain ⟨l1, K, k1, k2, k3⟩ := key
  rw [decR_eq k1 k2, k3]
  unfold finR
  simp only
  rw [if_neg (by omega)]
  by_cases hr : r = []
  · rw [if_neg (by simp [hr]), if_pos hr, if_neg (by omega)]
  · rw [if_pos hr, if_neg hr]
/-- What is read is written as it was. -/
theorem encC_decR {s : List UInt8} {k : Int} {sm : List Smp} {ms : List Mt} {fr tt : Int} (h : decR s = (⟨k, sm, ms, fr, tt⟩, 0)) : encC k sm ms fr tt = (s, 0) := by
  rcases h1 : inNum s 0 with ⟨K, l1, e1⟩
  rcases h2 : inMust e1 (decide (K = 1) || decide (K = 2)) 5 with e2
  rw [decR_eq h1 h2] at h
  rcases hb : bodyD K l1 e2 with ⟨R, l, e⟩
  rw [hb] at h
  unfold finR at h
  simp only at h
  by_cases he : e = 0
  · rw [if_neg (by omega)] at h
    subst he
    by_cases hl : l = []
    · rw [if_neg (by simp [hl])] at h
      subst hl
      by_cases hc : chkR R.k R.sm R.ms R.fr R.tt = 0
      · rw [if_neg (by omega)] at h
        have hR : R = ⟨k, sm, ms, fr, tt⟩ := by simpa using h
        subst hR
        simp only at hc
        have he2 : e2 = 0 := by
          by_cases h9 : e2 = 0
          · exact h9
          · have := body_bad (k := K) (l := l1) h9
            rw [hb] at this; simp at this; omega
        subst he2
        obtain ⟨rfl, hK⟩ := inMust_zero h2 (by decide)
        rw [encC_one _ _ _ _ _ hc]
        have hs1 := inNum_ok h1
        by_cases hK1 : K = 1
        · subst hK1
          rcases g1 : inNum l1 0 with ⟨n, l2, e3⟩
          rcases g2 : inMust e3 (decide (1 ≤ n) && decide (n ≤ 32)) 2 with e4
          rcases g3 : rdS n l2 e4 [] with ⟨ss, l3, e5⟩
          rw [body_one g1 g2 g3] at hb
          simp only [Prod.mk.injEq, Rcd.mk.injEq] at hb
          obtain ⟨⟨rfl, rfl, rfl, rfl, rfl⟩, rfl, rfl⟩ := hb
          have he4 : e4 = 0 := by
            by_cases h9 : e4 = 0
            · exact h9
            · rw [rdS_bad h9] at g3
              simp only [Prod.mk.injEq] at g3; omega
          subst he4
          obtain ⟨rfl, _⟩ := inMust_zero g2 (by decide)
          obtain ⟨q, q1, q2, q3⟩ := rdS_read _ _ _ _ _ g3
          rw [List.nil_append] at q1
          subst q1
          rw [if_neg (by decide), hs1, inNum_ok g1, q3, q2]
          simp
        · have hK2 : K = 2 := by simp [hK1] at hK; exact hK
          subst hK2
          rcases g1 : takeM l1 0 with ⟨m, l2, e3⟩
          rcases g2 : inSig l2 e3 with ⟨f, l3, e4⟩
          rcases g3 : inSig l3 e4 with ⟨t, l4, e5⟩
          rw [body_two (by decide) g1 g2 g3] at hb
          simp only [Prod.mk.injEq, Rcd.mk.injEq] at hb
          obtain ⟨⟨rfl, rfl, rfl, rfl, rfl⟩, rfl, rfl⟩ := hb
          have he4 : e4 = 0 := by
            by_cases h9 : e4 = 0
            · exact h9
            · have := inSig_err (l := l3) h9
              rw [g3] at this; simp at this; omega
          subst he4
          have he3 : e3 = 0 := by
            by_cases h9 : e3 = 0
            · exact h9
            · have := inSig_err (l := l2) h9
              rw [g2] at this; simp at this; omega
          subst he3
          have hw : IntKind.i64.wrap ((2 : Nat) : Int) = 2 := by decide
          rw [hw, if_pos rfl, hs1, takeM_read g1, inSig_back g2, inSig_back g3]
          simp
      · rw [if_pos hc] at h
        simp only [Prod.mk.injEq] at h
        omega
    · rw [if_pos hl] at h
      simp only [Prod.mk.injEq] at h
      omega
  · rw [if_pos he] at h
    simp only [Prod.mk.injEq] at h
    omega
/-- What is refused is nothing. -/
theorem decR_zero (s : List UInt8) (h : (decR s).2 ≠ 0) : (decR s).1 = zR := by
  unfold decR at h ⊢
  generalize bodyD (inNum s 0).1 (inNum s 0).2.1 (inMust (inNum s 0).2.2 (decide ((inNum s 0).1 = 1) || decide ((inNum s 0).1 = 2)) 5) = R at h ⊢
  unfold finR at h ⊢
  split
  · rfl
  · split
    · rfl
    · split
      · rfl
      · rename_i h1 h2 h3
        rw [if_neg h1, if_neg h2, if_neg h3] at h
        exact absurd rfl h
end Lb
end Go.Proofs.YtjmcpdhfefcdgaaDoor
