/- Labels that are written are read as they were: plain. -/
import Derived.Test.YtjmcpdhfefcdgaaDoorLg
namespace Go.Proofs.YtjmcpdhfefcdgaaDoor
open Go.RowKit Lb Dig Inn

theorem textB_getText (l : List UInt8) (m : Int) (h : (getText l m).2.2 = 0) : textB (getText l m).1 = l.take (getText l m).2.1 ∧ (getText l m).1.length ≤ m.toNat := by
  unfold getText at h ⊢
  rcases hg : getNum l with ⟨n, k, e⟩
  rw [hg] at h
  have hf := getNum_facts hg
  have hn := numB_getNum l
  rw [hg] at hn
  simp only at h hn ⊢
  split at h
  · simp at h; omega
  · split at h
    · simp at h
    · split at h
      · simp at h
      · rename_i h1 h2 h3
        have he : e = 0 := by simpa using h1
        rw [if_neg (by simpa using he), if_neg h2, if_neg h3]
        simp only
        have hl : ((l.drop k).take n).length = n := by rw [List.length_take, List.length_drop]; omega
        refine ⟨?_, by omega⟩
        unfold textB
        rw [hl, (hn he).1, List.take_add]
/-- A text that is read was written. -/
theorem inText_ok {l : List UInt8} {m : Int} {t r : List UInt8} (h : inText l 0 m = (t, r, 0)) : l = textB t ++ r ∧ t.length ≤ m.toNat := by
  unfold inText at h
  rw [if_neg (by omega)] at h
  simp only [Prod.mk.injEq] at h
  obtain ⟨h1, h2, h3⟩ := h
  obtain ⟨h4, h5⟩ := textB_getText l m h3
  rw [← h1, ← h2, h4]
  exact ⟨(List.take_append_drop _ _).symm, h5⟩
theorem inText_textB (t r : List UInt8) (m : Int) (ht : t.length ≤ 100000) (hm : (t.length : Int) ≤ m) : inText (textB t ++ r) 0 m = (t, r, 0) := by
  unfold inText
  rw [if_neg (by omega), getText_textB t r m (by omega) hm]
  simp
theorem inNum_numB (n : Nat) (h : n < 18446744073709551616) (r : List UInt8) : inNum (numB n ++ r) 0 = (n, r, 0) := by
  unfold inNum
  rw [if_neg (by omega), getNum_numB n h]
  simp
theorem inNum_ok {l : List UInt8} {n : Nat} {r : List UInt8} (h : inNum l 0 = (n, r, 0)) : l = numB n ++ r := by
  unfold inNum at h
  rw [if_neg (by omega)] at h
  simp only [Prod.mk.injEq] at h
  obtain ⟨h1, h2, h3⟩ := h
  have h4 := (numB_getNum l h3).1
  rw [h1] at h4
  rw [h4, ← h2]
  exact (List.take_append_drop _ _).symm
theorem inText_err {l : List UInt8} {e : Nat} {m : Int} (h : e ≠ 0) : (inText l e m).2.2 = e := by unfold inText; rw [if_pos h]

namespace Lb
theorem rdD_write : ∀ (l : List Pr) (r : List UInt8) (ps : List Pr), (∀ p ∈ l, nameB p.1.data.toList = true ∧ valueB p.2.data.toList = true) → rdD l.length (pairsB l ++ r) 0 ps = (ps ++ l, r, 0) := by
  intro l
  induction l with
  | nil => intro r ps _; simp [rdD, pairsB]
  | cons p l ih =>
    intro r ps h
    have h0 := h p (List.mem_cons_self ..)
    have h1 := nameB_len h0.1
    have h2 := valueB_len h0.2
    have e : pairsB (p :: l) ++ r = textB p.1.data.toList ++ (textB p.2.data.toList ++ (pairsB l ++ r)) := by simp [pairsB]
    have t1 := inText_textB p.1.data.toList (textB p.2.data.toList ++ (pairsB l ++ r)) 32 (by omega) (by omega)
    have t2 := inText_textB p.2.data.toList (pairsB l ++ r) 64 (by omega) (by omega)
    rw [List.length_cons, e, rdD_succ t1 t2, ih r _ (fun q hq => h q (List.mem_cons_of_mem _ hq)), mkS_toList, mkS_toList]
    simp
theorem rdD_read : ∀ (k : Nat) (l : List UInt8) (ps0 ps : List Pr) (r : List UInt8), rdD k l 0 ps0 = (ps, r, 0) → ∃ q, ps = ps0 ++ q ∧ q.length = k ∧ l = pairsB q ++ r := by
  intro k
  induction k with
  | zero =>
    intro l ps0 ps r h
    simp [rdD] at h
    exact ⟨[], by simp [h.1], rfl, by simp [pairsB, h.2]⟩
  | succ k ih =>
    intro l ps0 ps r h
    rcases h1 : inText l 0 32 with ⟨t, l1, e1⟩
    rcases h2 : inText l1 e1 64 with ⟨u, l2, e2⟩
    rw [rdD_succ h1 h2] at h
    by_cases he2 : e2 = 0
    · subst he2
      have he1 : e1 = 0 := by
        rcases Nat.eq_zero_or_pos e1 with h9 | h9
        · exact h9
        · have := inText_err (l := l1) (e := e1) (m := 64) (by omega)
          rw [h2] at this; simp at this; omega
      subst he1
      obtain ⟨q, q1, q2, q3⟩ := ih l2 _ _ _ h
      refine ⟨(mkS t, mkS u) :: q, by rw [q1]; simp, by simp [q2], ?_⟩
      rw [(inText_ok h1).1, (inText_ok h2).1, q3]
      simp [pairsB, mkS_data]
    · rw [rdD_bad he2] at h
      simp only [Prod.mk.injEq] at h
      omega
theorem dec_enc (l : List Pr) (h : chkL l = 0) (r : List UInt8) : decL ((encL l).1 ++ r) = if r = [] then (l, 0) else ([], 6) := by
  obtain ⟨h1, h8, hok⟩ := chkL_ok h
  have he : (encL l).1 = numB l.length ++ pairsB l := by unfold encL; rw [if_neg (by omega)]
  unfold decL
  rw [he, List.append_assoc, inNum_numB _ (by omega)]
  simp only
  rw [decide_eq_true h1, decide_eq_true h8, show inMust 0 (true && true) 16 = 0 from rfl, rdD_write l r [] hok]
  unfold finD
  simp only [List.nil_append]
  by_cases hr : r = []
  · rw [if_pos hr, if_neg (by simp), if_neg (by simp [hr]), if_neg (by omega)]
  · rw [if_neg hr, if_neg (by simp), if_pos (by simpa using hr)]
theorem enc_dec (s : List UInt8) (h : (decL s).2 = 0) : encL (decL s).1 = (s, 0) := by
  unfold decL finD at h ⊢
  rcases h1 : inNum s 0 with ⟨n, r, e⟩
  rw [h1] at h
  simp only at h ⊢
  obtain ⟨e2, he2⟩ : ∃ e', inMust e (decide (1 ≤ n) && decide (n ≤ 8)) 16 = e' := ⟨_, rfl⟩
  rw [he2] at h ⊢
  rcases h3 : rdD n r e2 [] with ⟨ps, l, e3⟩
  rw [h3] at h
  simp only at h ⊢
  split at h
  · rename_i h4; simp at h; exact absurd h h4
  rename_i h4
  have h4 : e3 = 0 := by simpa using h4
  subst h4
  split at h
  · simp at h
  rename_i h5
  have h5 : l = [] := by simpa using h5
  subst h5
  split at h
  · simp at h
  rename_i h6
  have h6 : chkL ps = 0 := by simpa using h6
  have h7 : e2 = 0 := by
    rcases Nat.eq_zero_or_pos e2 with h9 | h9
    · exact h9
    · rw [rdD_bad (by omega)] at h3; simp only [Prod.mk.injEq] at h3; omega
  subst h7
  have h8 : e = 0 := by
    unfold inMust at he2
    split at he2
    · omega
    · exact he2
  subst h8
  obtain ⟨q, q1, q2, q3⟩ := rdD_read _ _ _ _ _ h3
  rw [List.nil_append] at q1
  subst q1
  rw [if_neg (by simp), if_neg (by simp), if_neg (by simpa using h6)]
  unfold encL
  rw [if_neg (by omega), q2, inNum_ok h1, q3, List.append_nil]
theorem decL_err (s : List UInt8) (h : (decL s).2 ≠ 0) : (decL s).1 = [] := by
  unfold decL finD at h ⊢
  split
  · rfl
  · split
    · rfl
    · split
      · rfl
      · rename_i h1 h2 h3
        rw [if_neg h1, if_neg h2, if_neg h3] at h
        simp at h
theorem cmpL_zero {l r : List Pr} (h : l = r) : cmpL l r = 0 := by
  subst h
  induction l with
  | nil => rfl
  | cons p l ih => simp [cmpL, ih]
end Lb
end Go.Proofs.YtjmcpdhfefcdgaaDoor
