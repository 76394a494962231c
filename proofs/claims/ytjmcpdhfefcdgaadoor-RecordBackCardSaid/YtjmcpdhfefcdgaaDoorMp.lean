/- Matchers in bytes: plain. -/
import Derived.Test.YtjmcpdhfefcdgaaDoorMb
import Derived.Test.YtjmcpdhfefcdgaaDoorLp
namespace Go.Proofs.YtjmcpdhfefcdgaaDoor
open Go.RowKit Lb Dig Inn

theorem wrap_i64_id (n : Int) (h0 : -9223372036854775808 ≤ n) (h1 : n < 9223372036854775808) : IntKind.i64.wrap n = n := by rw [IntKind.wrap_i64]; omega
theorem inMust_true (e e2 : Nat) : inMust e true e2 = e := by unfold inMust; simp
theorem inMust_zero {e e2 : Nat} {b : Bool} (h : inMust e b e2 = 0) (h2 : e2 ≠ 0) : e = 0 ∧ b = true := by
  unfold inMust at h
  split at h
  · exact absurd h h2
  · rename_i h1
    refine ⟨h, ?_⟩
    cases b with
    | true => rfl
    | false => exact absurd ⟨h, rfl⟩ h1
theorem inMust_bad {e e2 : Nat} {b : Bool} (h : e ≠ 0) : inMust e b e2 = e := by unfold inMust; rw [if_neg (fun h1 => h h1.1)]
theorem inNum_lt (l : List UInt8) (e : Nat) (hl : l.length ≤ 100000) : (inNum l e).1 < 18446744073709551616 ∧ (inNum l e).2.1.length ≤ l.length := by
  unfold inNum
  split
  · simp
  · have h2 := getNum_lt l
    exact ⟨by simp only; omega, by simp only [List.length_drop]; omega⟩

namespace Lb
def mtB (m : Mt) : List UInt8 := numB m.1.toNat ++ (textB m.2.1.data.toList ++ textB m.2.2.data.toList)
def matsB (l : List Mt) : List UInt8 := l.flatMap mtB
/-- The bytes of matchers, and what is wrong with them. -/
def encM (l : List Mt) : List UInt8 × Nat := if chkM l ≠ 0 then ([], chkM l) else (numB l.length ++ matsB l, 0)
theorem rights_ok : ∀ {l : List Mt}, rightsM l = 0 → ∀ m ∈ l, rightM m = 0 := by
  intro l
  induction l with
  | nil => intro _ p hp; simp at hp
  | cons q l ih =>
    intro h p hp
    unfold rightsM at h
    split at h
    · rename_i h1; exact absurd h h1
    · rename_i h1
      have h1 : rightM q = 0 := by simpa using h1
      rcases List.mem_cons.mp hp with rfl | hp
      · exact h1
      · exact ih h p hp
theorem rights_all : ∀ {l : List Mt}, (∀ m ∈ l, rightM m = 0) → rightsM l = 0 := by
  intro l
  induction l with
  | nil => intro _; rfl
  | cons q l ih =>
    intro h
    unfold rightsM
    rw [if_neg (by have := h q (List.mem_cons_self ..); omega)]
    exact ih (fun m hm => h m (List.mem_cons_of_mem _ hm))
theorem right_ok {m : Mt} (h : rightM m = 0) : 1 ≤ m.1 ∧ m.1 ≤ 4 ∧ m.2.1.size ≤ 32 ∧ m.2.2.size ≤ 64 := by
  unfold rightM at h
  split at h
  · omega
  · rename_i h1
    split at h
    · rename_i h2
      obtain ⟨h2, h3, _⟩ := h2
      have h4 := nameB_len h2
      rw [← size_toList] at h4
      refine ⟨by omega, by omega, h4.2, ?_⟩
      rcases h3 with h3 | h3
      · omega
      · have h5 := valueB_len h3
        rw [← size_toList] at h5
        exact h5.2
    · omega
theorem chkM_ok {l : List Mt} (h : chkM l = 0) : l.length ≤ 8 ∧ (∀ m ∈ l, rightM m = 0) := by
  unfold chkM at h
  split at h
  · omega
  · exact ⟨by omega, rights_ok h⟩
theorem chkM_zero {l : List Mt} (h8 : l.length ≤ 8) (h : ∀ m ∈ l, rightM m = 0) : chkM l = 0 := by
  unfold chkM; rw [if_neg (by omega), rights_all h]
theorem matsB_snoc (l : List Mt) (m : Mt) : matsB (l ++ [m]) = matsB l ++ mtB m := by simp [matsB]
theorem mtB_len {m : Mt} (h : rightM m = 0) : (mtB m).length ≤ 200 := by
  obtain ⟨h1, h2, h3, h4⟩ := right_ok h
  have h5 := textB_len' m.2.1.data.toList (by rw [← size_toList]; omega)
  have h6 := textB_len' m.2.2.data.toList (by rw [← size_toList]; omega)
  have h7 : (numB m.1.toNat).length ≤ 9 := by have := dig_len8 m.1.toNat (by omega); unfold numB; simp; omega
  rw [← size_toList] at h5 h6
  unfold mtB
  rw [List.length_append, List.length_append]
  omega
theorem matsB_len (l : List Mt) (h : ∀ m ∈ l, rightM m = 0) : (matsB l).length ≤ 200 * l.length := by
  induction l with
  | nil => simp [matsB]
  | cons a l ih =>
    have h1 := ih (fun p hp => h p (List.mem_cons_of_mem _ hp))
    have h2 := mtB_len (h a (List.mem_cons_self ..))
    simp only [matsB, List.flatMap_cons, List.length_append, List.length_cons] at h1 ⊢
    omega
theorem encM_len (l : List Mt) : (encM l).1.length ≤ 2000 := by
  unfold encM
  split
  · simp
  · rename_i h
    have h0 : chkM l = 0 := by simpa using h
    obtain ⟨h8, hok⟩ := chkM_ok h0
    have h1 := matsB_len l hok
    have h2 : (numB l.length).length ≤ 9 := by have := dig_len8 l.length (by omega); unfold numB; simp; omega
    rw [List.length_append]; omega
theorem encM_err (l : List Mt) : (encM l).2 = chkM l := by
  unfold encM
  split
  · rfl
  · rename_i h; simp at h; exact h.symm

/-- Matchers read one by one: what is read, the bytes that are left, the error. -/
def rdM : Nat → List UInt8 → Nat → List Mt → List Mt × List UInt8 × Nat
  | 0, l, e, ms => (ms, l, e)
  | k + 1, l, e, ms => if e ≠ 0 then (ms, l, e) else
      rdM k (inText (inText (inNum l 0).2.1 (inMust (inNum l 0).2.2 (decide ((inNum l 0).1 ≤ 4)) 5) 32).2.1 (inText (inNum l 0).2.1 (inMust (inNum l 0).2.2 (decide ((inNum l 0).1 ≤ 4)) 5) 32).2.2 64).2.1
        (inText (inText (inNum l 0).2.1 (inMust (inNum l 0).2.2 (decide ((inNum l 0).1 ≤ 4)) 5) 32).2.1 (inText (inNum l 0).2.1 (inMust (inNum l 0).2.2 (decide ((inNum l 0).1 ≤ 4)) 5) 32).2.2 64).2.2
        (ms ++ [(IntKind.i64.wrap ((inNum l 0).1 : Nat), mkS (inText (inNum l 0).2.1 (inMust (inNum l 0).2.2 (decide ((inNum l 0).1 ≤ 4)) 5) 32).1, mkS (inText (inText (inNum l 0).2.1 (inMust (inNum l 0).2.2 (decide ((inNum l 0).1 ≤ 4)) 5) 32).2.1 (inText (inNum l 0).2.1 (inMust (inNum l 0).2.2 (decide ((inNum l 0).1 ≤ 4)) 5) 32).2.2 64).1)])
theorem rdM_bad {k : Nat} {l : List UInt8} {e : Nat} {ms : List Mt} (h : e ≠ 0) : rdM k l e ms = (ms, l, e) := by
  cases k with
  | zero => rfl
  | succ k => rw [rdM, if_pos h]
theorem rdM_succ {k : Nat} {l : List UInt8} {ms : List Mt} {n : Nat} {t u l1 l2 l3 : List UInt8} {e1 e2 e3 e4 : Nat} (h0 : inNum l 0 = (n, l1, e1)) (hm : inMust e1 (decide (n ≤ 4)) 5 = e2) (h1 : inText l1 e2 32 = (t, l2, e3)) (h2 : inText l2 e3 64 = (u, l3, e4)) :
    rdM (k + 1) l 0 ms = rdM k l3 e4 (ms ++ [(IntKind.i64.wrap (n : Int), mkS t, mkS u)]) := by
  rw [rdM, if_neg (by omega), h0]
  simp only
  rw [hm, h1]
  simp only
  rw [h2]
/-- Matchers from the front of bytes: they, the bytes that are left, the error. -/
def takeM (s : List UInt8) (e : Nat) : List Mt × List UInt8 × Nat :=
  ((rdM (inNum s e).1 (inNum s e).2.1 (inMust (inNum s e).2.2 (decide ((inNum s e).1 ≤ 8)) 8) []).1, (rdM (inNum s e).1 (inNum s e).2.1 (inMust (inNum s e).2.2 (decide ((inNum s e).1 ≤ 8)) 8) []).2.1,
    if (rdM (inNum s e).1 (inNum s e).2.1 (inMust (inNum s e).2.2 (decide ((inNum s e).1 ≤ 8)) 8) []).2.2 = 0 then chkM (rdM (inNum s e).1 (inNum s e).2.1 (inMust (inNum s e).2.2 (decide ((inNum s e).1 ≤ 8)) 8) []).1 else (rdM (inNum s e).1 (inNum s e).2.1 (inMust (inNum s e).2.2 (decide ((inNum s e).1 ≤ 8)) 8) []).2.2)
theorem takeM_eq {s : List UInt8} {e n e1 e2 e3 : Nat} {l1 l2 : List UInt8} {ms : List Mt} (h1 : inNum s e = (n, l1, e1)) (h2 : inMust e1 (decide (n ≤ 8)) 8 = e2) (h3 : rdM n l1 e2 [] = (ms, l2, e3)) : takeM s e = (ms, l2, if e3 = 0 then chkM ms else e3) := by
  unfold takeM
  rw [h1]
  simp only
  rw [h2, h3]
/-- Matchers at the front of bytes: they, in how many bytes, the error. -/
def getM (s : List UInt8) : List Mt × Nat × Nat := if (takeM s 0).2.2 ≠ 0 then ([], 0, (takeM s 0).2.2) else ((takeM s 0).1, s.length - (takeM s 0).2.1.length, 0)

theorem rdM_write : ∀ (l : List Mt) (r : List UInt8) (ps : List Mt), (∀ m ∈ l, rightM m = 0) → rdM l.length (matsB l ++ r) 0 ps = (ps ++ l, r, 0) := by
  intro l
  induction l with
  | nil => intro r ps _; simp [rdM, matsB]
  | cons p l ih =>
    intro r ps h
    have h0 := h p (List.mem_cons_self ..)
    obtain ⟨k1, k4, h1, h2⟩ := right_ok h0
    rw [size_toList] at h1 h2
    have e : matsB (p :: l) ++ r = numB p.1.toNat ++ (textB p.2.1.data.toList ++ (textB p.2.2.data.toList ++ (matsB l ++ r))) := by simp [matsB, mtB]
    have t0 := inNum_numB p.1.toNat (by omega) (textB p.2.1.data.toList ++ (textB p.2.2.data.toList ++ (matsB l ++ r)))
    have t1 := inText_textB p.2.1.data.toList (textB p.2.2.data.toList ++ (matsB l ++ r)) 32 (by omega) (by omega)
    have t2 := inText_textB p.2.2.data.toList (matsB l ++ r) 64 (by omega) (by omega)
    rw [List.length_cons, e, rdM_succ t0 (show inMust 0 (decide (p.1.toNat ≤ 4)) 5 = 0 from by rw [decide_eq_true (by omega)]; rfl) t1 t2, ih r _ (fun q hq => h q (List.mem_cons_of_mem _ hq)), mkS_toList, mkS_toList]
    rw [show IntKind.i64.wrap ((p.1.toNat : Nat) : Int) = p.1 from by rw [wrap_i64_id _ (by omega) (by omega)]; omega]
    simp
theorem rdM_read : ∀ (k : Nat) (l : List UInt8) (ps0 ps : List Mt) (r : List UInt8), rdM k l 0 ps0 = (ps, r, 0) → ∃ q, ps = ps0 ++ q ∧ q.length = k ∧ l = matsB q ++ r := by
  intro k
  induction k with
  | zero =>
    intro l ps0 ps r h
    simp [rdM] at h
    exact ⟨[], by simp [h.1], rfl, by simp [matsB, h.2]⟩
  | succ k ih =>
    intro l ps0 ps r h
    rcases h0 : inNum l 0 with ⟨n, l1, e1⟩
    rcases hm : inMust e1 (decide (n ≤ 4)) 5 with e2
    rcases h1 : inText l1 e2 32 with ⟨t, l2, e3⟩
    rcases h2 : inText l2 e3 64 with ⟨u, l3, e4⟩
    rw [rdM_succ h0 hm h1 h2] at h
    by_cases he4 : e4 = 0
    · subst he4
      have he3 : e3 = 0 := by
        rcases Nat.eq_zero_or_pos e3 with h9 | h9
        · exact h9
        · have := inText_err (l := l2) (e := e3) (m := 64) (by omega)
          rw [h2] at this; simp at this; omega
      subst he3
      have he2 : e2 = 0 := by
        rcases Nat.eq_zero_or_pos e2 with h9 | h9
        · exact h9
        · have := inText_err (l := l1) (e := e2) (m := 32) (by omega)
          rw [h1] at this; simp at this; omega
      subst he2
      obtain ⟨rfl, hn⟩ := inMust_zero hm (by decide)
      have hn : n ≤ 4 := by simpa using hn
      obtain ⟨q, q1, q2, q3⟩ := ih l3 _ _ _ h
      refine ⟨(IntKind.i64.wrap (n : Int), mkS t, mkS u) :: q, by rw [q1]; simp, by simp [q2], ?_⟩
      rw [inNum_ok h0, (inText_ok h1).1, (inText_ok h2).1, q3, wrap_i64_id _ (by omega) (by omega)]
      simp [matsB, mtB, mkS_data]
    · rw [rdM_bad he4] at h
      simp only [Prod.mk.injEq] at h
      omega
/-- What is written is got, whatever follows. -/
theorem get_encM (l : List Mt) (h : chkM l = 0) (r : List UInt8) : getM ((encM l).1 ++ r) = (l, (encM l).1.length, 0) := by
  obtain ⟨h8, hok⟩ := chkM_ok h
  have he : (encM l).1 = numB l.length ++ matsB l := by unfold encM; rw [if_neg (by omega)]
  have ht := takeM_eq (s := (encM l).1 ++ r) (e := 0) (by rw [he, List.append_assoc]; exact inNum_numB _ (by omega) _) (show inMust 0 (decide (l.length ≤ 8)) 8 = 0 from by rw [decide_eq_true h8]; rfl) (rdM_write l r [] hok)
  rw [List.nil_append, h] at ht
  unfold getM
  rw [ht]
  simp
theorem getM_facts (s : List UInt8) : (getM s).1.length ≤ 8 ∧ (getM s).2.1 ≤ s.length ∧ ((getM s).2.2 ≠ 0 → (getM s).1 = [] ∧ (getM s).2.1 = 0) ∧ ((getM s).2.2 = 0 → encM (getM s).1 = (s.take (getM s).2.1, 0)) := by
  rcases h1 : inNum s 0 with ⟨n, l1, e1⟩
  rcases h2 : inMust e1 (decide (n ≤ 8)) 8 with e2
  rcases h3 : rdM n l1 e2 [] with ⟨ms, l2, e3⟩
  have ht := takeM_eq h1 h2 h3
  obtain ⟨E, hE⟩ : ∃ E, (if e3 = 0 then chkM ms else e3) = E := ⟨_, rfl⟩
  rw [hE] at ht
  have hg : getM s = if E ≠ 0 then ([], 0, E) else (ms, s.length - l2.length, 0) := by unfold getM; rw [ht]
  by_cases hE0 : E = 0
  · rw [if_neg (by omega)] at hg
    rw [hg]
    rw [hE0] at hE
    have he3 : e3 = 0 := by
      split at hE
      · assumption
      · exact hE
    subst he3
    rw [if_pos rfl] at hE
    have he2 : e2 = 0 := by
      rcases Nat.eq_zero_or_pos e2 with h9 | h9
      · exact h9
      · rw [rdM_bad (by omega)] at h3; simp only [Prod.mk.injEq] at h3; omega
    subst he2
    obtain ⟨rfl, hn⟩ := inMust_zero h2 (by decide)
    obtain ⟨q, q1, q2, q3⟩ := rdM_read _ _ _ _ _ h3
    rw [List.nil_append] at q1
    subst q1
    have hs : s = (numB n ++ matsB ms) ++ l2 := by rw [inNum_ok h1, q3, List.append_assoc]
    refine ⟨(chkM_ok hE).1, by simp only; omega, fun h => absurd rfl h, fun _ => ?_⟩
    simp only
    rw [show s.length - l2.length = (numB n ++ matsB ms).length from by rw [hs, List.length_append (bs := l2)]; omega]
    conv => rhs; rw [hs]
    rw [List.take_left]
    unfold encM
    rw [if_neg (by omega), q2]
  · rw [if_pos hE0] at hg
    rw [hg]
    exact ⟨by simp, by simp, fun _ => ⟨rfl, rfl⟩, fun h => absurd h hE0⟩
end Lb
end Go.Proofs.YtjmcpdhfefcdgaaDoor
