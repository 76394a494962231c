/- Pieces of a text on a desk, plain. -/
import Derived.Test.YtmaebileagfdaaaDeskP
namespace Go.Proofs.Ytmaebileagfdaaa
open Go.RowKit Crc Snp

namespace Dk
def cov (N : Nat) (Q : List Nat) : List Bool := (List.range N).map fun x => decide (x / 256 ∈ Q)
def HInv (S : List UInt8) (k : Book) (Q : List Nat) : Prop := k.b.length = S.length ∧ k.t = cov S.length Q ∧ ∀ x, x / 256 ∈ Q → k.b[x]? = S[x]?
def npc (S : List UInt8) : Nat := (S.length + 255) / 256

theorem lay_at {α : Type} (l : List α) (o : Nat) (cs : List α) (h : o + cs.length ≤ l.length) (x : Nat) :
    (lay l o cs)[x]? = if x < o then l[x]? else if x < o + cs.length then cs[x - o]? else l[x]? := by
  have hm : (l.take o).length = o := by simp; omega
  unfold lay
  by_cases h1 : x < o
  · rw [if_pos h1, List.getElem?_append_left (by omega), List.getElem?_take, if_pos h1]
  · rw [if_neg h1, List.getElem?_append_right (by omega), hm]
    by_cases h2 : x < o + cs.length
    · rw [if_pos h2, List.getElem?_append_left (by omega)]
    · rw [if_neg h2, List.getElem?_append_right (by omega), List.getElem?_drop]
      congr 1; omega

theorem cov_len (N : Nat) (Q : List Nat) : (cov N Q).length = N := by simp [cov]
theorem cov_at (N : Nat) (Q : List Nat) (x : Nat) (h : x < N) : (cov N Q)[x]? = some (decide (x / 256 ∈ Q)) := by simp [cov, h]
theorem cov_miss (N : Nat) (Q : List Nat) (d : Nat) (h : 256 * d < N) (hd : d ∉ Q) : (cov N Q).count true < N := by
  have h1 : (cov N Q)[256 * d]? = some false := by
    rw [cov_at N Q _ h]
    have : 256 * d / 256 = d := by omega
    rw [this]; simp [hd]
  have h2 := tcount_set _ _ h1
  have h3 := tcount_le ((cov N Q).set (256 * d) true)
  rw [List.length_set, cov_len] at h3
  omega
theorem cov_all (N : Nat) (Q : List Nat) (h : ∀ x, x < N → x / 256 ∈ Q) : (cov N Q).count true = N := by
  have h1 : cov N Q = List.replicate N true := by
    apply List.ext_getElem?
    intro x
    by_cases hx : x < N
    · rw [cov_at N Q x hx, List.getElem?_replicate, if_pos hx]; simp [h x hx]
    · rw [List.getElem?_eq_none (by rw [cov_len]; omega), List.getElem?_replicate, if_neg hx]
  rw [h1, List.count_replicate_self]

theorem piece_len (S : List UInt8) (c : Nat) (_h : 256 * c < S.length) : (piece S c).2.length = min 256 (S.length - 256 * c) := by simp [piece]
theorem piece_at (S : List UInt8) (c x : Nat) (h1 : 256 * c ≤ x) (h2 : x < 256 * c + 256) : (piece S c).2[x - 256 * c]? = S[x]? := by
  simp only [piece]
  rw [List.getElem?_take, if_pos (by omega), List.getElem?_drop]
  congr 1; omega
theorem lt_npc (S : List UInt8) (c : Nat) : c < npc S ↔ 256 * c < S.length := by unfold npc; omega

theorem put_inv (S : List UInt8) (k : Book) (Q : List Nat) (c : Nat) (hc : 256 * c < S.length) (h : HInv S k Q) : HInv S (put k (256 * c) (piece S c).2) (c :: Q) := by
  obtain ⟨h1, h2, h3⟩ := h
  have hL := piece_len S c hc
  have hfit : 256 * c + (piece S c).2.length ≤ S.length := by rw [hL]; omega
  refine ⟨?_, ?_, ?_⟩
  · simp only [put]; rw [lay_len _ _ _ (by omega)]; exact h1
  · simp only [put]
    apply List.ext_getElem?
    intro x
    rw [lay_at _ _ _ (by rw [h2, cov_len, List.length_replicate]; omega), h2, List.length_replicate]
    by_cases hx : x < S.length
    · rw [cov_at _ (c :: Q) x hx]
      by_cases a1 : x < 256 * c
      · rw [if_pos a1, cov_at _ Q x hx]
        have : x / 256 ≠ c := by omega
        simp [this]
      · rw [if_neg a1]
        by_cases a2 : x < 256 * c + (piece S c).2.length
        · rw [if_pos a2, List.getElem?_replicate, if_pos (by omega)]
          have : x / 256 = c := by omega
          simp [this]
        · rw [if_neg a2, cov_at _ Q x hx]
          have : x / 256 ≠ c := by omega
          simp [this]
    · rw [if_neg (by omega), if_neg (by omega), List.getElem?_eq_none (by rw [cov_len]; omega), List.getElem?_eq_none (by rw [cov_len]; omega)]
  · intro x hx
    simp only [put]
    rw [lay_at _ _ _ (by omega)]
    by_cases a1 : x < 256 * c
    · rw [if_pos a1]
      refine h3 x ?_
      rcases List.mem_cons.1 hx with e | e
      · omega
      · exact e
    · rw [if_neg a1]
      by_cases a2 : x < 256 * c + (piece S c).2.length
      · rw [if_pos a2, piece_at S c x (by omega) (by omega)]
      · rw [if_neg a2]
        by_cases hxN : x < S.length
        · refine h3 x ?_
          rcases List.mem_cons.1 hx with e | e
          · omega
          · exact e
        · rw [List.getElem?_eq_none (by omega), List.getElem?_eq_none (by omega)]

theorem fresh_inv (S : List UInt8) (lsn sum : Int) : HInv S (fresh lsn (S.length : Nat) sum) [] := by
  refine ⟨by simp [fresh], ?_, by simp⟩
  simp only [fresh, Int.toNat_natCast, cov]
  apply List.ext_getElem?
  intro x
  simp [List.getElem?_replicate, List.getElem?_map]
  by_cases hx : x < S.length
  · simp [hx]
  · simp [hx]

theorem lies_piece (S : List UInt8) (hS : S.length ≤ 16777216) (c : Nat) (hc : 256 * c < S.length) : lies (S.length : Nat) ((256 * c : Nat) : Int) (piece S c).2 = true := by
  have hL := piece_len S c hc
  unfold lies
  rw [decide_eq_true_eq]
  omega

theorem hand_self (k : Book) (lsn last sum : Int) (h1 : k.lsn = lsn) (h2 : k.last = last) (h3 : k.sum = sum) : hand (some k) lsn last sum = k := by
  unfold hand; simp [h1, h2, h3]

theorem step_miss (S : List UInt8) (hS : S.length ≤ 16777216) (s : Option Book) (lsn sum : Int) (Q : List Nat) (h : HInv S (hand s lsn (S.length : Nat) sum) Q) (c : Nat) (hc : c < npc S) (d : Nat) (hd : d < npc S) (hm : d ∉ c :: Q) :
    (deskStep s lsn (S.length : Nat) sum ((256 * c : Nat) : Int) (piece S c).2).2 = none ∧
    HInv S (hand (deskStep s lsn (S.length : Nat) sum ((256 * c : Nat) : Int) (piece S c).2).1 lsn (S.length : Nat) sum) (c :: Q) ∧
    hasN (deskStep s lsn (S.length : Nat) sum ((256 * c : Nat) : Int) (piece S c).2).1 = (cov S.length (c :: Q)).count true := by
  rw [lt_npc] at hc hd
  have hp := put_inv S _ Q c hc h
  obtain ⟨k1, k2, k3⟩ := hand_key s lsn (S.length : Nat) sum
  unfold deskStep
  rw [if_pos (lies_piece S hS c hc)]
  simp only [Int.toNat_natCast]
  have hcnt := cov_miss S.length (c :: Q) d hd hm
  rw [hp.2.1, if_pos (by omega)]
  refine ⟨rfl, ?_, ?_⟩
  · rw [hand_self _ _ _ _ (by exact k1) (by exact k2) (by exact k3)]; exact hp
  · show (put _ _ _).t.count true = _
    rw [hp.2.1]

theorem step_full (S : List UInt8) (hS : S.length ≤ 16777216) (s : Option Book) (lsn sum : Int) (Q : List Nat) (h : HInv S (hand s lsn (S.length : Nat) sum) Q) (c : Nat) (hc : c < npc S) (hall : ∀ d, d < npc S → d ∈ c :: Q) :
    deskStep s lsn (S.length : Nat) sum ((256 * c : Nat) : Int) (piece S c).2 = (none, if (moreN 0 S : Int) = sum then some S else none) := by
  rw [lt_npc] at hc
  have hp := put_inv S _ Q c hc h
  unfold deskStep
  rw [if_pos (lies_piece S hS c hc)]
  simp only [Int.toNat_natCast]
  have hcov : ∀ x, x < S.length → x / 256 ∈ c :: Q := fun x hx => hall _ ((lt_npc S _).2 (by omega))
  have hcnt := cov_all S.length (c :: Q) hcov
  have hb : (put (hand s lsn (S.length : Nat) sum) (256 * c) (piece S c).2).b = S := by
    apply List.ext_getElem?
    intro x
    by_cases hx : x < S.length
    · exact hp.2.2 x (hcov x hx)
    · have := hp.1
      rw [List.getElem?_eq_none (by omega), List.getElem?_eq_none (by omega)]
  rw [hp.2.1, hcnt, if_neg (by omega), hb]

theorem step_lsn (s : Option Book) (lsn last sum ofs : Int) (tx : List UInt8) (hl : lies last ofs tx = true) (lsn' last' sum' : Int) (hne : lsn ≠ lsn') : hand (deskStep s lsn last sum ofs tx).1 lsn' last' sum' = fresh lsn' last' sum' := by
  obtain ⟨k1, k2, k3⟩ := hand_key s lsn last sum
  unfold deskStep
  rw [if_pos hl]
  simp only
  split
  · unfold hand
    simp only
    rw [if_neg]
    intro ⟨e, _⟩
    apply hne
    rw [← e]
    exact k1.symm
  · rfl

/-- A list in which each of the first m numbers lies once. -/
structure Once (m : Nat) (c : List Nat) : Prop where
  len : c.length = m
  inj : ∀ (i j d : Nat), c[i]? = some d → c[j]? = some d → i = j
  sur : ∀ (d : Nat), d < m → ∃ i : Nat, c[i]? = some d
  bnd : ∀ (i d : Nat), c[i]? = some d → d < m
theorem Once.range (m : Nat) : Once m (List.range m) := by
  refine ⟨by simp, ?_, ?_, ?_⟩
  · intro i j d h1 h2
    simp [List.getElem?_eq_some_iff] at h1 h2; omega
  · intro d hd; exact ⟨d, by simp [hd]⟩
  · intro i d h
    simp [List.getElem?_eq_some_iff] at h; omega
def swp (a b x : Nat) : Nat := if x = a then b else if x = b then a else x
theorem swp_swp (a b x : Nat) : swp a b (swp a b x) = x := by
  unfold swp
  by_cases h1 : x = a
  · subst h1
    rw [if_pos rfl]
    by_cases h2 : b = x
    · rw [if_pos h2, h2]
    · rw [if_neg h2, if_pos rfl]
  · rw [if_neg h1]
    by_cases h2 : x = b
    · subst h2; rw [if_pos rfl, if_pos rfl]
    · rw [if_neg h2, if_neg h1, if_neg h2]
theorem set_swp (c : List Nat) (a b x y : Nat) (ha : c[a]? = some x) (hb : c[b]? = some y) (i : Nat) : ((c.set a y).set b x)[i]? = c[swp a b i]? := by
  have la : a < c.length := by rcases Nat.lt_or_ge a c.length with h | h; exact h; rw [List.getElem?_eq_none h] at ha; cases ha
  have lb : b < c.length := by rcases Nat.lt_or_ge b c.length with h | h; exact h; rw [List.getElem?_eq_none h] at hb; cases hb
  unfold swp
  rw [List.getElem?_set, List.length_set, List.getElem?_set]
  by_cases h1 : i = a
  · subst h1
    rw [if_pos rfl]
    by_cases h2 : b = i
    · subst h2; rw [if_pos rfl, if_pos lb, if_pos rfl, ha]
    · rw [if_neg h2, if_pos rfl, if_pos la, hb]
  · rw [if_neg h1]
    by_cases h2 : b = i
    · subst h2; rw [if_pos rfl, if_pos lb, if_pos rfl, ha]
    · rw [if_neg h2, if_neg (fun e => h1 e.symm), if_neg (fun e => h2 e.symm)]
theorem Once.swap {m : Nat} {c : List Nat} (h : Once m c) (a b x y : Nat) (ha : c[a]? = some x) (hb : c[b]? = some y) : Once m ((c.set a y).set b x) := by
  refine ⟨by simp [h.len], ?_, ?_, ?_⟩
  · intro i j d h1 h2
    rw [set_swp c a b x y ha hb] at h1 h2
    have := h.inj _ _ d h1 h2
    rw [← swp_swp a b i, this, swp_swp]
  · intro d hd
    obtain ⟨i, hi⟩ := h.sur d hd
    exact ⟨swp a b i, by rw [set_swp c a b x y ha hb, swp_swp]; exact hi⟩
  · intro i d h1
    rw [set_swp c a b x y ha hb] at h1
    exact h.bnd _ _ h1
theorem Once.fresh {m : Nat} {c : List Nat} (h : Once m c) (i d : Nat) (hi : c[i]? = some d) : d ∉ c.take i := by
  intro hm
  obtain ⟨j, hj⟩ := List.getElem?_of_mem hm
  rw [List.getElem?_take] at hj
  split at hj
  · rename_i hlt
    have := h.inj i j d hi hj
    omega
  · cases hj
theorem Once.all {m : Nat} {c : List Nat} (h : Once m c) (d : Nat) (hd : d < m) : d ∈ c := by
  obtain ⟨i, hi⟩ := h.sur d hd
  exact List.mem_of_getElem? hi
end Dk
end Go.Proofs.Ytmaebileagfdaaa
