/- Messages of which a byte is changed, or which are cut off: plain. -/
import Derived.Test.YtmaebileagfdaaaWrE
import Derived.Test.YtmaebileagfdaaaFrameB
namespace Go.Proofs.Ytmaebileagfdaaa
open Go.RowKit Dig Wr Crc

namespace Frm
/-- A frame of which one byte is changed is refused, or is shorter. -/
theorem get_changed_any {k : Int} {d : List UInt8} (h : 1 ≤ k ∧ k ≤ 255) (hd : d.length ≤ 65536) (p : Nat) (hp : p < (put k d).1.length) (y : UInt8) (hy : (put k d).1[p]? ≠ some y) :
    (get ((put k d).1.set p y)).2.2.2 = 0 → (get ((put k d).1.set p y)).2.2.1 < (put k d).1.length := by
  intro h0
  have hlen := put_len h hd
  have hput := put_ok h hd
  obtain ⟨l, hl⟩ : ∃ l, l = (put k d).1 := ⟨_, rfl⟩
  rw [← hl] at hp hy h0 hlen ⊢
  rw [hput] at hl
  simp only at hl
  have hb5 : (body k d).length = (textB d).length + 1 := by simp [body]
  obtain ⟨b, r, t, k', hs, hb, hgt, hk, hsum, hget⟩ := get_ok h0
  rw [hget]
  simp only
  rw [List.length_set] at hk
  have key : k' + 5 ≠ l.length := by
    intro e
    have hkT : k' = (textB d).length := by omega
    have e1 : l.drop (k' + 1) = sumB (moreN 0 (body k d)) := by rw [hl, hkT, ← hb5, List.drop_append_of_le_length (Nat.le_refl _), List.drop_length, List.nil_append]
    have e2 : l.take (k' + 1) = body k d := by rw [hl, hkT, ← hb5, List.take_append_of_le_length (Nat.le_refl _), List.take_length]
    have hs4 : (sumB (moreN 0 (body k d))).length = 4 := rfl
    by_cases hpk : p < k' + 1
    · have e3 : (l.set p y).drop (k' + 1) = l.drop (k' + 1) := by rw [List.drop_set_of_lt hpk]
      have e4 : (l.set p y).take (k' + 1) = (body k d).set p y := by rw [List.take_set, e2]
      rw [e3, e4, e1, List.take_of_length_le (by rw [hs4]; omega)] at hsum
      have e5 := sumB_inj (moreN_lt _ _) (moreN_lt _ _) hsum
      have hpb : p < (body k d).length := by omega
      have hbp : (body k d)[p]? = l[p]? := by rw [hl, List.getElem?_append_left hpb]
      have hne : (body k d)[p] ≠ y := by
        intro e6
        apply hy
        rw [← hbp, List.getElem?_eq_getElem hpb, e6]
      have e7 : (body k d) = (body k d).take p ++ (body k d)[p] :: (body k d).drop (p + 1) := by
        rw [← List.drop_eq_getElem_cons hpb, List.take_append_drop]
      have e8 : (body k d).set p y = (body k d).take p ++ y :: (body k d).drop (p + 1) := by
        rw [List.set_eq_take_append_cons_drop, if_pos hpb]
      rw [e8] at e5
      refine byte_ne 0 ((body k d).take p) ((body k d).drop (p + 1)) _ _ hne ?_
      rw [← e7]; exact e5
    · have e4 : (l.set p y).take (k' + 1) = body k d := by rw [List.take_set_of_le (by omega), e2]
      rw [e4, List.drop_set, if_neg hpk, e1, List.take_of_length_le (by rw [List.length_set, hs4]; omega)] at hsum
      have e5 : (sumB (moreN 0 (body k d)))[p - (k' + 1)]? = some y := by
        conv => lhs; rw [← hsum]
        rw [List.getElem?_set_self (by rw [hs4]; omega)]
      apply hy
      rw [← e5, ← e1, List.getElem?_drop]
      congr 1; omega
  omega
end Frm

namespace Wr
theorem enc_err {m : Msg} (h : (encW m).2 ≠ 0) : (encW m).1 = [] := by
  unfold encW at h ⊢
  split
  · rfl
  · rename_i hc
    rw [if_neg hc] at h
    rcases Frm.put_e 7 (bodyW m) with ⟨h1, _⟩ | ⟨_, h1, _⟩ | ⟨_, h1, _⟩
    · exact absurd h1 h
    · exact h1
    · exact h1
theorem numB_pos (n : Nat) : 1 ≤ (numB n).length := by simp [numB]
theorem numB_pos2 (n : Nat) (h : 1 ≤ n) : 2 ≤ (numB n).length := by
  have := dig_ne_nil n h
  have : 0 < (dig n).length := List.length_pos_iff.mpr this
  simp [numB]; omega
theorem enc_ok {m : Msg} (h : (encW m).2 = 0) : ∃ D : List UInt8, D.length ≤ 65536 ∧ (encW m).1 = (Frm.put 7 D).1 ∧ 18 ≤ (encW m).1.length ∧ (encW m).1.length ≤ 66000 := by
  unfold encW at h ⊢
  by_cases hc : chk m = 0
  · rw [if_neg (by omega)] at h ⊢
    have hck := chk_ok hc
    rcases Frm.put_e 7 (bodyW m) with ⟨_, _, h2⟩ | ⟨h1, _⟩ | ⟨h1, _⟩
    · have hl := Frm.put_len (k := 7) (by omega) h2
      have hb : 11 ≤ (bodyW m).length := by
        unfold bodyW numsOf numsB
        simp only [List.flatMap_cons, List.flatMap_nil, List.length_append, List.length_nil]
        have a1 := numB_pos2 m.k.toNat (by omega)
        have a2 := numB_pos2 m.e.toNat (by omega)
        have a3 := numB_pos m.b.toNat
        have a4 := numB_pos m.l.toNat
        have a5 := numB_pos m.la.toNat
        have a6 := numB_pos m.ap.toNat
        have a7 := numB_pos m.su
        have a8 := numB_pos m.rs.length
        have a9 : 1 ≤ (textB m.tx.data.toList).length := by
          have := numB_pos m.tx.data.toList.length
          unfold textB; rw [List.length_append]; omega
        omega
      have ht : 2 + (bodyW m).length ≤ (textB (bodyW m)).length := by
        have := numB_pos2 (bodyW m).length (by omega)
        unfold textB; rw [List.length_append]; omega
      have ht2 := textB_len (bodyW m) (by omega)
      exact ⟨bodyW m, h2, rfl, by omega, by omega⟩
    · omega
    · omega
  · rw [if_pos hc] at h; exact absurd h hc
theorem dec_changed {D : List UInt8} (hd : D.length ≤ 65536) (p : Nat) (hp : p < (Frm.put 7 D).1.length) (y : UInt8) (hy : (Frm.put 7 D).1[p]? ≠ some y) : ∃ E, decW ((Frm.put 7 D).1.set p y) = (E, zm) ∧ E ≠ 0 := by
  have h := Frm.get_changed_any (k := 7) (by omega) hd p hp y hy
  unfold decW
  rcases hg : Frm.get ((Frm.put 7 D).1.set p y) with ⟨k, d, n, e⟩
  rw [hg] at h
  simp only at h ⊢
  by_cases he : e = 0
  · rw [if_neg (by omega)]
    by_cases hk : k = 7
    · rw [if_neg (by omega), if_pos (by rw [List.length_set]; exact h he)]
      exact ⟨6, rfl, by omega⟩
    · rw [if_pos hk]; exact ⟨5, rfl, by omega⟩
  · rw [if_pos he]; exact ⟨e, rfl, he⟩
theorem dec_cut {D : List UInt8} (hd : D.length ≤ 65536) (c : Nat) (hc : c < (Frm.put 7 D).1.length) : decW ((Frm.put 7 D).1.take c) = (1, zm) := by
  have hg : Frm.get ((Frm.put 7 D).1.take c) = (0, [], 0, 1) := by
    rcases Nat.eq_zero_or_pos c with rfl | h
    · rw [List.take_zero]; rfl
    · exact Frm.get_pre (by omega) hd c h hc
  unfold decW
  rw [hg]
  rfl
end Wr
end Go.Proofs.Ytmaebileagfdaaa
