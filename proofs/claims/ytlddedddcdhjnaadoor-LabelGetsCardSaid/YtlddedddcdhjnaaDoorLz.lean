/- Labels with a pair more: plain. -/
import Derived.Test.YtlddedddcdhjnaaDoorLy
namespace Go.Proofs.YtlddedddcdhjnaaDoor
open Go.RowKit Lb

namespace Lb
theorem less_cmp (a b : List UInt8) : Op.bytesLess a b = true ↔ Lib.compareBytes a b < 0 := by
  rw [cmp_less]
  by_cases h : Op.bytesLess a b = true
  · simp [h]
  · simp only [h, Bool.false_eq_true, if_false, false_iff]; split <;> omega
theorem gtB_eq (a b : List UInt8) : gtB a b = Op.bytesLess a b := by
  rw [Bool.eq_iff_iff, less_cmp, gtB]
  have h1 := cmp_less b a
  have h2 := good_bytes.anti b a
  by_cases hl : Op.bytesLess b a = true
  · rw [if_pos hl] at h1; simp [hl]; omega
  · rw [if_neg hl] at h1
    have hl' : Op.bytesLess b a = false := by simpa using hl
    by_cases he : b = a
    · rw [if_pos he] at h1; simp [he]; subst he; omega
    · rw [if_neg he] at h1; simp [hl', he]; omega
theorem less_trans {a b c : List UInt8} (h1 : Op.bytesLess a b = true) (h2 : Op.bytesLess b c = true) : Op.bytesLess a c = true := by
  rw [less_cmp] at h1 h2 ⊢
  exact good_bytes.lt h1 (by omega)
theorem less_irrefl (a : List UInt8) : Op.bytesLess a a = false := by
  rw [← Bool.not_eq_true, less_cmp, good_bytes.self]; omega
theorem less_or {a b : List UInt8} (h : ¬ Op.bytesLess a b = true) (hn : a ≠ b) : Op.bytesLess b a = true := by
  rw [less_cmp] at h ⊢
  have h1 := good_bytes.anti a b
  have h2 : Lib.compareBytes a b ≠ 0 := fun e => hn ((good_bytes.zero a b).mp e)
  omega
theorem okL_gt : ∀ {l : List Pr} {last : List UInt8}, okL last l = true → ∀ p ∈ l, Op.bytesLess last p.1.data.toList = true := by
  intro l
  induction l with
  | nil => intro last _ p hp; simp at hp
  | cons q l ih =>
    intro last h p hp
    simp only [okL, Bool.and_eq_true] at h
    have h1 := h.2.2.1
    rw [gtB_eq] at h1
    rcases List.mem_cons.mp hp with rfl | hp
    · exact h1
    · exact less_trans h1 (ih h.2.2.2 p hp)
theorem get_own : ∀ {l : List Pr} {last : List UInt8}, okL last l = true → ∀ (i : Nat) (p : Pr), l[i]? = some p → getL l p.1 = p.2 := by
  intro l
  induction l with
  | nil => intro last _ i p hp; simp at hp
  | cons q l ih =>
    intro last h i p hp
    simp only [okL, Bool.and_eq_true] at h
    cases i with
    | zero => simp at hp; subst hp; simp [getL]
    | succ i =>
      have hp' : l[i]? = some p := by simpa using hp
      have h1 := okL_gt h.2.2.2 p (List.mem_of_getElem? hp')
      have h2 : ¬ q.1 = p.1 := fun e => by rw [e, less_irrefl] at h1; cases h1
      rw [getL, if_neg h2]
      exact ih h.2.2.2 i p hp'
theorem get_none : ∀ {l : List Pr} {nm : ByteArray}, (∀ p ∈ l, p.1 ≠ nm) → getL l nm = { data := #[] } := by
  intro l
  induction l with
  | nil => intro nm _; rfl
  | cons q l ih =>
    intro nm h
    rw [getL, if_neg (h q (List.mem_cons_self ..))]
    exact ih (fun p hp => h p (List.mem_cons_of_mem _ hp))
theorem get_mid {l r : List Pr} {nm v : ByteArray} (h : ∀ p ∈ l, p.1 ≠ nm) : getL (l ++ (nm, v) :: r) nm = v := by
  induction l with
  | nil => simp [getL]
  | cons q l ih =>
    rw [List.cons_append, getL, if_neg (h q (List.mem_cons_self ..))]
    exact ih (fun p hp => h p (List.mem_cons_of_mem _ hp))
/-- Where a name belongs. -/
def atL : List Pr → ByteArray → Nat
  | [], _ => 0
  | p :: l, nm => if Op.bytesLess p.1.toList nm.toList = true then 1 + atL l nm else 0
theorem atL_le (l : List Pr) (nm : ByteArray) : atL l nm ≤ l.length := by
  induction l with
  | nil => simp [atL]
  | cons p l ih => simp only [atL, List.length_cons]; split <;> omega
theorem atL_drop {l : List Pr} {nm : ByteArray} {j : Nat} {p : Pr} (h : l[j]? = some p) : atL (l.drop j) nm = if Op.bytesLess p.1.toList nm.toList = true then 1 + atL (l.drop (j + 1)) nm else 0 := by
  have h1 : j < l.length := by
    rcases Nat.lt_or_ge j l.length with h1 | h1
    · exact h1
    · rw [List.getElem?_eq_none h1] at h; cases h
  rw [List.getElem?_eq_getElem h1] at h
  rw [List.drop_eq_getElem_cons h1, Option.some.inj h]
  rfl
/-- The labels with a pair more, at its place. -/
def insL (l : List Pr) (nm v : ByteArray) : List Pr := l.take (atL l nm) ++ (nm, v) :: l.drop (atL l nm)
theorem okL_ins : ∀ {l : List Pr} {last : List UInt8} {nm v : ByteArray}, okL last l = true → nameB nm.data.toList = true → valueB v.data.toList = true → Op.bytesLess last nm.data.toList = true ∨ gtB last nm.data.toList = true → (∀ p ∈ l, p.1 ≠ nm) → okL last (insL l nm v) = true := by
  intro l
  induction l with
  | nil =>
    intro last nm v _ h1 h2 h3 _
    have : gtB last nm.data.toList = true := by rcases h3 with h | h; · rw [gtB_eq]; exact h
                                                · exact h
    simp [insL, atL, okL, h1, h2, this]
  | cons p l ih =>
    intro last nm v h h1 h2 h3 hn
    have h3' : gtB last nm.data.toList = true := by rcases h3 with h | h; · rw [gtB_eq]; exact h
                                                    · exact h
    have h0 := h
    simp only [okL, Bool.and_eq_true] at h
    have hpn : p.1.data.toList ≠ nm.data.toList := fun e => hn p (List.mem_cons_self ..) (ba_inj.mp e)
    have hl : Op.bytesLess p.1.toList nm.toList = Op.bytesLess p.1.data.toList nm.data.toList := by rw [ByteArray.toList_eq, ByteArray.toList_eq]
    by_cases hlt : Op.bytesLess p.1.data.toList nm.data.toList = true
    · have e : insL (p :: l) nm v = p :: insL l nm v := by
        unfold insL; rw [atL, hl, if_pos hlt, Nat.add_comm 1]; simp
      rw [e]
      simp only [okL, Bool.and_eq_true]
      exact ⟨h.1, h.2.1, h.2.2.1, ih h.2.2.2 h1 h2 (.inl hlt) (fun q hq => hn q (List.mem_cons_of_mem _ hq))⟩
    · have e : insL (p :: l) nm v = (nm, v) :: p :: l := by
        unfold insL; rw [atL, hl, if_neg hlt]; simp
      have hg : gtB nm.data.toList p.1.data.toList = true := by rw [gtB_eq]; exact less_or hlt hpn
      rw [e]
      simp only [okL, Bool.and_eq_true]
      exact ⟨h1, h2, h3', h.1, h.2.1, hg, h.2.2.2⟩
theorem insL_len (l : List Pr) (nm v : ByteArray) : (insL l nm v).length = l.length + 1 := by
  have := atL_le l nm
  simp [insL]; omega
theorem get_ins {l : List Pr} {nm v : ByteArray} (h : ∀ p ∈ l, p.1 ≠ nm) : getL (insL l nm v) nm = v := get_mid (fun p hp => h p (List.mem_of_mem_take hp))
theorem cmp_more (l : List Pr) (p : Pr) : cmpL l (l ++ [p]) = -1 := by
  induction l with
  | nil => rfl
  | cons q l ih => simp [cmpL, ih]
theorem chk_ins {l : List Pr} {nm v : ByteArray} (h : chkL l = 0) (h1 : nameB nm.data.toList = true) (h2 : valueB v.data.toList = true) (hn : ∀ p ∈ l, p.1 ≠ nm) : chkL (insL l nm v) = if l.length + 1 ≤ 8 then 0 else 16 := by
  have h3 : okL [] l = true := by
    unfold chkL at h
    split at h
    · rename_i h4; exact h4.2.2
    · omega
  have h4 := okL_ins h3 h1 h2 (.inr (gtB_nil h1)) hn
  unfold chkL
  rw [insL_len, h4]
  by_cases h8 : l.length + 1 ≤ 8
  · rw [if_pos ⟨by omega, h8, rfl⟩, if_pos h8]
  · rw [if_neg (fun h => h8 h.2.1), if_neg h8]
end Lb
end Go.Proofs.YtlddedddcdhjnaaDoor
