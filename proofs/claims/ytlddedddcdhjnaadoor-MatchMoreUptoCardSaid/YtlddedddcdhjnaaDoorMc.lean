/- What a matcher asks of a value. -/
import Derived.Test.YtlddedddcdhjnaaDoorMb
namespace Go.Proofs.YtlddedddcdhjnaaDoor
open Go.RowKit Lb Dig

namespace Lb
/-- Does a matcher hold of a value? -/
def holdsM (m : Mt) (v : ByteArray) : Bool := if m.1 = 1 then decide (v = m.2.2) else if m.1 = 2 then !decide (v = m.2.2) else if m.1 = 3 then Lib.hasPrefix v.data.toList m.2.2.data.toList else !decide (v.size = 0)
end Lb
theorem empty_test (s : ByteArray) : s.toList.isEmpty = decide (s.size = 0) := by
  by_cases h : s.size = 0
  · rw [isEmpty_true (List.length_eq_zero_iff.mp (by rw [← size_toList]; exact h)), decide_eq_true h]
  · rw [isEmpty_false (by omega), decide_eq_false h]

set_option maxRecDepth 100000 in
set_option maxHeartbeats 2000000 in
theorem ask1_any (s : ByteArray) (p : Nat) (m : Mt) (h1 : m.1 = 1) (w : World) (hx : RowV w p (mtC m)) :
    Calls Tryd.prog 66 #[.string s, .pointer (some ⟨p, 0, none⟩)] w fun e w' => e = .returned (.bool (holdsM m s)) ∧ w' = w := by
  obtain ⟨k, n, v⟩ := m
  have c2 := (hx 2 _ rfl).1
  have hr : holdsM (k, n, v) s = (s.toList == v.toList) := by
    unfold holdsM; rw [if_pos h1, bs_eq]
  simp only at c2
  rw [hr]
  clear hr hx h1
  go_enter Tryd.func66, Tryd.ntmps66
  go_wp2
  go_ret
  exact ⟨rfl, rfl⟩
set_option maxRecDepth 100000 in
set_option maxHeartbeats 2000000 in
theorem ask2_any (s : ByteArray) (p : Nat) (m : Mt) (h1 : m.1 = 2) (w : World) (hx : RowV w p (mtC m)) :
    Calls Tryd.prog 67 #[.string s, .pointer (some ⟨p, 0, none⟩)] w fun e w' => e = .returned (.bool (holdsM m s)) ∧ w' = w := by
  obtain ⟨k, n, v⟩ := m
  have c2 := (hx 2 _ rfl).1
  have hr : holdsM (k, n, v) s = !(s.toList == v.toList) := by
    unfold holdsM; simp only at h1 ⊢; rw [if_neg (by omega), if_pos h1, bs_eq]
  simp only at c2
  rw [hr]
  clear hr hx h1
  go_enter Tryd.func67, Tryd.ntmps67
  go_wp2
  go_ret
  exact ⟨rfl, rfl⟩
set_option maxRecDepth 100000 in
set_option maxHeartbeats 2000000 in
theorem ask3_any (s : ByteArray) (p : Nat) (m : Mt) (h1 : m.1 = 3) (w : World) (hx : RowV w p (mtC m)) :
    Calls Tryd.prog 68 #[.string s, .pointer (some ⟨p, 0, none⟩)] w fun e w' => e = .returned (.bool (holdsM m s)) ∧ w' = w := by
  obtain ⟨k, n, v⟩ := m
  have c2 := (hx 2 _ rfl).1
  have hr : holdsM (k, n, v) s = Lib.hasPrefix s.data.toList v.data.toList := by
    unfold holdsM; simp only at h1 ⊢; rw [if_neg (by omega), if_neg (by omega), if_pos h1]
  have HP := fun W => Tryd.strings_HasPrefix s v W
  simp only at c2
  rw [hr]
  clear hr hx h1
  go_enter Tryd.func68, Tryd.ntmps68
  go_wp2_with (go_at_call 69; refine (HP _).mono ?_; rintro y w2 ⟨rfl, rfl⟩)
  go_ret
  exact ⟨rfl, rfl⟩
set_option maxRecDepth 100000 in
set_option maxHeartbeats 2000000 in
theorem ask4_any (s : ByteArray) (m : Mt) (h1 : ¬ m.1 = 1 ∧ ¬ m.1 = 2 ∧ ¬ m.1 = 3) (w : World) :
    Calls Tryd.prog 70 #[.string s] w fun e w' => e = .returned (.bool (holdsM m s)) ∧ w' = w := by
  obtain ⟨k, n, v⟩ := m
  have hr : holdsM (k, n, v) s = !s.toList.isEmpty := by
    unfold holdsM; rw [if_neg h1.1, if_neg h1.2.1, if_neg h1.2.2, empty_test]
  rw [hr]
  clear hr h1
  go_enter Tryd.func70, Tryd.ntmps70
  go_wp2
  go_ret
  exact ⟨rfl, rfl⟩

/-- The function that asks what a matcher asks. -/
def IsAsk (m : Mt) (u : Value) (w : World) : Prop :=
  (∃ p, m.1 = 1 ∧ u = .func (Fn.func 66) #[] #[.pointer (some ⟨p, 0, none⟩)] ∧ RowV w p (mtC m)) ∨ (∃ p, m.1 = 2 ∧ u = .func (Fn.func 67) #[] #[.pointer (some ⟨p, 0, none⟩)] ∧ RowV w p (mtC m)) ∨
  (∃ p, m.1 = 3 ∧ u = .func (Fn.func 68) #[] #[.pointer (some ⟨p, 0, none⟩)] ∧ RowV w p (mtC m)) ∨ ((¬ m.1 = 1 ∧ ¬ m.1 = 2 ∧ ¬ m.1 = 3) ∧ u = .func (Fn.func 70) #[] #[])
theorem IsAsk.below {m : Mt} {u : Value} {w w' : World} (h : IsAsk m u w) (hb : Below w.heap.size w w') : IsAsk m u w' := by
  rcases h with ⟨p, h1, h2, h3⟩ | ⟨p, h1, h2, h3⟩ | ⟨p, h1, h2, h3⟩ | h
  · exact .inl ⟨p, h1, h2, h3.below hb⟩
  · exact .inr (.inl ⟨p, h1, h2, h3.below hb⟩)
  · exact .inr (.inr (.inl ⟨p, h1, h2, h3.below hb⟩))
  · exact .inr (.inr (.inr h))
structure AskOut (w : World) (m : Mt) (y : Ending) (w' : World) : Prop where
  ex : ∃ u, y = .returned u ∧ IsAsk m u w' ∧ Below w.heap.size w w'

set_option maxRecDepth 100000 in
set_option maxHeartbeats 2000000 in
theorem asks_any (k : Int) (n v : ByteArray) (w : World) :
    Calls Tryd.prog 58 #[.agg #[.int .i64 k, .string n, .string v]] w (AskOut w (k, n, v)) := by
  have hM := MtBox.new w k n v
  go_enter Tryd.func58, Tryd.ntmps58
  go_upto_region 1 with (fail)
  generalize w.alloc (.cells #[.int .i64 k, .string n, .string v] 51) = W1 at hM ⊢
  generalize w.heap.size = p at hM ⊢
  have k0 := (hM.row 0 _ rfl).1
  have hbel := hM.bel
  have hrow : RowV W1 p (mtC (k, n, v)) := hM.row
  clear hM
  obtain ⟨B1, hB1⟩ : ∃ b, (k == 1) = b := ⟨_, rfl⟩
  obtain ⟨B2, hB2⟩ : ∃ b, (k == 2) = b := ⟨_, rfl⟩
  obtain ⟨B3, hB3⟩ : ∃ b, (k == 3) = b := ⟨_, rfl⟩
  have H1 : Hid ((k = 1) ↔ B1 = true) := Lib.hid (by rw [← hB1, beq_iff_eq])
  have H2 : Hid ((k = 2) ↔ B2 = true) := Lib.hid (by rw [← hB2, beq_iff_eq])
  have H3 : Hid ((k = 3) ↔ B3 = true) := Lib.hid (by rw [← hB3, beq_iff_eq])
  cases B1
  · cases B2
    · cases B3
      · go_wp2
        go_ret
        exact ⟨_, rfl, .inr (.inr (.inr ⟨⟨by have := H1.out; simpa using this, by have := H2.out; simpa using this, by have := H3.out; simpa using this⟩, rfl⟩)), hbel⟩
      · go_wp2
        go_ret
        exact ⟨_, rfl, .inr (.inr (.inl ⟨p, (by have := H3.out; simpa using this), rfl, hrow⟩)), hbel⟩
    · go_wp2
      go_ret
      exact ⟨_, rfl, .inr (.inl ⟨p, (by have := H2.out; simpa using this), rfl, hrow⟩), hbel⟩
  · go_wp2
    go_ret
    exact ⟨_, rfl, .inl ⟨p, (by have := H1.out; simpa using this), rfl, hrow⟩, hbel⟩
end Go.Proofs.YtlddedddcdhjnaaDoor
