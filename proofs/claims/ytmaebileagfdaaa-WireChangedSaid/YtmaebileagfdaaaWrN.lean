/- A message read of bytes, in plain lists; the cells of a message. -/
import Derived.Test.YtmaebileagfdaaaWrC
namespace Go.Proofs.Ytmaebileagfdaaa
open Go.RowKit Dig Wr

namespace Wr
/-- So many numbers, each of 32 bits. -/
def nums : Nat → List UInt8 → Option (List Nat × List UInt8)
  | 0, s => some ([], s)
  | n + 1, s => if (getNum s).2.2 ≠ 0 ∨ 4294967295 < (getNum s).1 then none else (nums n (s.drop (getNum s).2.1)).map fun x => ((getNum s).1 :: x.1, x.2)
/-- So many texts. -/
def texts : Nat → List UInt8 → Option (List ByteArray × List UInt8)
  | 0, s => some ([], s)
  | n + 1, s => if (getText s 65536).2.2 ≠ 0 then none else (texts n (s.drop (getText s 65536).2.1)).map fun x => (mkS (getText s 65536).1 :: x.1, x.2)
def mk (l : List Nat) (rs : List ByteArray) (tx : ByteArray) : Msg := ⟨l.getD 0 0, l.getD 1 0, l.getD 2 0, l.getD 3 0, l.getD 4 0, l.getD 5 0, l.getD 6 0, rs, tx⟩
/-- The message of data. -/
def msgP (s : List UInt8) : Option Msg := match nums 8 s with
  | none => none
  | some (l, r) => if 4 < l.getD 7 0 then none else match texts (l.getD 7 0) r with
    | none => none
    | some (rs, r2) => if (getText r2 65536).2.2 = 0 ∧ r2.length = (getText r2 65536).2.1 then some (mk l rs (mkS (getText r2 65536).1)) else none

theorem nums_bad {n : Nat} {s : List UInt8} {v k e : Nat} (h : getNum s = (v, k, e)) (hb : e ≠ 0 ∨ 4294967295 < v) : nums (n + 1) s = none := by
  unfold nums; rw [h]; simp only; rw [if_pos hb]
theorem nums_ok {n : Nat} {s : List UInt8} {v k : Nat} (h : getNum s = (v, k, 0)) (hb : v ≤ 4294967295) : nums (n + 1) s = (nums n (s.drop k)).map fun x => (v :: x.1, x.2) := by
  conv => lhs; unfold nums
  rw [h]; simp only; rw [if_neg (by omega)]
theorem texts_bad {n : Nat} {s t : List UInt8} {k e : Nat} (h : getText s 65536 = (t, k, e)) (hb : e ≠ 0) : texts (n + 1) s = none := by
  unfold texts; rw [h]; simp only; rw [if_pos hb]
theorem texts_ok {n : Nat} {s t : List UInt8} {k : Nat} (h : getText s 65536 = (t, k, 0)) : texts (n + 1) s = (texts n (s.drop k)).map fun x => (mkS t :: x.1, x.2) := by
  conv => lhs; unfold texts
  rw [h]; simp
/-- What has been read, and what is still to be read. -/
def more {α : Type} (acc : List α) (o : Option (List α × List UInt8)) : Option (List α × List UInt8) := o.map fun x => (acc ++ x.1, x.2)
theorem more_cons {α : Type} (acc : List α) (a : α) (o : Option (List α × List UInt8)) : more acc (o.map fun x => (a :: x.1, x.2)) = more (acc ++ [a]) o := by
  cases o <;> simp [more]
theorem more_none {α : Type} (acc : List α) : more acc (none : Option (List α × List UInt8)) = none := rfl
theorem more_nil {α : Type} (o : Option (List α × List UInt8)) : more [] o = o := by cases o <;> simp [more]

def boxOf (acc : List Nat) : List Value := [.int .i64 (acc.getD 0 0 : Nat), .int .i64 (acc.getD 1 0 : Nat), .int .i64 (acc.getD 2 0 : Nat), .int .i64 (acc.getD 3 0 : Nat), .int .i64 (acc.getD 4 0 : Nat), .int .i64 (acc.getD 5 0 : Nat), .int .u32 0, .slice none 0 0, .string ByteArray.empty]
theorem getD_app (acc : List Nat) (v i : Nat) : (acc ++ [v]).getD i 0 = if i = acc.length then v else acc.getD i 0 := by
  rw [List.getD_eq_getElem?_getD, List.getD_eq_getElem?_getD]
  rcases Nat.lt_trichotomy i acc.length with h | h | h
  · rw [List.getElem?_append_left h, if_neg (by omega)]
  · subst h; simp
  · rw [List.getElem?_append_right (by omega), if_neg (by omega), List.getElem?_eq_none (by simp; omega), List.getElem?_eq_none (l := acc) (by omega)]
theorem box_set (acc : List Nat) (v i : Nat) (h : acc.length = i) (h6 : i < 6) : (boxOf acc).set i (.int .i64 (v : Nat)) = boxOf (acc ++ [v]) := by
  unfold boxOf
  simp only [getD_app, h]
  rcases (by omega : i = 0 ∨ i = 1 ∨ i = 2 ∨ i = 3 ∨ i = 4 ∨ i = 5) with rfl | rfl | rfl | rfl | rfl | rfl <;> simp
theorem box_keep (acc : List Nat) (v i : Nat) (h : acc.length = i) (h6 : 6 ≤ i) : boxOf (acc ++ [v]) = boxOf acc := by
  unfold boxOf
  simp only [getD_app, h]
  simp [show ∀ k, k < 6 → ¬ k = i from fun k hk => by omega]
end Wr

/-- What reading a message comes to. -/
structure PaOut (w : World) (o : Option Msg) (y : Ending) (w' : World) : Prop where
  ex : Below w.heap.size w w' ∧ ∃ m a n c ok, y = .returned (.tuple #[msgV m a n c, .bool ok]) ∧ (ok = false → o = none) ∧ (ok = true → o = some m ∧ w'.ownsRow 0 9 1 (.slice a n c) n (m.rs.map Value.string) ∧ ∀ g, (Value.slice a n c).ownBlock = some g → w.heap.size ≤ g)
end Go.Proofs.Ytmaebileagfdaaa
