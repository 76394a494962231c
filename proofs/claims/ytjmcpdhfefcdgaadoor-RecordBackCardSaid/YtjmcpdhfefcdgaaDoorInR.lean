/- The document's reader of numbers and texts. -/
import Derived.Test.YtjmcpdhfefcdgaaDoorDigT
import Derived.Test.YtjmcpdhfefcdgaaDoorCopy
namespace Go.Proofs.YtjmcpdhfefcdgaaDoor
open Go.RowKit Dig

theorem gettext_eq (s : ByteArray) (hs : s.size ≤ 4611686018427387904) (most : Int) (hm : -9223372036854775808 ≤ most) (hm1 : most < 9223372036854775808) {t : List UInt8} {k e : Nat} (h : Hid (getText s.data.toList most = (t, k, e))) (w : World) :
    Calls Tryd.prog 70 #[.string s, .int .i64 most] w fun r w' => r = .returned (.tuple #[.string (mkS t), .int .i64 k, .int .i64 e]) ∧ Below w.heap.size w w' := by
  obtain ⟨n, k', e', hn⟩ : ∃ n k' e', Hid (getNum s.data.toList = (n, k', e')) := ⟨_, _, _, Lib.hid rfl⟩
  have := gettext_any s hs most hm hm1 hn w
  rw [h.out] at this
  exact this
theorem refgettext_eq (s : ByteArray) (hs : s.size ≤ 4611686018427387904) (most : Int) (hm : -9223372036854775808 ≤ most) (hm1 : most < 9223372036854775808) {t : List UInt8} {k e : Nat} (h : Hid (getText s.data.toList most = (t, k, e))) (w : World) :
    Calls Tryd.prog 66 #[.string s, .int .i64 most] w fun r w' => r = .returned (.tuple #[.string (mkS t), .int .i64 k, .int .i64 e]) ∧ w = w' := by
  obtain ⟨n, k', e', hn⟩ : ∃ n k' e', Hid (getNum s.data.toList = (n, k', e')) := ⟨_, _, _, Lib.hid rfl⟩
  have := refgettext_any s hs most hm hm1 hn w
  rw [h.out] at this
  exact this
theorem getText_facts {l : List UInt8} {most : Int} {t : List UInt8} {k e : Nat} (h : getText l most = (t, k, e)) : k ≤ l.length ∧ e ≤ 8 := by
  have h1 := getText_le l most
  rw [h] at h1
  refine ⟨h1, ?_⟩
  have h3 : (getText l most).2.2 = e := by rw [h]
  rcases hn : getNum l with ⟨n', k', e'⟩
  have h2 := getNum_facts hn
  unfold getText at h3
  rw [hn] at h3
  simp only at h3
  repeat' split at h3
  all_goals (simp only at h3; omega)

namespace Inn
/-- The next number: it, the bytes that are left, the error. -/
def inNum (l : List UInt8) (e : Nat) : Nat × List UInt8 × Nat := if e ≠ 0 then (0, l, e) else ((getNum l).1, l.drop (getNum l).2.1, (getNum l).2.2)
def inText (l : List UInt8) (e : Nat) (most : Int) : List UInt8 × List UInt8 × Nat := if e ≠ 0 then ([], l, e) else ((getText l most).1, l.drop (getText l most).2.1, (getText l most).2.2)
def inMust (e : Nat) (ok : Bool) (e2 : Nat) : Nat := if e = 0 ∧ ok = false then e2 else e
end Inn
open Inn

/-- The bytes that are left and the error, in memory. -/
def InAt (w : World) (x : Nat) (l : List UInt8) (e : Nat) : Prop := RowV w x [.string (mkS l), .int .i64 (e : Nat)]

structure NumOut (w : World) (x : Nat) (v : Value) (l : List UInt8) (e : Nat) (y : Ending) (w' : World) : Prop where
  ex : y = .returned v ∧ InAt w' x l e ∧ Chg (fun k => k = x) w w'

set_option maxRecDepth 100000 in
set_option maxHeartbeats 2000000 in
theorem innum_any (x : Nat) (l : List UInt8) (e : Nat) (hl : l.length ≤ 100000) (w : World) (h : InAt w x l e) :
    Calls Tryd.prog 46 #[.pointer (some ⟨x, 0, none⟩)] w (NumOut w x (.int .u64 ((inNum l e).1 : Nat)) (inNum l e).2.1 (inNum l e).2.2) := by
  have c0 := (h 0 _ rfl).1
  have c1 := (h 1 _ rfl).1
  have z0 := (h 0 _ rfl).2
  have z1 := (h 1 _ rfl).2
  by_cases he : e = 0
  · subst he
    obtain ⟨n, k, e2, h1⟩ : ∃ n k e2, Hid (getNum (mkS l).data.toList = (n, k, e2)) := ⟨_, _, _, Lib.hid rfl⟩
    have h2 := h1.out
    rw [mkS_data] at h2
    obtain ⟨f1, f2, f3, f4⟩ := getNum_facts h2
    have hin : Hid (inNum l 0 = (n, l.drop k, e2)) := Lib.hid (by unfold inNum; rw [h2]; simp)
    have hsz : (mkS l).size = l.length := mkS_size l
    have hki : (k : Int) ≤ ((mkS l).size : Int) := by omega
    have hx : Hid ((mkS l).extract k (mkS l).size = mkS (l.drop k)) := Lib.hid (by
      rw [mkS_size, show l.length = k + (l.length - k) from by omega, extract_mkS, mkS_data, List.take_of_length_le (by rw [List.length_drop]; omega)])
    have hst : Hid (∀ W, W = (w.setCell ⟨x, 1, none⟩ (.int .i64 (e2 : Nat))).setCell ⟨x, 0, none⟩ (.string (mkS (l.drop k))) → InAt W x (l.drop k) e2 ∧ Chg (fun k => k = x) w W) := Lib.hid (fun W hW => by
      rw [hW]
      exact ⟨(h.set 1 (by simp) _).set 0 (by simp) _, (Chg.setCell w ⟨x, 1, none⟩ _).trans (Chg.setCell _ ⟨x, 0, none⟩ _) (fun _ _ y => y)⟩)
    rw [hin.out]
    clear h2 f1 f2 f3 f4 hsz h
    go_enter Tryd.func46, Tryd.ntmps46
    go_wp2_with (go_at_call 65; refine (refgetnum_eq (mkS l) (by rw [mkS_size]; omega) h1 _).mono ?_; rintro y w1 ⟨rfl, rfl⟩)
    rw [hx.out]
    obtain ⟨r1, r2⟩ := hst.out _ rfl
    go_ret
    exact ⟨rfl, r1, r2⟩
  · have hei : ¬ (e : Int) = 0 := by omega
    have hin : Hid (inNum l e = (0, l, e)) := Lib.hid (by unfold inNum; rw [if_pos he])
    rw [hin.out]
    go_enter Tryd.func46, Tryd.ntmps46
    go_wp2
    go_ret
    exact ⟨rfl, h, Chg.refl _ _⟩

set_option maxRecDepth 100000 in
set_option maxHeartbeats 2000000 in
theorem intext_any (x : Nat) (l : List UInt8) (e : Nat) (most : Int) (hm : -9223372036854775808 ≤ most) (hm1 : most < 9223372036854775808) (hl : l.length ≤ 100000) (w : World) (h : InAt w x l e) :
    Calls Tryd.prog 48 #[.pointer (some ⟨x, 0, none⟩), .int .i64 most] w (NumOut w x (.string (mkS (inText l e most).1)) (inText l e most).2.1 (inText l e most).2.2) := by
  have c0 := (h 0 _ rfl).1
  have c1 := (h 1 _ rfl).1
  have z0 := (h 0 _ rfl).2
  have z1 := (h 1 _ rfl).2
  by_cases he : e = 0
  · subst he
    obtain ⟨n, k, e2, h1⟩ : ∃ n k e2, Hid (getText (mkS l).data.toList most = (n, k, e2)) := ⟨_, _, _, Lib.hid rfl⟩
    have h2 := h1.out
    rw [mkS_data] at h2
    obtain ⟨f2, f4⟩ := getText_facts h2
    have hin : Hid (inText l 0 most = (n, l.drop k, e2)) := Lib.hid (by unfold inText; rw [h2]; simp)
    have hsz : (mkS l).size = l.length := mkS_size l
    have hki : (k : Int) ≤ ((mkS l).size : Int) := by omega
    have hx : Hid ((mkS l).extract k (mkS l).size = mkS (l.drop k)) := Lib.hid (by
      rw [mkS_size, show l.length = k + (l.length - k) from by omega, extract_mkS, mkS_data, List.take_of_length_le (by rw [List.length_drop]; omega)])
    have hst : Hid (∀ W, W = (w.setCell ⟨x, 1, none⟩ (.int .i64 (e2 : Nat))).setCell ⟨x, 0, none⟩ (.string (mkS (l.drop k))) → InAt W x (l.drop k) e2 ∧ Chg (fun k => k = x) w W) := Lib.hid (fun W hW => by
      rw [hW]
      exact ⟨(h.set 1 (by simp) _).set 0 (by simp) _, (Chg.setCell w ⟨x, 1, none⟩ _).trans (Chg.setCell _ ⟨x, 0, none⟩ _) (fun _ _ y => y)⟩)
    rw [hin.out]
    clear h2 f2 f4 hsz h
    go_enter Tryd.func48, Tryd.ntmps48
    go_wp2_with (go_at_call 66; refine (refgettext_eq (mkS l) (by rw [mkS_size]; omega) most hm hm1 h1 _).mono ?_; rintro y w1 ⟨rfl, rfl⟩)
    rw [hx.out]
    obtain ⟨r1, r2⟩ := hst.out _ rfl
    go_ret
    exact ⟨rfl, r1, r2⟩
  · have hei : ¬ (e : Int) = 0 := by omega
    have hin : Hid (inText l e most = ([], l, e)) := Lib.hid (by unfold inText; rw [if_pos he])
    rw [hin.out]
    go_enter Tryd.func48, Tryd.ntmps48
    go_wp2
    go_ret
    exact ⟨rfl, h, Chg.refl _ _⟩

set_option maxRecDepth 100000 in
set_option maxHeartbeats 2000000 in
theorem inmust_any (x : Nat) (l : List UInt8) (e : Nat) (ok : Bool) (e2 : Nat) (w : World) (h : InAt w x l e) :
    Calls Tryd.prog 47 #[.pointer (some ⟨x, 0, none⟩), .bool ok, .int .i64 (e2 : Nat)] w fun y w' => (∃ v, y = .returned v) ∧ InAt w' x l (inMust e ok e2) ∧ Chg (fun k => k = x) w w' := by
  have c1 := (h 1 _ rfl).1
  have z1 := (h 1 _ rfl).2
  by_cases he : e = 0
  · have hei : (e : Int) = 0 := by omega
    cases ok with
    | true =>
      have hin : Hid (inMust e true e2 = e) := Lib.hid (by unfold inMust; simp)
      rw [hin.out]
      go_enter Tryd.func47, Tryd.ntmps47
      go_wp2
      go_end0
      exact ⟨⟨_, rfl⟩, h, Chg.refl _ _⟩
    | false =>
      have hin : Hid (inMust e false e2 = e2) := Lib.hid (by unfold inMust; simp [he])
      have hst := h.set 1 (by simp) (.int .i64 (e2 : Nat))
      rw [hin.out]
      go_enter Tryd.func47, Tryd.ntmps47
      go_wp2
      go_end0
      exact ⟨⟨_, rfl⟩, hst, Chg.setCell w ⟨x, 1, none⟩ _⟩
  · have hei : ¬ (e : Int) = 0 := by omega
    have hin : Hid (inMust e ok e2 = e) := Lib.hid (by unfold inMust; simp [he])
    rw [hin.out]
    go_enter Tryd.func47, Tryd.ntmps47
    go_wp2
    go_end0
    exact ⟨⟨_, rfl⟩, h, Chg.refl _ _⟩
end Go.Proofs.YtjmcpdhfefcdgaaDoor
