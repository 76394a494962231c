/- Records read: plain; what the program's reader throws. -/
import Derived.Test.YtjmcpdhfefcdgaaDoorRp
import Derived.Test.YtjmcpdhfefcdgaaDoorMh
import Derived.Test.YtjmcpdhfefcdgaaDoorDigR
import Derived.Test.YtjmcpdhfefcdgaaDoorLh
namespace Go.Proofs.YtjmcpdhfefcdgaaDoor
open Go.RowKit Lb Dig Inn

namespace Inn
/-- The next number with a sign. -/
def inSig (l : List UInt8) (e : Nat) : Int × List UInt8 × Nat := if e ≠ 0 then (0, l, e) else (zag (getNum l).1, l.drop (getNum l).2.1, (getNum l).2.2)
end Inn
namespace Lb
/-- Labels in a text, unless something was wrong before. -/
def inLab (t : List UInt8) (e : Nat) : List Pr × Nat := if e ≠ 0 then ([], e) else decL t
/-- Samples read one by one. -/
def rdS : Nat → List UInt8 → Nat → List Smp → List Smp × List UInt8 × Nat
  | 0, l, e, ss => (ss, l, e)
  | k + 1, l, e, ss => if e ≠ 0 then (ss, l, e) else
      rdS k (inNum (inSig (inText l 0 1024).2.1 (inLab (inText l 0 1024).1 (inText l 0 1024).2.2).2).2.1 (inSig (inText l 0 1024).2.1 (inLab (inText l 0 1024).1 (inText l 0 1024).2.2).2).2.2).2.1
        (inNum (inSig (inText l 0 1024).2.1 (inLab (inText l 0 1024).1 (inText l 0 1024).2.2).2).2.1 (inSig (inText l 0 1024).2.1 (inLab (inText l 0 1024).1 (inText l 0 1024).2.2).2).2.2).2.2
        (ss ++ [((inLab (inText l 0 1024).1 (inText l 0 1024).2.2).1, (inSig (inText l 0 1024).2.1 (inLab (inText l 0 1024).1 (inText l 0 1024).2.2).2).1, (inNum (inSig (inText l 0 1024).2.1 (inLab (inText l 0 1024).1 (inText l 0 1024).2.2).2).2.1 (inSig (inText l 0 1024).2.1 (inLab (inText l 0 1024).1 (inText l 0 1024).2.2).2).2.2).1)])
theorem rdS_bad {k : Nat} {l : List UInt8} {e : Nat} {ss : List Smp} (h : e ≠ 0) : rdS k l e ss = (ss, l, e) := by
  cases k with
  | zero => rfl
  | succ k => rw [rdS, if_pos h]
theorem rdS_succ {k : Nat} {l : List UInt8} {ss : List Smp} {t l1 l2 l3 : List UInt8} {e1 e2 e3 e4 : Nat} {ls : List Pr} {a : Int} {v : Nat} (h1 : inText l 0 1024 = (t, l1, e1)) (h2 : inLab t e1 = (ls, e2)) (h3 : inSig l1 e2 = (a, l2, e3)) (h4 : inNum l2 e3 = (v, l3, e4)) :
    rdS (k + 1) l 0 ss = rdS k l3 e4 (ss ++ [(ls, a, v)]) := by
  rw [rdS, if_neg (by omega), h1]
  simp only
  rw [h2]
  simp only
  rw [h3]
  simp only
  rw [h4]
/-- A record that is read. -/
structure Rcd where
  k : Int
  sm : List Smp
  ms : List Mt
  fr : Int
  tt : Int
def zR : Rcd := ⟨0, [], [], 0, 0⟩
/-- What is read behind the kind: the record, the bytes that are left, the error. -/
def bodyD (k : Nat) (l : List UInt8) (e : Nat) : Rcd × List UInt8 × Nat :=
  if k = 1 then
    (⟨1, (rdS (inNum l e).1 (inNum l e).2.1 (inMust (inNum l e).2.2 (decide (1 ≤ (inNum l e).1) && decide ((inNum l e).1 ≤ 32)) 2) []).1, [], 0, 0⟩, (rdS (inNum l e).1 (inNum l e).2.1 (inMust (inNum l e).2.2 (decide (1 ≤ (inNum l e).1) && decide ((inNum l e).1 ≤ 32)) 2) []).2)
  else if e = 0 then
    (⟨IntKind.i64.wrap (k : Int), [], (takeM l 0).1, (inSig (takeM l 0).2.1 (takeM l 0).2.2).1, (inSig (inSig (takeM l 0).2.1 (takeM l 0).2.2).2.1 (inSig (takeM l 0).2.1 (takeM l 0).2.2).2.2).1⟩,
      (inSig (inSig (takeM l 0).2.1 (takeM l 0).2.2).2.1 (inSig (takeM l 0).2.1 (takeM l 0).2.2).2.2).2)
  else (⟨IntKind.i64.wrap (k : Int), [], [], 0, 0⟩, l, e)
def finR (r : Rcd × List UInt8 × Nat) : Rcd × Nat :=
  if r.2.2 ≠ 0 then (zR, r.2.2) else if r.2.1 ≠ [] then (zR, 6) else if chkR r.1.k r.1.sm r.1.ms r.1.fr r.1.tt ≠ 0 then (zR, chkR r.1.k r.1.sm r.1.ms r.1.fr r.1.tt) else (r.1, 0)
/-- The record of bytes, or the error. -/
def decR (s : List UInt8) : Rcd × Nat := finR (bodyD (inNum s 0).1 (inNum s 0).2.1 (inMust (inNum s 0).2.2 (decide ((inNum s 0).1 = 1) || decide ((inNum s 0).1 = 2)) 5))
theorem decR_eq {s l1 : List UInt8} {k e1 e2 : Nat} (h1 : inNum s 0 = (k, l1, e1)) (h2 : inMust e1 (decide (k = 1) || decide (k = 2)) 5 = e2) : decR s = finR (bodyD k l1 e2) := by
  unfold decR; rw [h1]; simp only; rw [h2]
theorem body_one {l l2 l3 : List UInt8} {e n e3 e4 e5 : Nat} {ss : List Smp} (h1 : inNum l e = (n, l2, e3)) (h2 : inMust e3 (decide (1 ≤ n) && decide (n ≤ 32)) 2 = e4) (h3 : rdS n l2 e4 [] = (ss, l3, e5)) : bodyD 1 l e = (⟨1, ss, [], 0, 0⟩, l3, e5) := by
  unfold bodyD; rw [if_pos rfl, h1]; simp only; rw [h2, h3]
theorem body_two {l l2 l3 l4 : List UInt8} {k e3 e4 e5 : Nat} {ms : List Mt} {fr tt : Int} (hk : k ≠ 1) (h1 : takeM l 0 = (ms, l2, e3)) (h2 : inSig l2 e3 = (fr, l3, e4)) (h3 : inSig l3 e4 = (tt, l4, e5)) : bodyD k l 0 = (⟨IntKind.i64.wrap (k : Int), [], ms, fr, tt⟩, l4, e5) := by
  unfold bodyD; rw [if_neg hk, if_pos rfl, h1]; simp only; rw [h2]; simp only; rw [h3]
theorem body_bad {k : Nat} {l : List UInt8} {e : Nat} (he : e ≠ 0) : (bodyD k l e).2.2 = e := by
  by_cases hk : k = 1
  · unfold bodyD
    rw [if_pos hk, show inNum l e = (0, l, e) from by unfold inNum; rw [if_pos he]]
    simp only
    rw [inMust_bad he]; rfl
  · unfold bodyD
    rw [if_neg hk, if_neg he]
theorem finR_bad {r : Rcd × List UInt8 × Nat} {e : Nat} (h : r.2.2 = e) (he : e ≠ 0) : finR r = (zR, e) := by
  unfold finR; rw [h, if_pos he]
end Lb

/-- What stands ahead of the program's reader. -/
def RdAt (w : World) (x : Nat) (l : List UInt8) : Prop := RowV w x [.string (mkS l)]
/-- What a reader leaves: a value, or a thrown error. -/
structure RdOut (w : World) (x : Nat) (v : Value) (l : List UInt8) (e : Nat) (y : Ending) (w' : World) : Prop where
  chg : Chg (fun k => k = x) w w'
  ok : e = 0 → y = .returned v ∧ RdAt w' x l
  bad : e ≠ 0 → y = .panicked (thrown (e : Nat))
structure SkOut (w : World) (x : Nat) (l : List UInt8) (e : Nat) (y : Ending) (w' : World) : Prop where
  chg : Chg (fun k => k = x) w w'
  ok : e = 0 → (∃ v, y = .returned v) ∧ RdAt w' x l
  bad : e ≠ 0 → y = .panicked (thrown (e : Nat))

set_option maxRecDepth 100000 in
set_option maxHeartbeats 2000000 in
theorem rskip_any (x : Nat) (l : List UInt8) (k e : Nat) (hk : k ≤ l.length) (w : World) (h : RdAt w x l) :
    Calls Tryd.prog 44 #[.pointer (some ⟨x, 0, none⟩), .int .i64 k, .int .i64 (e : Nat)] w (SkOut w x (l.drop k) e) := by
  have c0 := (h 0 _ rfl).1
  have z0 := (h 0 _ rfl).2
  by_cases he : e = 0
  · have heb : ((e : Int) == 0) = true := by rw [beq_iff_eq]; omega
    have hex := extract_rest (mkS l) k (by rw [mkS_size]; exact hk)
    rw [mkS_data] at hex
    have hki : (k : Int) ≤ ((mkS l).size : Int) := by rw [mkS_size]; omega
    have hst := h.set 0 (by simp) (.string (mkS (l.drop k)))
    have hcs := Chg.setCell w ⟨x, 0, none⟩ (.string (mkS (l.drop k)))
    obtain ⟨l2, hl2⟩ : ∃ l2, Hid (l.drop k = l2) := ⟨_, Lib.hid rfl⟩
    rw [hl2.out] at hex hst hcs ⊢
    go_enter Tryd.func44, Tryd.ntmps44
    go_wp2_with (go_at_call 33; refine (rcheck_any _ _ _).mono ?_; rintro y w2 ⟨hck, rfl⟩; first | (obtain rfl := hck) | (obtain ⟨vv, rfl⟩ := hck))
    go_end0
    exact ⟨hcs, fun _ => ⟨⟨_, rfl⟩, hst⟩, fun h => absurd he h⟩
  · have heb : ((e : Int) == 0) = false := by rw [beq_eq_false_iff_ne]; omega
    go_enter Tryd.func44, Tryd.ntmps44
    go_wp2_with (go_at_call 33; refine (rcheck_any _ _ _).mono ?_; rintro y w2 ⟨hck, rfl⟩; first | (obtain rfl := hck) | (obtain ⟨vv, rfl⟩ := hck))
    exact ⟨rfl, Chg.refl _ _, fun h => absurd h he, fun _ => rfl⟩

set_option maxRecDepth 100000 in
set_option maxHeartbeats 2000000 in
theorem rnum_any (x : Nat) (l : List UInt8) (hl : l.length ≤ 100000) (w : World) (h : RdAt w x l) :
    Calls Tryd.prog 41 #[.pointer (some ⟨x, 0, none⟩)] w (RdOut w x (.int .u64 ((getNum l).1 : Nat)) (l.drop (getNum l).2.1) (getNum l).2.2) := by
  obtain ⟨n, k, e, hN⟩ : ∃ n k e, Hid (getNum (mkS l).data.toList = (n, k, e)) := ⟨_, _, _, Lib.hid rfl⟩
  have GN := fun W => getnum_eq (mkS l) (by rw [mkS_size]; omega) hN W
  have hN2 := hN.out
  rw [mkS_data] at hN2
  obtain ⟨hn64, hk, _, _⟩ := getNum_facts hN2
  rw [hN2]
  have SK := fun W h => rskip_any x l k e hk W h
  have c0 := (h 0 _ rfl).1
  clear hN2
  go_enter Tryd.func41, Tryd.ntmps41
  go_upto_region 2 with (go_at_call 61; refine (GN _).mono ?_; rintro y w1 ⟨rfl, hb1⟩; have h1 : RdAt w1 x l := RowV.below h hb1)
  have hc1 := Chg.of_below (fun k => k = x) hb1
  by_cases he : e = 0
  · have He := Lib.hid he
    clear he
    go_wp2_with (go_at_call 44; refine (SK _ h1).mono ?_; rintro y w2 ⟨hc2, hok, _⟩; obtain ⟨⟨vv, rfl⟩, h2⟩ := hok He.out)
    go_ret
    exact ⟨hc1.trans hc2 (fun _ _ x => x), fun _ => ⟨rfl, h2⟩, fun h => absurd He.out h⟩
  · have He := Lib.hid he
    clear he
    go_wp2_with (go_at_call 44; refine (SK _ h1).mono ?_; rintro y w2 ⟨hc2, _, hbad⟩; obtain rfl := hbad He.out)
    exact ⟨rfl, hc1.trans hc2 (fun _ _ x => x), fun h => absurd h He.out, fun _ => rfl⟩

set_option maxRecDepth 100000 in
set_option maxHeartbeats 2000000 in
theorem rsigned_any (x : Nat) (l : List UInt8) (hl : l.length ≤ 100000) (w : World) (h : RdAt w x l) :
    Calls Tryd.prog 45 #[.pointer (some ⟨x, 0, none⟩)] w (RdOut w x (.int .i64 (zag (getNum l).1)) (l.drop (getNum l).2.1) (getNum l).2.2) := by
  obtain ⟨n, k, e, hN⟩ : ∃ n k e, Hid (getNum (mkS l).data.toList = (n, k, e)) := ⟨_, _, _, Lib.hid rfl⟩
  have GN := fun W => getsigned_any (mkS l) (by rw [mkS_size]; omega) hN W
  have hN2 := hN.out
  rw [mkS_data] at hN2
  obtain ⟨hn64, hk, _, _⟩ := getNum_facts hN2
  rw [hN2]
  have SK := fun W h => rskip_any x l k e hk W h
  have c0 := (h 0 _ rfl).1
  clear hN2
  simp only
  obtain ⟨Z, hZ⟩ : ∃ Z, Hid (zag n = Z) := ⟨_, Lib.hid rfl⟩
  rw [hZ.out] at GN ⊢
  go_enter Tryd.func45, Tryd.ntmps45
  go_upto_region 2 with (go_at_call 64; refine (GN _).mono ?_; rintro y w1 ⟨rfl, hb1⟩; have h1 : RdAt w1 x l := RowV.below h hb1)
  have hc1 := Chg.of_below (fun k => k = x) hb1
  by_cases he : e = 0
  · have He := Lib.hid he
    clear he
    go_wp2_with (go_at_call 44; refine (SK _ h1).mono ?_; rintro y w2 ⟨hc2, hok, _⟩; obtain ⟨⟨vv, rfl⟩, h2⟩ := hok He.out)
    go_ret
    exact ⟨hc1.trans hc2 (fun _ _ x => x), fun _ => ⟨rfl, h2⟩, fun h => absurd He.out h⟩
  · have He := Lib.hid he
    clear he
    go_wp2_with (go_at_call 44; refine (SK _ h1).mono ?_; rintro y w2 ⟨hc2, _, hbad⟩; obtain rfl := hbad He.out)
    exact ⟨rfl, hc1.trans hc2 (fun _ _ x => x), fun h => absurd h He.out, fun _ => rfl⟩
end Go.Proofs.YtjmcpdhfefcdgaaDoor
