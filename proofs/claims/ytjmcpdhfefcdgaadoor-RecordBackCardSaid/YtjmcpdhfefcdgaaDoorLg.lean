/- Labels read: plain, and the document's reader. -/
import Derived.Test.YtjmcpdhfefcdgaaDoorLf
import Derived.BigRegion
namespace Go.Proofs.YtjmcpdhfefcdgaaDoor
open Go.RowKit Lb Dig Inn

namespace Lb
/-- Pairs read one by one: what is read, the bytes that are left, the error. -/
def rdD : Nat → List UInt8 → Nat → List Pr → List Pr × List UInt8 × Nat
  | 0, l, e, ps => (ps, l, e)
  | k + 1, l, e, ps => if e ≠ 0 then (ps, l, e) else
      rdD k (inText (inText l e 32).2.1 (inText l e 32).2.2 64).2.1 (inText (inText l e 32).2.1 (inText l e 32).2.2 64).2.2 (ps ++ [(mkS (inText l e 32).1, mkS (inText (inText l e 32).2.1 (inText l e 32).2.2 64).1)])
def finD (r : List Pr × List UInt8 × Nat) : List Pr × Nat := if r.2.2 ≠ 0 then ([], r.2.2) else if r.2.1 ≠ [] then ([], 6) else if chkL r.1 ≠ 0 then ([], 16) else (r.1, 0)
/-- The labels of bytes, or the error. -/
def decL (s : List UInt8) : List Pr × Nat := finD (rdD (inNum s 0).1 (inNum s 0).2.1 (inMust (inNum s 0).2.2 (decide (1 ≤ (inNum s 0).1) && decide ((inNum s 0).1 ≤ 8)) 16) [])
theorem rdD_bad {k : Nat} {l : List UInt8} {e : Nat} {ps : List Pr} (h : e ≠ 0) : rdD k l e ps = (ps, l, e) := by
  cases k with
  | zero => rfl
  | succ k => rw [rdD, if_pos h]
theorem rdD_succ {k : Nat} {l : List UInt8} {ps : List Pr} {t u l1 l2 : List UInt8} {e1 e2 : Nat} (h1 : inText l 0 32 = (t, l1, e1)) (h2 : inText l1 e1 64 = (u, l2, e2)) : rdD (k + 1) l 0 ps = rdD k l2 e2 (ps ++ [(mkS t, mkS u)]) := by
  rw [rdD, if_neg (by omega), h1]
  simp only
  rw [h2]
theorem inText_size (l : List UInt8) (e : Nat) (m : Int) : (inText l e m).1.length ≤ l.length ∧ (inText l e m).2.1.length ≤ l.length := by
  unfold inText
  split
  · simp
  · simp only [List.length_drop]
    refine ⟨?_, by omega⟩
    rcases hn : getNum l with ⟨n', k', e'⟩
    unfold getText
    rw [hn]
    simp only
    repeat' split
    all_goals (simp only [List.length_nil, List.length_take, List.length_drop]; omega)
/-- The cells of pairs. -/
def encP (l : List Pr) : List Value := (l.map fun p => [Value.string p.1, Value.string p.2]).flatten
theorem encP_snoc (l : List Pr) (p : Pr) : encP (l ++ [p]) = encP l ++ [.string p.1, .string p.2] := by simp [encP]
theorem encP_len (l : List Pr) : (encP l).length = l.length * 2 := by
  induction l with
  | nil => rfl
  | cons a l ih => simp only [encP, List.map_cons, List.flatten_cons, List.length_append, List.length_cons, List.length_nil] at ih ⊢; omega
theorem encP_get (l : List Pr) : ∀ (j : Nat) (p : Pr), l[j]? = some p → (encP l)[j * 2]? = some (.string p.1) ∧ (encP l)[j * 2 + 1]? = some (.string p.2) := by
  induction l with
  | nil => intro j x h; simp at h
  | cons a l ih =>
    intro j x h
    cases j with
    | zero => simp at h; subst h; simp [encP]
    | succ j =>
      have := ih j x (by simpa using h)
      have e1 : (j + 1) * 2 = j * 2 + 2 := by omega
      have e2 : encP (a :: l) = .string a.1 :: .string a.2 :: encP l := by simp [encP]
      rw [e1, e2]
      simpa using this
end Lb

theorem RowQ.of_owns {w : World} {B : Nat} {t : TypeId} {v : Value} {n : Nat} {l : List Pr} (h : w.ownsRow B t 2 v n (encP l)) : ∃ a c, v = .slice a n c ∧ RowQ w a l ∧ l.length = n := by
  have hl : l.length = n := by have := h.1; rw [encP_len] at this; omega
  rcases h.2 with ⟨rfl, rfl⟩ | ⟨g, cap, cur, rfl, _⟩
  · exact ⟨none, 0, rfl, ⟨.inl (List.length_eq_zero_iff.mp hl)⟩, hl⟩
  · refine ⟨some ⟨g, 0, none⟩, cap, rfl, ⟨.inr ⟨_, rfl, fun i p hp => ?_⟩⟩, hl⟩
    obtain ⟨h1, h2⟩ := encP_get l i p hp
    refine ⟨h.cells (g := g) rfl _ _ h1, ?_⟩
    have := h.cells (g := g) rfl _ _ h2
    rw [add_field _ _ _ (by decide)] at this
    exact this

theorem pinfo_of {t : TypeId} {z : Value} {n b : Nat} (h : (Tryd.prog.info? t).map (fun i => (i.zero, i.size, i.bytes)) = some (some z, n, b)) : ∃ i, Tryd.prog.info? t = some i ∧ i.zero = some z ∧ i.size = n ∧ i.bytes = b := by
  cases hi : Tryd.prog.info? t with
  | none => rw [hi] at h; simp at h
  | some i => rw [hi] at h; simp at h; exact ⟨i, rfl, h.1, h.2.1, h.2.2⟩
theorem prinfo : (Tryd.prog.info? 47).map (fun i => (i.zero, i.size, i.bytes)) = some (some (.agg #[.string { data := #[] }, .string { data := #[] }]), 2, 32) := by kernel_rfl

/-- One more in the row: the blocks of ks are not the row's. -/
theorem row_more {w w1 wa w2 : World} {B : Nat} {ks : List Nat} {v1 v2 : Value} (hbel : Below B w w1) (hB : B ≤ w.heap.size) (hks : ∀ k ∈ ks, k < w1.heap.size) (hfr : ∀ g, v1.ownBlock = some g → B ≤ g ∧ g ∉ ks)
    (hc : Chg (fun _ => False) w1 wa) (hgr : wa.grownBy w2 v1.ownBlock) (hbk : v2.ownBlock = v1.ownBlock ∨ v2.ownBlock = some wa.heap.size) :
    Chg (fun k => some k = v1.ownBlock) w1 w2 ∧ (∀ g, v2.ownBlock = some g → B ≤ g ∧ g ∉ ks) ∧ Below B w w2 := by
  have h1 := hbel.size
  have hs := hc.size
  have hch : Chg (fun k => some k = v1.ownBlock) w1 w2 := (hc.mono (fun _ _ x => x.elim)).trans (Chg.grown hgr) (fun _ _ x => x)
  refine ⟨hch, fun g hg => ?_, hbel.trans (hch.below (Nat.le_trans hB h1) (fun k hk e => by have := (hfr k e.symm).1; omega))⟩
  rcases hbk with h | h
  · exact hfr g (by rw [← h]; exact hg)
  · rw [h] at hg
    have h9 := Option.some.inj hg
    refine ⟨by omega, fun hm => ?_⟩
    have := hks g hm
    omega
theorem owns_cap {w : World} {B : Nat} {t : TypeId} {size n : Nat} {xs : List Value} {a : Option Addr} {c : Nat} (h : w.ownsRow B t size (.slice a n c) n xs) : (a = none → c = 0) ∧ n ≤ c := by
  rcases h.2 with ⟨h1, rfl⟩ | ⟨g, cap, cur, h1, _, _, h2, _⟩
  · cases h1; exact ⟨fun _ => rfl, Nat.le_refl _⟩
  · cases h1; exact ⟨fun h => (by cases h), h2⟩
/-- What a reader of labels leaves, and where. -/
structure LdOut2 (w : World) (r : List Pr × Nat) (y : Ending) (w' : World) : Prop where
  ex : ∃ (a : Option Addr) (n c : Nat), y = .returned (.tuple #[.slice a n c, .int .i64 (r.2 : Nat)]) ∧ RowQ w' a r.1 ∧ r.1.length = n ∧ Below w.heap.size w w' ∧ ((a = none → c = 0) ∧ n ≤ c) ∧ (∀ ad, a = some ad → w.heap.size ≤ ad.block)
/-- What a reader of labels leaves. -/
structure LdOut (w : World) (r : List Pr × Nat) (y : Ending) (w' : World) : Prop where
  ex : ∃ (a : Option Addr) (n c : Nat), y = .returned (.tuple #[.slice a n c, .int .i64 (r.2 : Nat)]) ∧ RowQ w' a r.1 ∧ r.1.length = n ∧ Below w.heap.size w w'

/-- What stands ahead of each round of the document's reader. -/
structure DdAt (w wt : World) (x n : Nat) (R : List Pr × List UInt8 × Nat) (v6 v7 : Value) : Prop where
  ex : ∃ (i : Nat) (ps : List Pr) (l : List UInt8) (e : Nat), i ≤ n ∧ i ≤ 8 ∧ v7 = .int .u64 i ∧ Hid (ps.length = i) ∧ l.length ≤ 100000 ∧ Hid (R = rdD (n - i) l e ps) ∧ Hid (e = 0 → n ≤ 8) ∧ InAt wt x l e ∧ wt.ownsRow 0 47 2 v6 i (encP ps) ∧ Hid (∀ g, v6.ownBlock = some g → w.heap.size ≤ g ∧ g ≠ x) ∧ Hid (∀ p ∈ ps, p.1.size ≤ 100000 ∧ p.2.size ≤ 100000) ∧ Below w.heap.size w wt

set_option maxRecDepth 100000 in
set_option maxHeartbeats 4000000 in
theorem rldecode2_any (s : ByteArray) (hs : s.size ≤ 100000) (w : World) :
    Calls Tryd.prog 49 #[.string s] w (LdOut2 w (decL s.data.toList)) := by
  obtain ⟨i0, hi, hz0, hz1, hz2⟩ := pinfo_of prinfo
  obtain ⟨D, hD⟩ : ∃ D, Hid (decL s.data.toList = D) := ⟨_, Lib.hid rfl⟩
  rw [hD.out]
  have hx0 := RowV.new w [.string s, .int .i64 0] 80
  have hb0 : Below w.heap.size w (w.alloc (.cells #[.string s, .int .i64 0] 80)) := (Below.refl _ _).alloc (Nat.le_refl _) _
  obtain ⟨W0, hW0⟩ : ∃ W0, Hid (W0 = w.alloc (.cells #[.string s, .int .i64 0] 80)) := ⟨_, Lib.hid rfl⟩
  obtain ⟨x, hx⟩ : ∃ x, Hid (x = w.heap.size) := ⟨_, Lib.hid rfl⟩
  go_enter Tryd.func49, Tryd.ntmps49
  go_upto_region 2 with (fail)
  rw [← hW0.out] at hx0 hb0 ⊢
  rw [← hx.out] at hx0 ⊢
  have hI0 : InAt W0 x s.data.toList 0 := by unfold InAt; rw [mkS_toList]; exact hx0
  obtain ⟨n, l1, e1, hN⟩ : ∃ n l1 e1, Hid (inNum s.data.toList 0 = (n, l1, e1)) := ⟨_, _, _, Lib.hid rfl⟩
  have IN := fun W h => innum_any x s.data.toList 0 (by rw [← size_toList]; exact hs) W h
  rw [hN.out] at IN
  obtain ⟨hn64, hl1⟩ : n < 18446744073709551616 ∧ l1.length ≤ 100000 := by
    have h1 := hN.out
    have h2 := getNum_lt s.data.toList
    have h3 := size_toList s
    unfold inNum at h1
    simp only [ne_eq, not_true, if_false, Prod.mk.injEq] at h1
    exact ⟨by omega, by rw [← h1.2.1, List.length_drop]; omega⟩
  obtain ⟨O, hO⟩ : ∃ O, Hid ((decide (1 ≤ n) && decide (n ≤ 8)) = O) := ⟨_, Lib.hid rfl⟩
  obtain ⟨e2, hE2⟩ : ∃ e, Hid (inMust e1 O 16 = e) := ⟨_, Lib.hid rfl⟩
  have IM := fun W h => inmust_any x l1 e1 O 16 W h
  rw [hE2.out] at IM
  have hDD : Hid (D = finD (rdD n l1 e2 [])) := Lib.hid (by
    rw [← hD.out]; unfold decL; rw [hN.out]; simp only; rw [hO.out, hE2.out])
  have h28 : Hid (e2 = 0 → n ≤ 8) := Lib.hid (fun h => by
    rw [← hE2.out] at h
    unfold inMust at h
    split at h
    · omega
    · rename_i h9
      have : O = true := by
        cases O with
        | true => rfl
        | false => exact absurd ⟨h, rfl⟩ h9
      rw [← hO.out] at this
      simp at this; omega)
  go_upto_region 3 with (go_at_call 46; refine (IN _ hI0).mono ?_; rintro y w1 ⟨rfl, hI1, hc1⟩)
  have hbel1 : Below w.heap.size w w1 := Chg.below_tr hb0 hc1 (fun k hk e => by have := hx.out; omega)
  clear IN hI0 hc1 hx0 hb0
  go_cut [] from 15 to 22 (fun wx => InAt wx x l1 e2 ∧ Below w.heap.size w wx)
  case first =>
    have fin : ∀ W, InAt W x l1 e2 ∧ Chg (fun k => k = x) w1 W → InAt W x l1 e2 ∧ Below w.heap.size w W := fun W h => ⟨h.1, Chg.below_tr hbel1 h.2 (fun k hk e => by have := hx.out; omega)⟩
    rcases (by omega : n < 1 ∨ (1 ≤ n ∧ 8 < n) ∨ (1 ≤ n ∧ n ≤ 8)) with h | ⟨h, h8⟩ | ⟨h, h8⟩
    · have hi1 : ¬ (1 : Int) ≤ (n : Int) := by omega
      have hOf : O = false := by rw [← hO.out]; simp; omega
      subst hOf
      go_wp2_with (go_at_call 47; refine (IM _ hI1).mono ?_; rintro y w2 ⟨⟨v, rfl⟩, hI2, hc2⟩)
      go_meet
      case rel => exact fin _ ⟨hI2, hc2⟩
    · have hi1 : (1 : Int) ≤ (n : Int) := by omega
      have hi8 : ¬ (n : Int) ≤ 8 := by omega
      have hOf : O = false := by rw [← hO.out]; simp; omega
      subst hOf
      go_wp2_with (go_at_call 47; refine (IM _ hI1).mono ?_; rintro y w2 ⟨⟨v, rfl⟩, hI2, hc2⟩)
      go_meet
      case rel => exact fin _ ⟨hI2, hc2⟩
    · have hi1 : (1 : Int) ≤ (n : Int) := by omega
      have hi8 : (n : Int) ≤ 8 := by omega
      have hOf : O = true := by rw [← hO.out]; simp; omega
      subst hOf
      go_wp2_with (go_at_call 47; refine (IM _ hI1).mono ?_; rintro y w2 ⟨⟨v, rfl⟩, hI2, hc2⟩)
      go_meet
      case rel => exact fin _ ⟨hI2, hc2⟩
  case rest =>
    obtain ⟨hI2, hbel2⟩ := hcut
    clear hI1 hbel1 IM
    go_upto_region 6 with (fail)
    go_loopw [6, 7] (fun v6 v7 wt => DdAt w wt x n (rdD n l1 e2 []) v6 v7) (fun _ v7 _ => n - (intOf v7).toNat)
    case atStart => exact ⟨0, [], l1, e2, by omega, by omega, rfl, Lib.hid rfl, hl1, Lib.hid rfl, h28, hI2, World.ownsRow_nil _ _ _ _, Lib.hid (fun g hg => by simp [Value.ownBlock] at hg), Lib.hid (fun p hp => by simp at hp), hbel2⟩
    case round =>
      clear hI2 hbel2
      obtain ⟨i, ps, l, e, hil, hi8, rfl, hps, hl5, hR, he8, hI, hown, hfr, hsz, hbel⟩ := hrel
      have c1 := (hI 1 _ rfl).1
      by_cases hgo : i < n ∧ e = 0
      · obtain ⟨hin, rfl⟩ := hgo
        have hii : (i : Int) < (n : Int) := by omega
        have h8 := he8.out rfl
        obtain ⟨t, l2, e3, hT1⟩ : ∃ t l' e', Hid (inText l 0 32 = (t, l', e')) := ⟨_, _, _, Lib.hid rfl⟩
        obtain ⟨u, l3, e4, hT2⟩ : ∃ t l' e', Hid (inText l2 e3 64 = (t, l', e')) := ⟨_, _, _, Lib.hid rfl⟩
        have s1 := inText_size l 0 32
        have s2 := inText_size l2 e3 64
        rw [hT1.out] at s1
        rw [hT2.out] at s2
        simp only at s1 s2
        have IT1 := fun W h => intext_any x l 0 32 (by omega) (by omega) hl5 W h
        have IT2 := fun W h => intext_any x l2 e3 64 (by omega) (by omega) (by omega) W h
        rw [hT1.out] at IT1
        rw [hT2.out] at IT2
        have hR2 : Hid (rdD n l1 e2 [] = rdD (n - (i + 1)) l3 e4 (ps ++ [(mkS t, mkS u)])) := Lib.hid (by
          rw [hR.out, show n - i = (n - (i + 1)) + 1 from by omega, rdD_succ hT1.out hT2.out])
        have hsz2 : Hid (∀ p ∈ ps ++ [(mkS t, mkS u)], p.1.size ≤ 100000 ∧ p.2.size ≤ 100000) := Lib.hid (fun p hp => by
          rcases List.mem_append.mp hp with h | h
          · exact hsz.out p h
          · simp at h; subst h; simp only [mkS_size]; omega)
        go_upto_region 10 with (first
          | (go_at_call 48; with_reducible refine (IT1 _ hI).mono ?_; rintro y w3 ⟨rfl, hI3, hc3⟩)
          | (go_at_call 48; with_reducible refine (IT2 _ hI3).mono ?_; rintro y w4 ⟨rfl, hI4, hc4⟩))
        have hown4 := (hc3.trans hc4 (fun _ _ y => y)).owns hown (fun g hg e => (hfr.out g hg).2 e)
        have hbel4 : Below w.heap.size w w4 := Chg.below_tr hbel (hc3.trans hc4 (fun _ _ y => y)) (fun k hk e => by have := hx.out; omega)
        clear hI hown hbel IT1 IT2 hI3 hc3 hc4
        go_wp2_with (at_builtin; refine wpList_append_fp rfl _ _ 40 rfl 0 47 i0 (.agg #[.string { data := #[] }, .string { data := #[] }]) 2 32 Tryd.underlying40 hi hz0 hz1 hz2 rfl (by decide) _ _ _ rfl (hown4.alloc _) ⟨_, 0, none⟩ 1 1 [.string (mkS t), .string (mkS u)] rfl rfl ?c1 ?c2 ?c3 ?c4 ?c5 ?_)
        case c1 =>
          intro j u hu
          match j, hu with
          | 0, hu => simp at hu; subst hu; simp [Addr.add]
          | 1, hu => simp at hu; subst hu; simp [Addr.add]
          | j + 2, hu => simp at hu
        case c2 => intro u hu; simp at hu; rcases hu with rfl | rfl <;> rfl
        case c3 => unfold maxLen; omega
        case c4 => omega
        case c5 => exact Nat.zero_le _
        intro v2 w5 ho hgr _ hbk
        have hca : Chg (fun _ => False) w4 (w4.alloc (.cells #[.string (mkS t), .string (mkS u)] 47)) := Chg.alloc _ _ _
        have hlx : x < w4.heap.size := RowV.lt hI4 (by simp)
        obtain ⟨hch, hfr2, hbel5⟩ := row_more (ks := [x]) hbel4 (Nat.le_refl _) (by simpa using hlx) (fun g hg => by have := hfr.out g hg; simpa using this) hca hgr (by simpa using hbk)
        have hI5 := RowV.keep hI4 hch (fun e => (hfr.out x e.symm).2 rfl)
        have Hfr2 : Hid (∀ g, v2.ownBlock = some g → w.heap.size ≤ g ∧ g ≠ x) := Lib.hid (fun g hg => by have := hfr2 g hg; simpa using this)
        clear hfr2 hbk hgr hch hca
        go_wp2
        go_roundw
        case rel =>
          refine ⟨i + 1, _, l3, e4, by omega, by omega, by go_num, Lib.hid (by rw [List.length_append, hps.out]; rfl), by omega, hR2, Lib.hid (fun _ => h8), hI5, ?_, Hfr2, hsz2, hbel5⟩
          rw [encP_snoc]; exact ho
        case measure => simp [intOf]; omega
      · have hR2 : Hid (rdD n l1 e2 [] = (ps, l, e)) := Lib.hid (by
          rw [hR.out]
          by_cases he : e = 0
          · have : ¬ i < n := fun h => hgo ⟨h, he⟩
            rw [show n - i = 0 from by omega]; rfl
          · exact rdD_bad he)
        obtain ⟨e5, hE5⟩ : ∃ e', Hid (inMust e (decide (l = [])) 6 = e') := ⟨_, Lib.hid rfl⟩
        obtain ⟨e6, hE6⟩ : ∃ e', Hid (inMust e5 (decide (chkL ps = 0)) 16 = e') := ⟨_, Lib.hid rfl⟩
        have hres : Hid (D = if e6 = 0 then (ps, 0) else ([], e6)) := Lib.hid (by
          rw [hDD.out, hR2.out, ← hE6.out, ← hE5.out]
          unfold finD inMust
          simp only
          by_cases he : e = 0 <;> by_cases hl : l = [] <;> by_cases hk : chkL ps = 0 <;> simp [he, hl, hk])
        obtain ⟨a, c, rfl, hq, hpl⟩ := RowQ.of_owns hown
        have hgo' : ((i : Int) < (n : Int) ∧ ¬ (e : Int) = 0) ∨ ¬ (i : Int) < (n : Int) := by
          rcases Nat.lt_or_ge i n with h1 | h1
          · exact .inl ⟨by omega, fun h => hgo ⟨h1, by omega⟩⟩
          · exact .inr (by omega)
        obtain ⟨OM, hOM⟩ : ∃ b, Hid (decide (l = []) = b) := ⟨_, Lib.hid rfl⟩
        obtain ⟨OC, hOC⟩ : ∃ b, Hid (decide (chkL ps = 0) = b) := ⟨_, Lib.hid rfl⟩
        obtain ⟨C, hC⟩ : ∃ b, Hid (chkL ps = b) := ⟨_, Lib.hid rfl⟩
        have hemp : (mkS l).toList.isEmpty = OM := by
          rw [← hOM.out, ByteArray.toList_eq, mkS_data, Bool.eq_iff_iff, List.isEmpty_iff]; simp
        have hCi : (((C : Nat) : Int) == 0) = OC := by
          rw [← hOC.out, hC.out, Bool.eq_iff_iff]; simp
        rw [hOM.out] at hE5
        rw [hOC.out] at hE6
        have IM1 := fun W h => inmust_any x l e OM 6 W h
        have IM2 := fun W h => inmust_any x l e5 OC 16 W h
        have CK := fun W h => rlcheck_any ps a i c hpl (by omega) (fun p hp => by have := hsz.out p hp; omega) W h
        rw [hE5.out] at IM1
        rw [hE6.out] at IM2
        rw [hC.out] at CK
        have c0 := (hI 0 _ rfl).1
        have hcap := owns_cap hown
        have Hlow : Hid (∀ ad, a = some ad → w.heap.size ≤ ad.block) := Lib.hid (fun ad e => (hfr.out ad.block (by rw [e]; rfl)).1)
        clear hgo hown
        rcases hgo' with ⟨hii, hei⟩ | hii
        all_goals
          go_upto_region 12 with (go_at_call 47; refine (IM1 _ hI).mono ?_; rintro y w3 ⟨⟨v, rfl⟩, hI3, hc3⟩; have hq3 := hq.keep hc3 (fun y hy => by have := hfr.out y.block (by rw [hy]; rfl); omega); clear IM1)
          go_upto_region 13 with (first
            | (go_at_call 36; refine (CK _ hq3).mono ?_; rintro y w4 ⟨rfl, hb4⟩; have hI4 := RowV.below hI3 hb4; have hq4 := hq3.below hb4; clear CK)
            | (go_at_call 47; refine (IM2 _ hI4).mono ?_; rintro y w5 ⟨⟨v, rfl⟩, hI5, hc5⟩; have hq5 := hq4.keep hc5 (fun y hy => by have := hfr.out y.block (by rw [hy]; rfl); omega); clear IM2))
          have hxw : w.heap.size ≤ x := by have := hx.out; omega
          have hbel5 : Below w.heap.size w w5 := Chg.below_tr (below_tr (Chg.below_tr hbel hc3 (fun k hk e => by omega)) hb4) hc5 (fun k hk e => by omega)
          have d1 := (hI5 1 _ rfl).1
          clear hI hI3 hI4 hq hq3 hq4 c0 c1
          by_cases he6 : e6 = 0
          · have hei6 : (e6 : Int) = 0 := by omega
            have hD2 : D = (ps, 0) := by rw [hres.out, if_pos he6]
            subst hD2
            go_wp2
            go_ret2
            exact ⟨_, _, _, rfl, hq5, hpl, hbel5, hcap, Hlow.out⟩
          · have hei6 : ¬ (e6 : Int) = 0 := by omega
            have hD2 : D = ([], e6) := by rw [hres.out, if_neg he6]
            subst hD2
            go_upto_region 14 with (fail)
            go_quiet (fail)
            go_wp2
            go_ret2
            exact ⟨_, _, _, rfl, ⟨.inl rfl⟩, rfl, below_drewN hbel5 _, ⟨fun _ => rfl, Nat.le_refl _⟩, fun ad h => by cases h⟩
theorem rldecode_any (s : ByteArray) (hs : s.size ≤ 100000) (w : World) :
    Calls Tryd.prog 49 #[.string s] w (LdOut w (decL s.data.toList)) :=
  (rldecode2_any s hs w).mono fun _ _ h => by obtain ⟨a, n, c, h1, h2, h3, h4, _⟩ := h; exact ⟨a, n, c, h1, h2, h3, h4⟩
end Go.Proofs.YtjmcpdhfefcdgaaDoor
