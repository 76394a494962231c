/- The program's reader of points. -/
import Derived.Test.YtdegmeclcbndgaaDoorCkD
import Derived.Test.YtdegmeclcbndgaaDoorCkS
import Derived.Test.YtdegmeclcbndgaaDoorDigN
namespace Go.Proofs.YtdegmeclcbndgaaDoor
open Go.RowKit Bit Tim Xo Dig Ck

theorem mask_u8 (x : UInt8) (k : Nat) (hk : k ≤ 7) : bits .and .u8 (x.toNat : Int) (2 ^ k - 1) = ((x.toNat % 2 ^ k : Nat) : Int) := by
  have hx := x.toNat_lt
  have h := bits_mask .u8 8 (by decide) wraps_u8 k (by omega) ((x.toNat : Nat) : Int) (by omega) (by omega)
  rw [h]
  simp

set_option maxRecDepth 100000 in
set_option maxHeartbeats 2000000 in
theorem filled_any (s : ByteArray) (m : Nat) (hs : s.size ≤ 4611686018427387904) (hm : m ≤ 4611686018427387904) (h0 : m % 8 = 0 ∨ 0 < s.size) (w : World) :
    Calls Tryd.prog 59 #[.string s, .int .i64 (m : Nat)] w fun e w' => e = .returned (.bool (filledB s.data.toList m)) ∧ ∃ n, w' = w.drewN n := by
  have hmod : ((m : Int) % 8) = ((m % 8 : Nat) : Int) := by omega
  obtain ⟨r, hr⟩ : ∃ r, Hid (r = m % 8) := ⟨_, Lib.hid rfl⟩
  rw [← hr.out] at hmod
  have hr8 : r < 8 := by have := hr.out; omega
  by_cases hz : r = 0
  · subst hz
    have hf : filledB s.data.toList m = true := by unfold filledB; rw [← hr.out]; simp
    have Hf := Lib.hid hf
    have hb0 : ((0 : Int) == 0) = true := rfl
    clear hf
    go_enter Tryd.func59, Tryd.ntmps59
    go_upto_region 2 with (fail)
    go_quiet (fail)
    go_wp2
    go_ret
    exact ⟨ret_bool Hf.out.symm, _, rfl⟩
  · have hsp : 0 < s.size := by have := hr.out; omega
    obtain ⟨K, hK⟩ : ∃ K, Hid (K = s.size - 1) := ⟨_, Lib.hid rfl⟩
    have hKl : K < s.size := by have := hK.out; omega
    have hwr : IntKind.i64.wrap ((s.size : Int) - 1) = (K : Int) := by rw [hK.out]; simp [IntKind.wrap, IntKind.bits, IntKind.signed]; omega
    obtain ⟨y, hy⟩ : ∃ y, Hid (s[K]'hKl = y) := ⟨_, Lib.hid rfl⟩
    have hgd : s.data.toList.getD (s.data.toList.length - 1) 0 = y := by
      rw [List.getD_eq_getElem?_getD, ← size_toList, ← hK.out, List.getElem?_eq_getElem (by rw [← size_toList]; omega), ← hy.out]; rfl
    have hf : filledB s.data.toList m = (y.toNat % 2 ^ (8 - r) == 0) := by
      unfold filledB; rw [hgd, ← hr.out]; simp [hz]
    have Hf := Lib.hid hf
    clear hf hgd
    have hmk := mask_u8 y (8 - r) (by omega)
    have hi0 : (0 : Int) ≤ (K : Int) := by omega
    have hi1 : (K : Int) < (s.size : Int) := by omega
    have Hy := hy.out
    rcases (by omega : r = 1 ∨ r = 2 ∨ r = 3 ∨ r = 4 ∨ r = 5 ∨ r = 6 ∨ r = 7) with rfl | rfl | rfl | rfl | rfl | rfl | rfl
    · have hmk2 : bits .and .u8 (y.toNat : Int) 127 = ((y.toNat % 128 : Nat) : Int) := hmk
      have hs0 : ((1 : Int) == 0) = false := rfl
      have Hf2 : Hid (filledB s.data.toList m = (y.toNat % 128 == 0)) := Lib.hid (by rw [Hf.out])
      clear hmk
      go_enter Tryd.func59, Tryd.ntmps59
      go_upto_region 2 with (fail)
      go_quiet (fail)
      go_wp2
      go_ret
      exact ⟨ret_bool (by rw [Hf2.out, Bool.eq_iff_iff]; simp; omega), _, rfl⟩
    · have hmk2 : bits .and .u8 (y.toNat : Int) 63 = ((y.toNat % 64 : Nat) : Int) := hmk
      have hs0 : ((2 : Int) == 0) = false := rfl
      have Hf2 : Hid (filledB s.data.toList m = (y.toNat % 64 == 0)) := Lib.hid (by rw [Hf.out])
      clear hmk
      go_enter Tryd.func59, Tryd.ntmps59
      go_upto_region 2 with (fail)
      go_quiet (fail)
      go_wp2
      go_ret
      exact ⟨ret_bool (by rw [Hf2.out, Bool.eq_iff_iff]; simp; omega), _, rfl⟩
    · have hmk2 : bits .and .u8 (y.toNat : Int) 31 = ((y.toNat % 32 : Nat) : Int) := hmk
      have hs0 : ((3 : Int) == 0) = false := rfl
      have Hf2 : Hid (filledB s.data.toList m = (y.toNat % 32 == 0)) := Lib.hid (by rw [Hf.out])
      clear hmk
      go_enter Tryd.func59, Tryd.ntmps59
      go_upto_region 2 with (fail)
      go_quiet (fail)
      go_wp2
      go_ret
      exact ⟨ret_bool (by rw [Hf2.out, Bool.eq_iff_iff]; simp; omega), _, rfl⟩
    · have hmk2 : bits .and .u8 (y.toNat : Int) 15 = ((y.toNat % 16 : Nat) : Int) := hmk
      have hs0 : ((4 : Int) == 0) = false := rfl
      have Hf2 : Hid (filledB s.data.toList m = (y.toNat % 16 == 0)) := Lib.hid (by rw [Hf.out])
      clear hmk
      go_enter Tryd.func59, Tryd.ntmps59
      go_upto_region 2 with (fail)
      go_quiet (fail)
      go_wp2
      go_ret
      exact ⟨ret_bool (by rw [Hf2.out, Bool.eq_iff_iff]; simp; omega), _, rfl⟩
    · have hmk2 : bits .and .u8 (y.toNat : Int) 7 = ((y.toNat % 8 : Nat) : Int) := hmk
      have hs0 : ((5 : Int) == 0) = false := rfl
      have Hf2 : Hid (filledB s.data.toList m = (y.toNat % 8 == 0)) := Lib.hid (by rw [Hf.out])
      clear hmk
      go_enter Tryd.func59, Tryd.ntmps59
      go_upto_region 2 with (fail)
      go_quiet (fail)
      go_wp2
      go_ret
      exact ⟨ret_bool (by rw [Hf2.out, Bool.eq_iff_iff]; simp; omega), _, rfl⟩
    · have hmk2 : bits .and .u8 (y.toNat : Int) 3 = ((y.toNat % 4 : Nat) : Int) := hmk
      have hs0 : ((6 : Int) == 0) = false := rfl
      have Hf2 : Hid (filledB s.data.toList m = (y.toNat % 4 == 0)) := Lib.hid (by rw [Hf.out])
      clear hmk
      go_enter Tryd.func59, Tryd.ntmps59
      go_upto_region 2 with (fail)
      go_quiet (fail)
      go_wp2
      go_ret
      exact ⟨ret_bool (by rw [Hf2.out, Bool.eq_iff_iff]; simp; omega), _, rfl⟩
    · have hmk2 : bits .and .u8 (y.toNat : Int) 1 = ((y.toNat % 2 : Nat) : Int) := hmk
      have hs0 : ((7 : Int) == 0) = false := rfl
      have Hf2 : Hid (filledB s.data.toList m = (y.toNat % 2 == 0)) := Lib.hid (by rw [Hf.out])
      clear hmk
      go_enter Tryd.func59, Tryd.ntmps59
      go_upto_region 2 with (fail)
      go_quiet (fail)
      go_wp2
      go_ret
      exact ⟨ret_bool (by rw [Hf2.out, Bool.eq_iff_iff]; simp; omega), _, rfl⟩

/-- A reader, a coder of times and one of patterns, apart, above a line. -/
structure D3 (w : World) (B p ct cx : Nat) (s : St) (x : XS) (R : List Bool) : Prop where
  ci : CInv w ct s
  ki : KInv w cx x
  rd : DR w p R
  ap : ct ≠ cx ∧ ct ≠ p ∧ cx ≠ p
  bb : B ≤ p ∧ B ≤ ct ∧ B ≤ cx
  tab : Tab w
  b0 : 0 < B
def F3 (p ct cx : Nat) : Nat → Prop := fun k => k = p ∨ k = ct ∨ k = cx
theorem D3.keep {F : Nat → Prop} {w w' : World} {B p ct cx : Nat} {s : St} {x : XS} {R : List Bool} (h : D3 w B p ct cx s x R) (hc : Chg F w w') (hf : ∀ k, F3 p ct cx k → ¬ F k) (h0 : ¬ F 0) : D3 w' B p ct cx s x R :=
  ⟨h.ci.keep hc (hf _ (.inr (.inl rfl))), h.ki.keep hc (hf _ (.inr (.inr rfl))), h.rd.keep hc (hf _ (.inl rfl)), h.ap, h.bb, h.tab.keep hc h0, h.b0⟩

structure TgD (w : World) (B p ct cx : Nat) (s : St) (x : XS) (R : List Bool) (y : Ending) (w' : World) : Prop where
  ex : ∃ (t : Int) (ok : Bool), y = .returned (.tuple #[.int .i64 t, .bool ok]) ∧ Chg (F3 p ct cx) w w' ∧
      (ok = true → ∃ n, getT s R = some (t, n) ∧ D3 w' B p ct cx (s.next t) x (R.drop n)) ∧ (ok = false → getT s R = none)
theorem tget_d3 (w : World) (B p ct cx : Nat) (s : St) (x : XS) (R : List Bool) (h : D3 w B p ct cx s x R) :
    Calls Tryd.prog 58 #[.pointer (some ⟨ct, 0, none⟩), .pointer (some ⟨p, 0, none⟩)] w (TgD w B p ct cx s x R) := by
  obtain ⟨a1, a2, a3⟩ := h.ap
  obtain ⟨b1, b2, b3⟩ := h.bb
  have b0 := h.b0
  refine (tget_any w ct p s R h.ci h.rd a2).mono ?_
  rintro y w' ⟨t, ok, R', rfl, g1, g2, g3, g4, g5⟩
  refine ⟨t, ok, rfl, g3.mono (fun _ _ e => by rcases e with e | e <;> simp [F3, e]), fun ho => ?_, fun ho => (g5 ho).1⟩
  obtain ⟨n, e1, e2, e3⟩ := g4 ho
  exact ⟨n, e1, e3, h.ki.keep g3 (by omega), by rw [← e2]; exact g1, h.ap, h.bb, h.tab.keep g3 (by omega), h.b0⟩

structure VgD (w : World) (B p ct cx : Nat) (s : St) (x : XS) (R : List Bool) (y : Ending) (w' : World) : Prop where
  ex : ∃ (v : Nat) (ok : Bool), y = .returned (.tuple #[.int .u64 (v : Nat), .bool ok]) ∧ Chg (F3 p ct cx) w w' ∧
      (ok = true → ∃ n, getV x R = some (v, n) ∧ D3 w' B p ct cx s (x.next v) (R.drop n)) ∧ (ok = false → getV x R = none)
theorem vget_d3 (w : World) (B p ct cx : Nat) (s : St) (x : XS) (R : List Bool) (h : D3 w B p ct cx s x R) :
    Calls Tryd.prog 21 #[.pointer (some ⟨cx, 0, none⟩), .pointer (some ⟨p, 0, none⟩)] w (VgD w B p ct cx s x R) := by
  obtain ⟨a1, a2, a3⟩ := h.ap
  obtain ⟨b1, b2, b3⟩ := h.bb
  have b0 := h.b0
  refine (vget_any w cx p x R h.tab (by omega) (by omega) h.ki h.rd a3).mono ?_
  rintro y w' ⟨v, ok, R', rfl, g1, g2, g3, g4, g5⟩
  refine ⟨v, ok, rfl, g3.mono (fun _ _ e => by rcases e with e | e <;> simp [F3, e]), fun ho => ?_, fun ho => (g5 ho).1⟩
  obtain ⟨n, e1, e2, e3⟩ := g4 ho
  exact ⟨n, e1, h.ci.keep g3 (by omega), e3, by rw [← e2]; exact g1, h.ap, h.bb, h.tab.keep g3 (by omega), h.b0⟩

namespace Ck
theorem decP_err (l : List UInt8) (n m e : Nat) (he : e ≠ 0) (h : (readP n St.zero XS.zero none ((bitsT l).take m)).1 = e) : decP l n m = (e, []) := by
  unfold decP
  rw [h, if_neg he]
theorem readP_t (k : Nat) (s : St) (x : XS) (last : Option Int) (R : List Bool) (h : getT s R = none) : readP (k + 1) s x last R = (3, [], R) := by
  simp only [readP]; rw [h]
theorem readP_v (k : Nat) (s : St) (x : XS) (last : Option Int) (R : List Bool) (t : Int) (a : Nat) (h : getT s R = some (t, a)) (hv : getV x (R.drop a) = none) : readP (k + 1) s x last R = (3, [], R) := by
  simp only [readP]; rw [h]; simp only; rw [hv]
theorem readP_o (k : Nat) (s : St) (x : XS) (last : Option Int) (R : List Bool) (t : Int) (a v b : Nat) (h : getT s R = some (t, a)) (hv : getV x (R.drop a) = some (v, b)) (ha : above last t = false) : readP (k + 1) s x last R = (9, [], R) := by
  simp only [readP]; rw [h]; simp only; rw [hv]; simp only; rw [ha]; rfl
theorem readP_s (k : Nat) (s : St) (x : XS) (last : Option Int) (R : List Bool) (t : Int) (a v b : Nat) (h : getT s R = some (t, a)) (hv : getV x (R.drop a) = some (v, b)) (ha : above last t = true) :
    readP (k + 1) s x last R = ((readP k (s.next t) (x.next v) (some t) ((R.drop a).drop b)).1, (t, v) :: (readP k (s.next t) (x.next v) (some t) ((R.drop a).drop b)).2.1, (readP k (s.next t) (x.next v) (some t) ((R.drop a).drop b)).2.2) := by
  simp only [readP]; rw [h]; simp only; rw [hv]; simp only; rw [if_pos ha]
end Ck

structure PtOut (w : World) (r : Nat × List (Int × Nat)) (y : Ending) (w' : World) : Prop where
  ex : ∃ v, y = .returned (.tuple #[v, .int .i64 (r.1 : Nat)]) ∧ w'.ownsRow 0 63 2 v r.2.length (cellsP (ptZ r.2)) ∧ (∀ g, v.ownBlock = some g → w.heap.size ≤ g) ∧ Below w.heap.size w w'
theorem PtOut.err {w w' : World} {r : Nat × List (Int × Nat)} (e : Nat) (hr : r = (e, [])) (hb : Below w.heap.size w w') : PtOut w r (.returned (.tuple #[.slice none 0 0, .int .i64 (e : Nat)])) w' := by
  subst hr
  exact ⟨_, rfl, World.ownsRow_nil _ _ _ _, fun g hg => by simp [Value.ownBlock] at hg, hb⟩

theorem points_step {w w5 w6 : World} {p ct cx : Nat} {S : St} {X : XS} {R : List Bool} {v1 v2 : Value} {o : Obj} (hbel : Below w.heap.size w w5) (hD : D3 w5 w.heap.size p ct cx S X R) (hfr : ∀ g, v1.ownBlock = some g → w.heap.size ≤ g ∧ ¬ F3 p ct cx g)
    (hgr : (w5.alloc o).grownBy w6 v1.ownBlock) (hbk : v2.ownBlock = v1.ownBlock ∨ v2.ownBlock = some (w5.alloc o).heap.size) (hs : (w5.alloc o).heap.size = w5.heap.size + 1) :
    D3 w6 w.heap.size p ct cx S X R ∧ (∀ g, v2.ownBlock = some g → w.heap.size ≤ g ∧ ¬ F3 p ct cx g) ∧ Below w.heap.size w w6 := by
  have hb1 := hbel.size
  have hch : Chg (fun k => v1.ownBlock = some k) w5 w6 := (Chg.alloc (fun k => v1.ownBlock = some k) w5 o).trans (Chg.grown hgr) (fun _ _ x => x.symm)
  have b0 := hD.b0
  have e1 : ct < w5.heap.size := World.block_lt_of_cell? w5 _ hD.ci.c0
  have e2 := hD.ki.lt
  have e3 := hD.rd.lt
  refine ⟨hD.keep hch (fun k hk hf => (hfr k hf).2 hk) (fun hf => by have := (hfr 0 hf).1; omega), fun g hg => ?_, hbel.trans (hch.below hb1 (fun k hk hf => by have := (hfr k hf).1; omega))⟩
  rcases hbk with h | h
  · exact hfr g (by rw [← h]; exact hg)
  · rw [h] at hg
    have := Option.some.inj hg
    refine ⟨by omega, fun hf => ?_⟩
    rcases hf with e | e | e <;> omega

set_option maxRecDepth 100000 in
set_option maxHeartbeats 4000000 in
theorem points_any (s : ByteArray) (n m : Nat) (hn : n ≤ 64) (hs : s.size ≤ 17592186044416) (hm : m ≤ 8 * s.size) (h0 : m % 8 = 0 ∨ 0 < s.size) (w : World) (hT : Tab w) :
    Calls Tryd.prog 50 #[.string s, .int .i64 (n : Nat), .int .i64 (m : Nat)] w (PtOut w (decP s.data.toList n m)) := by
  obtain ⟨i0, hi, hz0, hz1, hz2⟩ := info_parts ptinfo
  go_enter Tryd.func50, Tryd.ntmps50
  go_upto_region 2 with (first
    | (go_at_call 19; refine (newreader_any _ s m m (by omega) (by omega)).mono ?_; rintro e w1 ⟨rfl, hw1, hb1⟩)
    | (go_at_call 44; refine (timesnew_any _).mono ?_; rintro e w2 ⟨rfl, hc2, hb2⟩)
    | (go_at_call 12; refine (xornew_any _).mono ?_; rintro e w3 ⟨rfl, hc3, hb3⟩))
  have hl1 : w.heap.size < w1.heap.size := World.block_lt_of_cell? w1 _ hw1.c0
  have hl2 : w1.heap.size < w2.heap.size := World.block_lt_of_cell? w2 _ hc2.c0
  have hbel0 : Below w.heap.size w w3 := below_tr (below_tr hb1 hb2) hb3
  obtain ⟨R0, hR0⟩ : ∃ R, Hid (R = (bitsT s.data.toList).take m) := ⟨_, Lib.hid rfl⟩
  have hD1 : DR w1 w.heap.size R0 := ⟨s, 0, m, hw1, Nat.zero_le _, hm, hs, by rw [hR0.out, List.drop_zero]⟩
  obtain ⟨p, hp⟩ : ∃ p, Hid (p = w.heap.size) := ⟨_, Lib.hid rfl⟩
  obtain ⟨ct, hct⟩ : ∃ p, Hid (p = w1.heap.size) := ⟨_, Lib.hid rfl⟩
  obtain ⟨cx, hcx⟩ : ∃ p, Hid (p = w2.heap.size) := ⟨_, Lib.hid rfl⟩
  have hE1 : D3 w3 w.heap.size p ct cx St.zero XS.zero R0 := by
    rw [hp.out, hct.out, hcx.out]
    exact ⟨hc2.keep (Chg.of_below (fun _ => False) hb3) (fun x => x), hc3, (hD1.keep (Chg.of_below (fun _ => False) hb2) (fun x => x)).keep (Chg.of_below (fun _ => False) hb3) (fun x => x), ⟨by omega, by omega, by omega⟩, ⟨by omega, by omega, by omega⟩, hT.below hbel0 hT.pos, hT.pos⟩
  rw [← hct.out, ← hcx.out, ← hp.out]
  clear hb1 hb2 hb3 hw1 hc2 hc3 hl1 hl2 hD1
  go_wp2
  go_loopw [11, 22] (fun v11 i wr => ∃ (j : Nat) (S : St) (X : XS) (last : Option Int) (R : List Bool) (acc : List (Int × Nat)), j ≤ n ∧ i = .int .i64 j ∧ D3 wr w.heap.size p ct cx S X R ∧ wr.ownsRow 0 63 2 v11 j (cellsP (ptZ acc)) ∧
      Hid (∀ g, v11.ownBlock = some g → w.heap.size ≤ g ∧ ¬ F3 p ct cx g) ∧ Hid (acc.length = j) ∧ Hid (last = acc.getLast?.map (fun a => a.1)) ∧
      Hid (readP n St.zero XS.zero none R0 = ((readP (n - j) S X last R).1, acc ++ (readP (n - j) S X last R).2.1, (readP (n - j) S X last R).2.2)) ∧ Below w.heap.size w wr) (fun _ i _ => n - (intOf i).toNat)
  case atStart => exact ⟨0, _, _, none, R0, [], by omega, rfl, hE1, World.ownsRow_nil _ _ _ _, Lib.hid fun g hg => by simp [Value.ownBlock] at hg, Lib.hid rfl, Lib.hid rfl, Lib.hid (by simp), hbel0⟩
  case round =>
    obtain ⟨j, S, X, last, R, acc, hj, rfl, hD, hown, hfr, hal, hla, hrd, hbel⟩ := hrel
    clear hE1 hbel0
    have hBw := hbel.size
    by_cases hlt : j < n
    · have hji : (j : Int) < (n : Int) := by omega
      go_upto_region 7 with (go_at_call 58; refine (tget_d3 wr _ _ _ _ _ _ _ hD).mono ?_; rintro y w4 ⟨t, ok, rfl, hc4, hy4, hn4⟩)
      obtain ⟨k, hk⟩ : ∃ k, Hid (n - j = k + 1) := ⟨n - j - 1, Lib.hid (by omega)⟩
      have hbel4 : Below w.heap.size w w4 := hbel.trans (hc4.below hBw (fun k hk hf => by have := hD.bb; rcases hf with e | e | e <;> omega))
      cases ok with
      | false =>
        have hfin : decP s.data.toList n m = (3, []) := by
          refine decP_err _ _ _ 3 (by decide) ?_
          rw [← hR0.out, hrd.out, hk.out, readP_t _ _ _ _ _ (hn4 rfl)]
        have Hfin := Lib.hid hfin
        clear hfin hy4 hn4
        go_wp2
        go_ret2
        exact PtOut.err 3 Hfin.out hbel4
      | true =>
        obtain ⟨na, ha, hD4⟩ := hy4 rfl
        have Ha := Lib.hid ha
        clear ha hy4 hn4
        have hown4 := hc4.owns hown (fun g hg hf => (hfr.out g hg).2 hf)
        go_upto_region 10 with (go_at_call 21; refine (vget_d3 w4 _ _ _ _ _ _ _ hD4).mono ?_; rintro y w5 ⟨v, ok2, rfl, hc5, hy5, hn5⟩)
        have hbel5 : Below w.heap.size w w5 := hbel4.trans (hc5.below hbel4.size (fun k hk hf => by have := hD.bb; rcases hf with e | e | e <;> omega))
        have hown5 := hc5.owns hown4 (fun g hg hf => (hfr.out g hg).2 hf)
        cases ok2 with
        | false =>
          have hfin : decP s.data.toList n m = (3, []) := by
            refine decP_err _ _ _ 3 (by decide) ?_
            rw [← hR0.out, hrd.out, hk.out, readP_v _ _ _ _ _ _ _ Ha.out (hn5 rfl)]
          have Hfin := Lib.hid hfin
          clear hfin hy5 hn5
          go_wp2
          go_ret2
          exact PtOut.err 3 Hfin.out hbel5
        | true =>
          obtain ⟨nb, hb, hD5⟩ := hy5 rfl
          have Hb := Lib.hid hb
          clear hb hy5 hn5 hc4 hc5 hD hD4 hown hown4 hbel hbel4
          have hord : ∀ b, above last t = b → (decide (0 < j) = false ∧ b = true) ∨ ∃ i u y, j = i + 1 ∧ acc[i]? = some (u, y) ∧ b = decide (u < t) := by
            intro b hb
            rcases Nat.eq_zero_or_pos j with h | h
            · left
              have hnil : acc = [] := List.length_eq_zero_iff.mp (by rw [hal.out]; exact h)
              refine ⟨by simp [h], ?_⟩
              rw [← hb, hla.out, hnil]; rfl
            · right
              have hlt2 : j - 1 < acc.length := by rw [hal.out]; omega
              refine ⟨j - 1, (acc[j - 1]'hlt2).1, (acc[j - 1]'hlt2).2, by omega, List.getElem?_eq_getElem hlt2, ?_⟩
              rw [← hb, hla.out, List.getLast?_eq_getElem?, hal.out, List.getElem?_eq_getElem hlt2]; rfl
          have h63 : j + 1 ≤ maxLen := by unfold maxLen; omega
          have hby : (j + 1) * 16 ≤ 140737488355328 := by omega
          cases ha : above last t with
          | false =>
            rcases hord false ha with ⟨_, h⟩ | ⟨i, u, y, rfl, hacc, hut⟩
            · cases h
            have hle : t ≤ u := by simpa using hut.symm
            have hfin : decP s.data.toList n m = (9, []) := by
              refine decP_err _ _ _ 9 (by decide) ?_
              rw [← hR0.out, hrd.out, hk.out, readP_o _ _ _ _ _ _ _ _ _ Ha.out Hb.out ha]
            have Hfin := Lib.hid hfin
            obtain ⟨g, cap, rfl, _, _, _⟩ := owns_form hown5 (by omega)
            have hcell := (pairs_own hown5 i (u, (y : Int)) (ptZ_get hacc)).1
            rw [show 0 + 2 * i = i * 2 from by omega] at hcell
            simp only at hcell
            have hk0 : ((i + 1 : Nat) : Int) - 1 = (i : Int) := by omega
            have hil : (i : Int) < ((i + 1 : Nat) : Int) := by omega
            have hk1 : decide (0 < i + 1) = true := by simp
            clear hord hfin hut hacc ha
            go_wp2
            go_ret2
            exact PtOut.err 9 Hfin.out hbel5
          | true =>
            rcases hord true ha with ⟨hd0, _⟩ | ⟨i, u, y, rfl, hacc, hut⟩
            · clear hord
              go_upto_region 15 with (at_builtin; refine wpList_append_fp rfl _ _ 51 rfl 0 63 i0 (.agg #[.int .i64 0, .int .u64 0]) 2 16 Tryd.underlying51 hi hz0 hz1 hz2 rfl (by decide) _ _ _ rfl (hown5.alloc _) ⟨_, 0, none⟩ 1 1 [.int .i64 t, .int .u64 (v : Nat)] rfl rfl (World.news_of_block (heap_alloc_new w5 _)) (by simp [Value.oneCell']) h63 hby (Nat.zero_le _) ?_; intro v2 w6 ho2 hgr2 _ hbk2)
              have hbk3 : v2.ownBlock = u11.ownBlock ∨ v2.ownBlock = some (w5.alloc (.cells #[.int .i64 t, .int .u64 (v : Nat)] 63)).heap.size := hbk2
              have hfin := points_step (w := w) hbel5 hD5 hfr.out hgr2 hbk3 (by simp)
              obtain ⟨hD6, hfr6, hbel6⟩ := hfin
              have hcz : cellsP (ptZ acc) ++ [.int .i64 t, .int .u64 (v : Nat)] = cellsP (ptZ (acc ++ [(t, v)])) := by
                simp [cellsP, ptZ]
              rw [hcz] at ho2
              have hal6 : Hid ((acc ++ [(t, v)]).length = j + 1) := Lib.hid (by rw [List.length_append, hal.out]; rfl)
              have hla6 : Hid (some t = (acc ++ [(t, v)]).getLast?.map (fun a => a.1)) := Lib.hid (by simp)
              have hrd6 : Hid (readP n St.zero XS.zero none R0 = ((readP (n - (j + 1)) (S.next t) (X.next v) (some t) ((R.drop na).drop nb)).1, (acc ++ [(t, v)]) ++ (readP (n - (j + 1)) (S.next t) (X.next v) (some t) ((R.drop na).drop nb)).2.1, (readP (n - (j + 1)) (S.next t) (X.next v) (some t) ((R.drop na).drop nb)).2.2)) := Lib.hid (by
                rw [hrd.out, hk.out, readP_s _ _ _ _ _ _ _ _ _ Ha.out Hb.out ha, show n - (j + 1) = k from by have := hk.out; omega]
                simp)
              clear hcz hbk2 hbk3 hgr2 hown5 hD5 hbel5
              go_wp2
              go_roundw
              case rel => exact ⟨j + 1, _, _, some t, _, _, by omega, by go_num, hD6, ho2, Lib.hid hfr6, hal6, hla6, hrd6, hbel6⟩
              case measure => simp [intOf]; omega
            · have hlt3 : u < t := by simpa using hut.symm
              obtain ⟨g, cap, rfl, _, _, _⟩ := owns_form hown5 (by omega)
              have hcell := (pairs_own hown5 i (u, (y : Int)) (ptZ_get hacc)).1
              rw [show 0 + 2 * i = i * 2 from by omega] at hcell
              simp only at hcell
              have hk0 : ((i + 1 : Nat) : Int) - 1 = (i : Int) := by omega
              have hil : (i : Int) < ((i + 1 : Nat) : Int) := by omega
              have hk1 : decide (0 < i + 1) = true := by simp
              clear hord hut hacc
              go_upto_region 15 with (at_builtin; refine wpList_append_fp rfl _ _ 51 rfl 0 63 i0 (.agg #[.int .i64 0, .int .u64 0]) 2 16 Tryd.underlying51 hi hz0 hz1 hz2 rfl (by decide) _ _ _ rfl (hown5.alloc _) ⟨_, 0, none⟩ 1 1 [.int .i64 t, .int .u64 (v : Nat)] rfl rfl (World.news_of_block (heap_alloc_new w5 _)) (by simp [Value.oneCell']) h63 hby (Nat.zero_le _) ?_; intro v2 w6 ho2 hgr2 _ hbk2)
              have hbk3 : v2.ownBlock = (Value.slice (some ⟨g, 0, none⟩) (i + 1) cap).ownBlock ∨ v2.ownBlock = some (w5.alloc (.cells #[.int .i64 t, .int .u64 (v : Nat)] 63)).heap.size := hbk2
              have hfin := points_step (w := w) hbel5 hD5 hfr.out hgr2 hbk3 (by simp)
              obtain ⟨hD6, hfr6, hbel6⟩ := hfin
              have hcz : cellsP (ptZ acc) ++ [.int .i64 t, .int .u64 (v : Nat)] = cellsP (ptZ (acc ++ [(t, v)])) := by
                simp [cellsP, ptZ]
              rw [hcz] at ho2
              have hal6 : Hid ((acc ++ [(t, v)]).length = (i + 1) + 1) := Lib.hid (by rw [List.length_append, hal.out]; rfl)
              have hla6 : Hid (some t = (acc ++ [(t, v)]).getLast?.map (fun a => a.1)) := Lib.hid (by simp)
              have hrd6 : Hid (readP n St.zero XS.zero none R0 = ((readP (n - ((i + 1) + 1)) (S.next t) (X.next v) (some t) ((R.drop na).drop nb)).1, (acc ++ [(t, v)]) ++ (readP (n - ((i + 1) + 1)) (S.next t) (X.next v) (some t) ((R.drop na).drop nb)).2.1, (readP (n - ((i + 1) + 1)) (S.next t) (X.next v) (some t) ((R.drop na).drop nb)).2.2)) := Lib.hid (by
                rw [hrd.out, hk.out, readP_s _ _ _ _ _ _ _ _ _ Ha.out Hb.out ha, show n - ((i + 1) + 1) = k from by have := hk.out; omega]
                simp)
              clear hcz hbk2 hbk3 hgr2 hown5 hD5 hbel5
              go_wp2
              go_roundw
              case rel => exact ⟨(i + 1) + 1, _, _, some t, _, _, by omega, by go_num, hD6, ho2, Lib.hid hfr6, hal6, hla6, hrd6, hbel6⟩
              case measure => simp [intOf]; omega
    · have hji : ¬ (j : Int) < (n : Int) := by omega
      have hjn : j = n := by omega
      have hr0 : readP n St.zero XS.zero none ((bitsT s.data.toList).take m) = (0, acc, R) := by
        rw [← hR0.out, hrd.out, hjn, Nat.sub_self]; simp [readP]
      have hdp : decP s.data.toList n m = if R = [] ∧ filledB s.data.toList m = true then (0, acc) else (3, []) := by
        unfold decP; rw [hr0]; simp
      have Hdp := Lib.hid hdp
      have LF := dleft wr p R hD.rd
      have FL := fun W => filled_any s m (by omega) (by omega) h0 W
      clear hdp hr0
      have hlow := hown
      rw [show j = acc.length from hal.out.symm] at hlow
      have Hlow := Lib.hid hlow
      have hfr2 := hfr.out
      clear hlow
      cases R with
      | cons b R2 =>
        have hfin : Hid (decP s.data.toList n m = (3, [])) := Lib.hid (by rw [Hdp.out, if_neg (by simp)])
        have hpos : (0 : Int) < ((b :: R2).length : Int) := by simp only [List.length_cons]; omega
        generalize (b :: R2).length = len at LF hpos
        go_wp2_with (go_at_call 24; refine LF.mono ?_; rintro e w8 ⟨rfl, m8, rfl⟩)
        go_ret2
        exact PtOut.err 3 hfin.out (below_drewN hbel _)
      | nil =>
        have LF2 : Calls Tryd.prog 24 #[.pointer (some ⟨p, 0, none⟩)] wr fun x w' => x = .returned (.int .i64 0) ∧ ∃ m, w' = wr.drewN m := LF
        cases hfl : filledB s.data.toList m with
        | false =>
          rw [hfl] at FL
          have hfin : Hid (decP s.data.toList n m = (3, [])) := Lib.hid (by rw [Hdp.out, hfl]; simp)
          clear Hdp
          go_wp2_with (first
            | (go_at_call 24; refine LF2.mono ?_; rintro e w8 ⟨rfl, m8, rfl⟩)
            | (go_at_call 59; refine (FL _).mono ?_; rintro e w9 ⟨rfl, m9, rfl⟩))
          go_ret2
          exact PtOut.err 3 hfin.out (below_drewN hbel _)
        | true =>
          rw [hfl] at FL
          have hfin : Hid (decP s.data.toList n m = (0, acc)) := Lib.hid (by rw [Hdp.out, hfl]; simp)
          clear Hdp
          go_wp2_with (first
            | (go_at_call 24; refine LF2.mono ?_; rintro e w8 ⟨rfl, m8, rfl⟩)
            | (go_at_call 59; refine (FL _).mono ?_; rintro e w9 ⟨rfl, m9, rfl⟩))
          go_ret2
          rw [hfin.out]
          exact ⟨_, rfl, (Chg.drewN (fun _ => False) _ _).owns Hlow.out (fun _ _ x => x), fun g hg => (hfr2 g hg).1, below_drewN hbel _⟩
end Go.Proofs.YtdegmeclcbndgaaDoor
