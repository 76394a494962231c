/- The law of the readers of bits. -/
import Derived.Test.YtknpcbildcbbnaaBitLaw
namespace Go.Proofs.Ytknpcbildcbbnaa
open Go.RowKit Bit

/-- What is read: the number, whether it was there, and where the reader is then. -/
def getR (B : List Bool) (a e : Nat) (n : Int) : Nat × Bool × Nat :=
  if 0 ≤ n ∧ n ≤ 64 ∧ (a : Int) + n ≤ e then (valB ((B.drop a).take n.toNat), true, a + n.toNat) else (0, false, a)

theorem getR_le (B : List Bool) (a e : Nat) (n : Int) (h : a ≤ e) : a ≤ (getR B a e n).2.2 ∧ (getR B a e n).2.2 ≤ e := by
  unfold getR; split <;> simp <;> omega

theorem rget_any (w : World) (p : Nat) (s : ByteArray) (a e : Nat) (n : Int) (h : DInv w p s a e) (ha : a ≤ e) (he : e ≤ 8 * s.size) (hs : s.size ≤ 17592186044416) :
    Calls Try.prog 20 #[.pointer (some ⟨p, 0, none⟩), .int .i64 n] w fun x w' => x = .returned (.tuple #[.int .u64 ((getR (bitsT s.data.toList) a e n).1 : Nat), .bool (getR (bitsT s.data.toList) a e n).2.1]) ∧
      DInv w' p s (getR (bitsT s.data.toList) a e n).2.2 e ∧ Chg (fun k => k = p) w w' := by
  unfold getR
  split
  · rename_i hc
    obtain ⟨m, rfl⟩ := Int.eq_ofNat_of_zero_le hc.1
    simp only [Int.toNat_natCast]
    exact rget_some w p s a e m h ha he (by omega) (by omega) (by omega)
  · rename_i hc
    refine (rget_none w p s a e n h ha (by omega) (by omega)).mono ?_
    rintro x w' ⟨rfl, m, rfl⟩
    exact ⟨rfl, h.keep (Chg.drewN (fun _ => False) _ _) (fun x => x), Chg.drewN _ _ _⟩

theorem refget_any (w : World) (p : Nat) (v : Value) (B : List Bool) (a e : Nat) (n : Int) (hB : e ≤ B.length) (h : XInv w p v ((B.take e).drop a)) (ha : a ≤ e) :
    Calls Try.prog 21 #[.pointer (some ⟨p, 0, none⟩), .int .i64 n] w fun x w' => x = .returned (.tuple #[.int .u64 ((getR B a e n).1 : Nat), .bool (getR B a e n).2.1]) ∧
      (∃ v', XInv w' p v' ((B.take e).drop (getR B a e n).2.2) ∧ v'.ownBlock = v.ownBlock) ∧ Chg (fun k => k = p) w w' := by
  have hlen : ((B.take e).drop a).length = e - a := by rw [List.length_drop, List.length_take]; omega
  unfold getR
  split
  · rename_i hc
    obtain ⟨m, rfl⟩ := Int.eq_ofNat_of_zero_le hc.1
    simp only [Int.toNat_natCast]
    have := refget_some w p v _ m h (by omega) (by rw [hlen]; omega)
    rw [List.drop_drop] at this
    have e1 : ((B.take e).drop a).take m = (B.drop a).take m := by
      rw [List.drop_take, List.take_take]; congr 1; omega
    rw [e1] at this
    exact this
  · rename_i hc
    refine (refget_none w p v _ n h (by rw [hlen]; omega)).mono ?_
    rintro x w' ⟨rfl, rfl⟩
    exact ⟨rfl, ⟨v, h, rfl⟩, Chg.refl _ _⟩

theorem left_d (w : World) (p : Nat) (s : ByteArray) (a e d : Nat) (h : DInv w p s a e) (ha : a ≤ e) (he : e ≤ 1125899906842624) (hd : e - a = d) :
    Calls Try.prog 22 #[.pointer (some ⟨p, 0, none⟩)] w fun x w' => x = .returned (.int .i64 (d : Nat)) ∧ ∃ m, w' = w.drewN m := by
  have := left_any w p s a e h ha he
  rw [show (e : Int) - a = (d : Int) from by omega] at this
  exact this

/-- Both readers, apart from each other, above a line. -/
structure BothR (w : World) (B p q : Nat) (v : Value) (s : ByteArray) (a e : Nat) : Prop where
  r1 : DInv w p s a e
  r2 : XInv w q v (((bitsT s.data.toList).take e).drop a)
  bp : B ≤ p
  bq : B ≤ q
  pq : p ≠ q
  bv : ∀ g, v.ownBlock = some g → B ≤ g ∧ g ≠ p

theorem BothR.keep {w w' : World} {B p q : Nat} {v : Value} {s : ByteArray} {a e : Nat} {F : Nat → Prop} (h : BothR w B p q v s a e) (hc : Chg F w w') (hf : ∀ k, F k → k < B) : BothR w' B p q v s a e := by
  refine ⟨h.r1.keep hc (fun hF => ?_), h.r2.keep hc ?_, h.bp, h.bq, h.pq, h.bv⟩
  · have := hf _ hF; have := h.bp; omega
  · rintro k (rfl | hk) hF
    · have := hf _ hF; have := h.bq; omega
    · have := hf _ hF; have := (h.bv k hk).1; omega

theorem BothR.mid {w w' : World} {B p q : Nat} {v : Value} {s : ByteArray} {a e : Nat} (h : BothR w B p q v s a e) (hc : Chg (fun k => k = p) w w') : XInv w' q v (((bitsT s.data.toList).take e).drop a) := by
  refine h.r2.keep hc ?_
  rintro k (rfl | hk) hF
  · exact h.pq hF.symm
  · exact (h.bv k hk).2 hF

theorem BothR.step {w w1 w2 : World} {B p q : Nat} {v v' : Value} {s : ByteArray} {a a' e : Nat} (h : BothR w B p q v s a e) (h1 : DInv w1 p s a' e) (h2 : XInv w2 q v' (((bitsT s.data.toList).take e).drop a')) (hv : v'.ownBlock = v.ownBlock)
    (hc2 : Chg (fun k => k = q) w1 w2) : BothR w2 B p q v' s a' e :=
  ⟨h1.keep hc2 h.pq, h2, h.bp, h.bq, h.pq, fun g hg => h.bv g (by rw [← hv]; exact hg)⟩

theorem xslice {w : World} {p : Nat} {v : Value} {L : List Bool} (h : XInv w p v L) : ∃ a cap, v = .slice a L.length cap := by
  rcases h.sl with ⟨rfl, rfl⟩ | ⟨g, o, cap, hv, _⟩
  · exact ⟨none, 0, rfl⟩
  · exact ⟨_, _, hv⟩

set_option maxRecDepth 100000 in
set_option maxHeartbeats 2000000 in
theorem bitsReads_walk (s : ByteArray) (n : Int) (a : Option Addr) (len cap : Nat) (zs : List Int) (_hs : s.size ≤ 140737488351232) (hn : (Lit.int .i64 n).wf = true) (hz : zs.length = len) (_hl : len * 8 ≤ 140737488351232) (w : World) (hr : RowI .i64 w a zs) :
    Calls Try.prog 4 #[.string s, .int .i64 n, .slice a len cap] w fun e w' => e = .returned (.bool true) ∧ Below w.heap.size w w' := by
  have hN := wf_i64 hn
  go_enter Try.func4, Try.ntmps4
  by_cases hbig : 2000 < (s.size : Int)
  · go_wp2
    go_ret
    exact ⟨rfl, Below.refl _ _⟩
  have hsz : s.size ≤ 2000 := by omega
  obtain ⟨e, he⟩ : ∃ e : Nat, Hid ((e : Int) = min (max n 0) (8 * s.size)) := ⟨(min (max n 0) (8 * s.size)).toNat, Lib.hid (by omega)⟩
  have heb : e ≤ 8 * s.size := by have := he.out; omega
  go_wp2_with (first
    | (go_at_call 18; refine (newreader_any _ s n e (by omega) he.out).mono ?_; rintro x w1 ⟨rfl, hw1, hb1⟩)
    | (go_at_call 19; refine (refnewreader_any _ s n hN.1 hN.2 e (by omega) he.out).mono ?_; rintro x w2 ⟨rfl, v, hw2, hv2, hb2⟩))
  have hlen : (bitsT s.data.toList).length = 8 * s.size := by rw [bitsT_length, ← size_toList]
  have hlt : w.heap.size < w1.heap.size := World.block_lt_of_cell? w1 _ hw1.c0
  go_loopw [9] (fun i wr => ∃ (j : Nat) (v : Value) (b : Nat), j ≤ 100 ∧ i = .int .i64 j ∧ BothR wr w.heap.size w.heap.size w1.heap.size v s b e ∧ b ≤ e ∧ Below w.heap.size w wr) (fun i _ => 100 - (intOf i).toNat)
  case atStart =>
    refine ⟨0, v, 0, by omega, rfl, ⟨hw1.keep (Chg.of_below (fun _ => False) hb2) (fun x => x), ?_, Nat.le_refl _, hb1.size, Nat.ne_of_lt hlt, fun g hg => ?_⟩, Nat.zero_le _, below_tr hb1 hb2⟩
    · rw [List.drop_zero]; exact XInv.of hw2
    · have := hv2 g hg; omega
  case round =>
    obtain ⟨j, v, b, hj, rfl, hB, hbe, hbel⟩ := hrel
    obtain ⟨va, vcap, rfl⟩ := xslice hB.r2
    have hvl : (((bitsT s.data.toList).take e).drop b).length = e - b := by rw [List.length_drop, List.length_take]; omega
    rw [hvl] at hB
    have hB2 := hB
    obtain ⟨d, hd⟩ : ∃ d, Hid (e - b = d) := ⟨_, Lib.hid rfl⟩
    rw [hd.out] at hB2
    have hcx := hB2.r2.c0
    have hld : ∀ W : World, Chg (fun _ => False) wr W → Calls Try.prog 22 #[.pointer (some ⟨w.heap.size, 0, none⟩)] W fun x w' => x = .returned (.int .i64 (d : Nat)) ∧ ∃ m, w' = W.drewN m :=
      fun W hW => left_d W _ s b e d (hB.r1.keep hW (fun x => x)) hbe (by omega) hd.out
    have Hld := Lib.hid hld
    clear hvl hld hB2
    by_cases hlt : j < len
    · by_cases h60 : j < 100
      · have hr2 := hr.below hbel
        rcases hr2.row with h0 | ⟨x, rfl, hc⟩
        · rw [h0] at hz; simp at hz; omega
        have hzj := List.getElem?_eq_getElem (l := zs) (i := j) (by omega)
        obtain ⟨N, hVN⟩ : ∃ z, Hid (zs[j]'(by omega) = z) := ⟨_, Lib.hid rfl⟩
        rw [hVN.out] at hzj
        have hc0 := hc j _ hzj
        have Hz := Lib.hid hzj
        clear hzj hc
        have hjl : (j : Int) < (len : Int) := by omega
        have hj6 : (j : Int) < 100 := by omega
        obtain ⟨c, hcD⟩ : ∃ c, Hid (c = (getR (bitsT s.data.toList) b e N).2.2) := ⟨_, Lib.hid rfl⟩
        have hce : b ≤ c ∧ c ≤ e := by have := getR_le (bitsT s.data.toList) b e N hbe; rw [← hcD.out] at this; exact this
        obtain ⟨Z, hZ⟩ : ∃ Z, Hid (Z = (getR (bitsT s.data.toList) b e N).1) := ⟨_, Lib.hid rfl⟩
        obtain ⟨K, hK⟩ : ∃ K, Hid (K = (getR (bitsT s.data.toList) b e N).2.1) := ⟨_, Lib.hid rfl⟩
        have G1 := rget_any wr w.heap.size s b e N hB.r1 hbe heb (by omega)
        rw [← hcD.out, ← hZ.out, ← hK.out] at G1
        have Hlen := Lib.hid hlen
        clear hlen
        go_upto_region 10 with (go_at_call 20; refine G1.mono ?_; rintro e' w3 ⟨rfl, hw3, hch3⟩)
        have hX3 := hB.mid hch3
        have hbd3 : Below w.heap.size w w3 := hbel.trans (hch3.below hbel.size (fun k hk e => by rw [e] at hk; exact Nat.lt_irrefl _ hk))
        have hr3 := hr.below hbd3
        rcases hr3.row with h0 | ⟨x', hx', hc3⟩
        · rw [h0] at hz; simp at hz; omega
        obtain rfl := Option.some.inj hx'
        have hce0 := hc3 j _ Hz.out
        clear hc3
        have G2 := refget_any w3 w1.heap.size _ (bitsT s.data.toList) b e N (by rw [Hlen.out]; exact heb) hX3 hbe
        rw [← hcD.out, ← hZ.out, ← hK.out] at G2
        go_upto_region 11 with (go_at_call 21; refine G2.mono ?_; rintro e' w5 ⟨rfl, ⟨v5, hw5, hv5⟩, hch5⟩)
        have hB5 : BothR w5 w.heap.size w.heap.size w1.heap.size v5 s c e := hB.step hw3 hw5 hv5 hch5
        have hbd5 : Below w.heap.size w w5 := hbd3.trans (hch5.below hbd3.size (fun k hk e => by have := hB.bq; omega))
        obtain ⟨va5, vcap5, rfl⟩ := xslice hB5.r2
        have hvl5 : (((bitsT s.data.toList).take e).drop c).length = e - c := by rw [List.length_drop, List.length_take]; have := Hlen.out; omega
        rw [hvl5] at hB5
        have hB6 := hB5
        obtain ⟨d', hd'⟩ : ∃ d, Hid (e - c = d) := ⟨_, Lib.hid rfl⟩
        rw [hd'.out] at hB6
        have hcx5 := hB6.r2.c0
        have hld5 : ∀ W : World, Chg (fun _ => False) w5 W → Calls Try.prog 22 #[.pointer (some ⟨w.heap.size, 0, none⟩)] W fun x w' => x = .returned (.int .i64 (d' : Nat)) ∧ ∃ m, w' = W.drewN m :=
          fun W hW => left_d W _ s c e d' (hB5.r1.keep hW (fun x => x)) hce.2 (by omega) hd'.out
        have Hld5 := Lib.hid hld5
        clear hvl5 hld5 hB6 G1 G2 hB hcx Hld
        go_quiet ((go_at_call 22; exact Calls.quiet_of (Hld5.out _ (Chg.drewN _ _ _))))
        go_wp2
        go_roundw
        case rel =>
          exact ⟨j + 1, _, c, by omega, by go_num, hB5.keep (Chg.drewN (fun _ => False) _ _) (fun _ x => x.elim), hce.2, below_drewN hbd5 _⟩
        case measure => simp [intOf]; omega
      · go_wp2
        go_quiet ((go_at_call 22; exact Calls.quiet_of (Hld.out _ (Chg.drewN _ _ _))))
        go_wp2
        go_ret
        exact ⟨rfl, below_drewN hbel _⟩
    · go_wp2
      go_quiet ((go_at_call 22; exact Calls.quiet_of (Hld.out _ (Chg.drewN _ _ _))))
      go_wp2
      go_ret
      exact ⟨rfl, below_drewN hbel _⟩
end Go.Proofs.Ytknpcbildcbbnaa
