/- The document's reader of patterns. -/
import Derived.Test.YtdegmeclcbndgaaDoorXorB
import Derived.Test.YtdegmeclcbndgaaDoorXin
namespace Go.Proofs.YtdegmeclcbndgaaDoor
open Go.RowKit Bit Tim Xo

structure GsOut (w : World) (p : Nat) (s : XS) (v : Value) (L : List Bool) (y : Ending) (w' : World) : Prop where
  ex : ∃ (X : Int) (ok : Bool) (L' : List Bool) (v' : Value), y = .returned (.tuple #[.int .u64 X, .bool ok]) ∧ XInv w' p v' L' ∧ v'.ownBlock = v.ownBlock ∧ Chg (fun k => k = p) w w' ∧
      (ok = true → ∃ x n : Nat, X = (x : Int) ∧ guess s L = some (x, n) ∧ n ≤ L.length ∧ L' = L.drop n) ∧ (ok = false → guess s L = none)

namespace Xo
theorem guess_at {s : XS} (hb : s.b = true) {L : List Bool} {d n : Nat} (h : guessD s L = some (d, n)) : guess s L = some (s.v ^^^ d, n) := by unfold guess; rw [hb, if_pos rfl, h]
theorem guess_no {s : XS} (hb : s.b = true) {L : List Bool} (h : guessD s L = none) : guess s L = none := by unfold guess; rw [hb, if_pos rfl, h]
end Xo

theorem guess_val (S V l n t d : Nat) (hl : l + n + t = 64) (hd : d = V * 2 ^ t) (hb : d < 18446744073709551616) (hS : S < 18446744073709551616) :
    bits BinOp.xor .u64 (S : Int) (IntKind.u64.wrap ((V : Int) * 2 ^ min (IntKind.u64.wrap (64 - (l : Int) - (n : Int))).toNat 64)) = ((S ^^^ d : Nat) : Int) := by
  have e1 : IntKind.u64.wrap (64 - (l : Int) - (n : Int)) = (t : Int) := by rw [IntKind.wrap_u64]; omega
  rw [e1, Int.toNat_natCast, show min t 64 = t from by omega]
  have e2 : ((V : Int) * 2 ^ t) = (d : Int) := by rw [hd]; simp
  have e3 : IntKind.u64.wrap (d : Int) = (d : Int) := by rw [IntKind.wrap_u64]; omega
  rw [e2, e3, bits_xor_u64_nat S d hS hb]

set_option maxRecDepth 100000 in
set_option maxHeartbeats 2000000 in
theorem rguess_first (w : World) (c p : Nat) (s : XS) (v : Value) (L : List Bool) (hC : JInv w c s) (h : XInv w p v L) (hb : s.b = false) :
    Calls Tryd.prog 43 #[.pointer (some ⟨c, 0, none⟩), .pointer (some ⟨p, 0, none⟩)] w (GsOut w p s v L) := by
  have c0 := (hC.row 0 _ rfl).1
  rw [hb] at c0
  by_cases h64 : 64 ≤ L.length
  · have G1 := refget_some w p v L 64 h (by omega) h64
    have hg : guess s L = some (valB (L.take 64), 64) := by unfold guess; rw [hb, if_neg (by simp), if_pos h64]
    go_enter Tryd.func43, Tryd.ntmps43
    go_wp2_with (go_at_call 53; refine G1.mono ?_; rintro y w1 ⟨rfl, ⟨v1, h1, hv1⟩, hc1⟩)
    go_ret2
    exact ⟨_, true, _, v1, rfl, h1, hv1, hc1, fun _ => ⟨_, 64, rfl, hg, h64, rfl⟩, by simp⟩
  · have G1 := refget_none w p v L 64 h (by omega)
    have hg : guess s L = none := by unfold guess; rw [hb, if_neg (by simp), if_neg h64]
    go_enter Tryd.func43, Tryd.ntmps43
    go_wp2_with (go_at_call 53; refine G1.mono ?_; rintro y w1 ⟨rfl, rfl⟩)
    go_ret2
    exact ⟨_, false, L, v, rfl, h, rfl, Chg.refl _ _, by simp, fun _ => hg⟩

set_option maxRecDepth 100000 in
set_option maxHeartbeats 2000000 in
theorem rguess_zero (w : World) (c p : Nat) (s : XS) (v : Value) (L : List Bool) (hC : JInv w c s) (h : XInv w p v L) (hcp : c ≠ p) (hb : s.b = true) (hR : ∀ R1, L ≠ true :: R1) :
    Calls Tryd.prog 43 #[.pointer (some ⟨c, 0, none⟩), .pointer (some ⟨p, 0, none⟩)] w (GsOut w p s v L) := by
  have c0 := (hC.row 0 _ rfl).1
  have c1 := (hC.row 1 _ rfl).1
  rw [hb] at c0
  match L, h, hR with
  | [], h, _ =>
    have G1 := refget_none w p v [] 1 h (by simp)
    have hg : guess s [] = none := guess_no hb rfl
    go_enter Tryd.func43, Tryd.ntmps43
    go_wp2_with (go_at_call 53; refine G1.mono ?_; rintro y w1 ⟨rfl, rfl⟩)
    go_ret2
    exact ⟨_, false, [], v, rfl, h, rfl, Chg.refl _ _, by simp, fun _ => hg⟩
  | false :: R1, h, _ =>
    have G1 := refget_some w p v (false :: R1) 1 h (by omega) (by simp)
    have hv : valB (List.take 1 (false :: R1)) = 0 := rfl
    rw [hv] at G1
    have hg : guess s (false :: R1) = some (s.v, 1) := by rw [guess_at (d := 0) (n := 1) hb rfl, Nat.xor_zero]
    go_enter Tryd.func43, Tryd.ntmps43
    go_upto_region 4 with (go_at_call 53; refine G1.mono ?_; rintro y w1 ⟨rfl, ⟨v1, h1, hv1⟩, hc1⟩)
    have d1 := ((hC.keep hc1 hcp).row 1 _ rfl).1
    go_wp2
    go_ret2
    exact ⟨_, true, _, v1, rfl, h1, hv1, hc1, fun _ => ⟨_, 1, rfl, hg, by simp, rfl⟩, by simp⟩
  | true :: R1, _, hR => exact absurd rfl (hR R1)

set_option maxRecDepth 100000 in
set_option maxHeartbeats 2000000 in
theorem rguess_in (w : World) (c p : Nat) (s : XS) (v : Value) (L : List Bool) (hC : JInv w c s) (h : XInv w p v (true :: L)) (hcp : c ≠ p) (hb : s.b = true) (hL : L = [] ∨ ∃ R, L = false :: R) :
    Calls Tryd.prog 43 #[.pointer (some ⟨c, 0, none⟩), .pointer (some ⟨p, 0, none⟩)] w (GsOut w p s v (true :: L)) := by
  have c0 := (hC.row 0 _ rfl).1
  rw [hb] at c0
  have G1 := refget_some w p v (true :: L) 1 h (by omega) (by simp)
  have hv : valB (List.take 1 (true :: L)) = 1 := rfl
  rw [hv] at G1
  rcases hL with rfl | ⟨R, rfl⟩
  · have G2 := fun W v1 hW => refget_none W p v1 [] 1 hW (by simp)
    have hg : guess s [true] = none := guess_no hb rfl
    go_enter Tryd.func43, Tryd.ntmps43
    go_upto_region 4 with (go_at_call 53; refine G1.mono ?_; rintro y w1 ⟨rfl, ⟨v1, h1, hv1⟩, hc1⟩)
    go_wp2_with (go_at_call 53; refine (G2 _ _ h1).mono ?_; rintro y w2 ⟨rfl, rfl⟩)
    go_ret2
    exact ⟨_, false, _, v1, rfl, h1, hv1, hc1, by simp, fun _ => hg⟩
  · have G2 := fun W v1 hW => refget_some W p v1 (false :: R) 1 hW (by omega) (by simp)
    have hv2 : valB (List.take 1 (false :: R)) = 0 := rfl
    rw [hv2] at G2
    go_enter Tryd.func43, Tryd.ntmps43
    go_upto_region 4 with (go_at_call 53; refine G1.mono ?_; rintro y w1 ⟨rfl, ⟨v1, h1, hv1⟩, hc1⟩)
    go_upto_region 7 with (go_at_call 53; refine (G2 _ _ h1).mono ?_; rintro y w2 ⟨rfl, ⟨v2, h2, hv2⟩, hc2⟩)
    have hC2 := (hC.keep hc1 hcp).keep hc2 hcp
    have hch := hc1.trans hc2 (fun _ _ x => x)
    have hvo : v2.ownBlock = v.ownBlock := by rw [hv2, hv1]
    have Hvo := Lib.hid hvo
    clear G1 G2 hv hv1 hv2 hvo h1 hc1 hc2 c0
    have ok := hC2.ok
    have c1 := (hC2.row 1 _ rfl).1
    have c2 := (hC2.row 2 _ rfl).1
    have c3 := (hC2.row 3 _ rfl).1
    have c4 := (hC2.row 4 _ rfl).1
    cases hs : s.is with
    | false =>
      rw [hs] at c2
      have hg : guess s (true :: false :: R) = none := guess_no hb (by simp [guessD, hs])
      go_wp2
      go_ret2
      exact ⟨_, false, _, v2, rfl, h2, Hvo.out, hch, by simp, fun _ => hg⟩
    | true =>
      rw [hs] at c2
      have hl0 : (s.l : Int) ≤ 63 := by have := ok.2.1; omega
      have ht0 : (s.t : Int) ≤ 63 := by have := ok.2.1; omega
      have hlt : (s.l : Int) + (s.t : Int) ≤ 63 := by have := ok.2.1; omega
      have hw1 : IntKind.u64.wrap (s.l : Int) = (s.l : Int) := by rw [IntKind.wrap_u64]; omega
      have hw2 : IntKind.u64.wrap (64 - (s.l : Int) - (s.t : Int)) = ((64 - s.l - s.t : Nat) : Int) := by rw [IntKind.wrap_u64]; omega
      obtain ⟨n, hn⟩ : ∃ n, Hid (n = 64 - s.l - s.t) := ⟨_, Lib.hid rfl⟩
      rw [← hn.out] at hw2
      have hn1 : (1 : Int) ≤ (n : Int) ∧ (n : Int) ≤ 64 := by have := hn.out; omega
      obtain ⟨hn1, hn2⟩ := hn1
      go_upto_region 9 with (fail)
      go_quiet (fail)
      by_cases hR : n ≤ R.length
      · have G3 := fun W hW => refget_some W p v2 R n hW (by omega) hR
        go_upto_region 18 with (go_at_call 53; refine (G3 _ (h2.keep (Chg.drewN (fun _ => False) _ _) (fun _ _ x => x))).mono ?_; rintro y w3 ⟨rfl, ⟨v3, h3, hv3⟩, hc3⟩)
        have hC3 := (hC2.keep (Chg.drewN (fun _ => False) _ _) (fun x => x)).keep hc3 hcp
        have hch3 := (hch.trans (Chg.drewN (fun _ => False) _ _) (fun _ _ x => x.elim)).trans hc3 (fun _ _ x => x)
        have hvo : v3.ownBlock = v.ownBlock := by rw [hv3, Hvo.out]
        have Hvo3 := Lib.hid hvo
        clear hvo hv3 hc3 hC2 h2 G3 c1 c2 c3 c4
        have c1 := (hC3.row 1 _ rfl).1
        have hbd := in_bound s ok R (by rw [← hn.out]; exact hR)
        rw [← hn.out] at hbd
        have hgd : guessD s (true :: false :: R) = some (valB (R.take n) * 2 ^ s.t, 2 + n) := by
          simp only [guessD]; rw [← hn.out, if_pos ⟨hs, hR⟩]
        have Hg := Lib.hid (guess_at hb hgd)
        have Hx := Lib.hid (guess_val s.v (valB (R.take n)) s.l n s.t _ (by have := hn.out; have := ok.2.1; omega) rfl hbd ok.1)
        clear hbd hgd
        go_wp2
        go_ret2
        exact ⟨_, true, _, v3, rfl, h3, Hvo3.out, hch3, fun _ => ⟨_, _, Hx.out, Hg.out, by simp only [List.length_cons]; omega, by rw [Nat.add_comm]; rfl⟩, by simp⟩
      · have G3 := fun W hW => refget_none W p v2 R n hW (by omega)
        have hgd : guessD s (true :: false :: R) = none := by
          simp only [guessD]; rw [← hn.out, if_neg (fun x => hR x.2)]
        have Hg := Lib.hid (guess_no hb hgd)
        clear hgd
        go_upto_region 18 with (go_at_call 53; refine (G3 _ (h2.keep (Chg.drewN (fun _ => False) _ _) (fun _ _ x => x))).mono ?_; rintro y w3 ⟨rfl, rfl⟩)
        go_wp2
        go_ret2
        exact ⟨_, false, _, v2, rfl, h2.keep (Chg.drewN (fun _ => False) _ _) (fun _ _ x => x), Hvo.out, hch.trans (Chg.drewN (fun _ => False) _ _) (fun _ _ x => x.elim), by simp, fun _ => Hg.out⟩

set_option maxRecDepth 100000 in
set_option maxHeartbeats 2000000 in
theorem rguess_new (w : World) (c p : Nat) (s : XS) (v : Value) (R : List Bool) (hC : JInv w c s) (h : XInv w p v (true :: true :: R)) (hcp : c ≠ p) (hb : s.b = true) :
    Calls Tryd.prog 43 #[.pointer (some ⟨c, 0, none⟩), .pointer (some ⟨p, 0, none⟩)] w (GsOut w p s v (true :: true :: R)) := by
  have c0 := (hC.row 0 _ rfl).1
  rw [hb] at c0
  have G1 := refget_some w p v (true :: true :: R) 1 h (by omega) (by simp)
  have hv : valB (List.take 1 (true :: true :: R)) = 1 := rfl
  rw [hv] at G1
  have G2 := fun W v1 hW => refget_some W p v1 (true :: R) 1 hW (by omega) (by simp)
  have hv2 : valB (List.take 1 (true :: R)) = 1 := rfl
  rw [hv2] at G2
  go_enter Tryd.func43, Tryd.ntmps43
  go_upto_region 4 with (go_at_call 53; refine G1.mono ?_; rintro y w1 ⟨rfl, ⟨v1, h1, hv1⟩, hc1⟩)
  go_upto_region 7 with (go_at_call 53; refine (G2 _ _ h1).mono ?_; rintro y w2 ⟨rfl, ⟨v2, h2, hv2⟩, hc2⟩)
  have hC2 := (hC.keep hc1 hcp).keep hc2 hcp
  have hch := hc1.trans hc2 (fun _ _ x => x)
  have hvo : v2.ownBlock = v.ownBlock := by rw [hv2, hv1]
  have Hvo := Lib.hid hvo
  clear G1 G2 hv hv1 hv2 hvo h1 hc1 hc2 c0
  have ok := hC2.ok
  have c3 := (hC2.row 3 _ rfl).1
  have c4 := (hC2.row 4 _ rfl).1
  have hl0 : (s.l : Int) ≤ 63 := by have := ok.2.1; omega
  have ht0 : (s.t : Int) ≤ 63 := by have := ok.2.1; omega
  have hw1 : IntKind.u64.wrap (s.l : Int) = (s.l : Int) := by rw [IntKind.wrap_u64]; omega
  obtain ⟨n0, hn0⟩ : ∃ n, Hid (n = 64 - s.l - s.t) := ⟨_, Lib.hid rfl⟩
  have hw2 : IntKind.u64.wrap (64 - (s.l : Int) - (s.t : Int)) = (n0 : Int) := by have := ok.2.1; rw [IntKind.wrap_u64, hn0.out]; omega
  have h3 : XInv w2 p v2 R := h2
  clear h2
  go_upto_region 9 with (fail)
  go_quiet (fail)
  have h4 := h3.keep (Chg.drewN (fun _ => False) w2 nq) (fun _ _ x => x)
  have hC4 := hC2.keep (Chg.drewN (fun _ => False) w2 nq) (fun x => x)
  have hch4 := hch.trans (Chg.drewN (fun _ => False) w2 nq) (fun _ _ x => x.elim)
  clear h3 hC2 hch c3 c4
  generalize w2.drewN nq = w4 at h4 hC4 hch4 ⊢
  by_cases h5 : 5 ≤ R.length
  · have hP := valB_lt (R.take 5)
    have hl5 : (R.take 5).length = 5 := by rw [List.length_take]; omega
    rw [hl5] at hP
    have G3 := fun W hW => refget_some W p v2 R 5 hW (by omega) h5
    obtain ⟨P, hPe⟩ : ∃ P, Hid (P = valB (R.take 5)) := ⟨_, Lib.hid rfl⟩
    rw [← hPe.out] at hP G3
    have hP32 : P < 32 := hP
    by_cases h11 : 11 ≤ R.length
    · have hQ := valB_lt ((R.drop 5).take 6)
      have hl6 : ((R.drop 5).take 6).length = 6 := by rw [List.length_take, List.length_drop]; omega
      rw [hl6] at hQ
      obtain ⟨Q, hQe⟩ : ∃ Q, Hid (Q = valB ((R.drop 5).take 6)) := ⟨_, Lib.hid rfl⟩
      have G4 := fun W v5 hW => refget_some W p v5 (R.drop 5) 6 hW (by omega) (by rw [List.length_drop]; omega)
      rw [← hQe.out] at hQ G4
      have hQ64 : Q < 64 := hQ
      have hPi : (P : Int) < 32 := by omega
      have hQi : (Q : Int) < 64 := by omega
      go_upto_region 12 with (go_at_call 53; refine (G3 _ h4).mono ?_; rintro y w5 ⟨rfl, ⟨v5, h5', hv5⟩, hc5⟩)
      go_upto_region 13 with (go_at_call 53; refine (G4 _ _ h5').mono ?_; rintro y w6 ⟨rfl, ⟨v6, h6, hv6⟩, hc6⟩)
      have hC6 := (hC4.keep hc5 hcp).keep hc6 hcp
      have hch6 := (hch4.trans hc5 (fun _ _ x => x)).trans hc6 (fun _ _ x => x)
      have hvo : v6.ownBlock = v.ownBlock := by rw [hv6, hv5, Hvo.out]
      have Hvo6 := Lib.hid hvo
      have h6' : XInv w6 p v6 (R.drop 11) := by rw [List.drop_drop] at h6; exact h6
      clear hvo hv5 hv6 hc5 hc6 hC4 h4 hch4 h5' h6 G3 G4 Hvo
      have ok6 := hC6.ok
      by_cases hpq : P + Q ≤ 63
      · have hi1 : ¬ (64 : Int) < (P : Int) + (Q : Int) + 1 := by omega
        obtain ⟨n, hn⟩ : ∃ n, Hid (n = Q + 1) := ⟨_, Lib.hid rfl⟩
        have hnQ : (Q : Int) + 1 = (n : Int) := by rw [hn.out]; omega
        have hn1 : (1 : Int) ≤ (n : Int) := by omega
        have hn2 : (n : Int) ≤ 64 := by omega
        have HnQ := Lib.hid hnQ
        clear hnQ
        go_upto_region 17 with (fail)
        rw [HnQ.out]
        by_cases hR : n ≤ (R.drop 11).length
        · have G5 := fun W hW => refget_some W p v6 (R.drop 11) n hW (by omega) hR
          go_upto_region 18 with (go_at_call 53; refine (G5 _ h6').mono ?_; rintro y w7 ⟨rfl, ⟨v7, h7, hv7⟩, hc7⟩)
          have hC7 := hC6.keep hc7 hcp
          have hch7 := hch6.trans hc7 (fun _ _ x => x)
          have hvo : v7.ownBlock = v.ownBlock := by rw [hv7, Hvo6.out]
          have Hvo7 := Lib.hid hvo
          clear hvo hv7 hc7 hC6 h6' G5 hch6
          have c1 := (hC7.row 1 _ rfl).1
          have hbd := new_bound (R.drop 11) P Q n hpq hn.out hR
          have hgd : guessD s (true :: true :: R) = some (valB ((R.drop 11).take n) * 2 ^ (63 - P - Q), 14 + Q) := by
            simp only [guessD]; rw [← hPe.out, ← hQe.out, ← hn.out, if_pos ⟨h11, hpq, hR⟩]
          have Hg := Lib.hid (guess_at hb hgd)
          have Hx := Lib.hid (guess_val s.v (valB ((R.drop 11).take n)) P n (63 - P - Q) _ (by have := hn.out; omega) rfl hbd ok6.1)
          clear hbd hgd
          go_wp2
          go_ret2
          have hl11 : (R.drop 11).length = R.length - 11 := List.length_drop
          exact ⟨_, true, _, v7, rfl, h7, Hvo7.out, hch7, fun _ => ⟨_, _, Hx.out, Hg.out, by have := hn.out; simp only [List.length_cons]; omega, by rw [List.drop_drop, show 14 + Q = (11 + n) + 2 from by have := hn.out; omega]; rfl⟩, by simp⟩
        · have G5 := fun W hW => refget_none W p v6 (R.drop 11) n hW (by omega)
          have hgd : guessD s (true :: true :: R) = none := by
            simp only [guessD]; rw [← hPe.out, ← hQe.out, ← hn.out, if_neg (fun x => hR x.2.2)]
          have Hg := Lib.hid (guess_no hb hgd)
          clear hgd
          go_upto_region 18 with (go_at_call 53; refine (G5 _ h6').mono ?_; rintro y w7 ⟨rfl, rfl⟩)
          have c1 := (hC6.row 1 _ rfl).1
          go_wp2
          go_ret2
          exact ⟨_, false, _, v6, rfl, h6', Hvo6.out, hch6, by simp, fun _ => Hg.out⟩
      · have hi1 : (64 : Int) < (P : Int) + (Q : Int) + 1 := by omega
        have hgd : guessD s (true :: true :: R) = none := by
          simp only [guessD]; rw [← hPe.out, ← hQe.out, if_neg (fun x => hpq x.2.1)]
        have Hg := Lib.hid (guess_no hb hgd)
        clear hgd
        go_wp2
        go_ret2
        exact ⟨_, false, _, v6, rfl, h6', Hvo6.out, hch6, by simp, fun _ => Hg.out⟩
    · have G4 := fun W v5 hW => refget_none W p v5 (R.drop 5) 6 hW (by rw [List.length_drop]; omega)
      have hgd : guessD s (true :: true :: R) = none := by
        simp only [guessD]; rw [if_neg (fun x => h11 x.1)]
      have Hg := Lib.hid (guess_no hb hgd)
      clear hgd
      go_upto_region 12 with (go_at_call 53; refine (G3 _ h4).mono ?_; rintro y w5 ⟨rfl, ⟨v5, h5', hv5⟩, hc5⟩)
      go_upto_region 13 with (go_at_call 53; refine (G4 _ _ h5').mono ?_; rintro y w6 ⟨rfl, rfl⟩)
      have hch5 := hch4.trans hc5 (fun _ _ x => x)
      have hvo : v5.ownBlock = v.ownBlock := by rw [hv5, Hvo.out]
      have Hvo5 := Lib.hid hvo
      clear hvo hv5 hc5 G3 G4
      go_wp2
      go_ret2
      exact ⟨_, false, _, v5, rfl, h5', Hvo5.out, hch5, by simp, fun _ => Hg.out⟩
  · have G3 := fun W hW => refget_none W p v2 R 5 hW (by omega)
    have G4 := fun W hW => refget_none W p v2 R 6 hW (by omega)
    have hgd : guessD s (true :: true :: R) = none := by
      simp only [guessD]; rw [if_neg (fun x => h5 (by have := x.1; omega))]
    have Hg := Lib.hid (guess_no hb hgd)
    clear hgd
    go_upto_region 12 with (go_at_call 53; refine (G3 _ h4).mono ?_; rintro y w5 ⟨rfl, rfl⟩)
    go_upto_region 13 with (go_at_call 53; refine (G4 _ h4).mono ?_; rintro y w6 ⟨rfl, rfl⟩)
    go_wp2
    go_ret2
    exact ⟨_, false, _, v2, rfl, h4, Hvo.out, hch4, by simp, fun _ => Hg.out⟩

theorem rguess_any (w : World) (c p : Nat) (s : XS) (v : Value) (L : List Bool) (hC : JInv w c s) (h : XInv w p v L) (hcp : c ≠ p) :
    Calls Tryd.prog 43 #[.pointer (some ⟨c, 0, none⟩), .pointer (some ⟨p, 0, none⟩)] w (GsOut w p s v L) := by
  cases hb : s.b with
  | false => exact rguess_first w c p s v L hC h hb
  | true =>
    match L, h with
    | [], h => exact rguess_zero w c p s v [] hC h hcp hb (fun R1 e => by cases e)
    | false :: R, h => exact rguess_zero w c p s v (false :: R) hC h hcp hb (fun R1 e => by cases e)
    | true :: [], h => exact rguess_in w c p s v [] hC h hcp hb (.inl rfl)
    | true :: false :: R, h => exact rguess_in w c p s v (false :: R) hC h hcp hb (.inr ⟨R, rfl⟩)
    | true :: true :: R, h => exact rguess_new w c p s v R hC h hcp hb
end Go.Proofs.YtdegmeclcbndgaaDoor
