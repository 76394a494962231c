/- The program's reader of patterns: a difference that is read. -/
import Derived.Test.YtdegmeclcbndgaaDoorXorG
namespace Go.Proofs.YtdegmeclcbndgaaDoor
open Go.RowKit Bit Tim Xo

namespace Xo
/-- The difference inside the window. -/
theorem in_bound (s : XS) (ok : XOk s) (R : List Bool) (h : 64 - s.l - s.t ≤ R.length) : valB (R.take (64 - s.l - s.t)) * 2 ^ s.t < 18446744073709551616 := by
  have hl : (R.take (64 - s.l - s.t)).length = 64 - s.l - s.t := by rw [List.length_take]; omega
  have hv := valB_lt (R.take (64 - s.l - s.t))
  rw [hl] at hv
  have h1 := mul_lt_pow (t := s.t) hv
  obtain ⟨o1, o2, o3⟩ := ok
  exact Nat.lt_of_lt_of_le h1 (show 2 ^ (64 - s.l - s.t + s.t) ≤ 2 ^ 64 from Nat.pow_le_pow_right (by decide) (by omega))
theorem getV_in (s : XS) (ok : XOk s) (hb : s.b = true) (hs : s.is = true) (R : List Bool) (h : 64 - s.l - s.t ≤ R.length) :
    getV s (true :: false :: R) = if valB (R.take (64 - s.l - s.t)) * 2 ^ s.t ≠ 0 then some (s.v ^^^ (valB (R.take (64 - s.l - s.t)) * 2 ^ s.t), 2 + (64 - s.l - s.t)) else none := by
  have hl : (R.take (64 - s.l - s.t)).length = 64 - s.l - s.t := by rw [List.length_take]; omega
  have hg : guessD s (true :: false :: R) = some (valB (R.take (64 - s.l - s.t)) * 2 ^ s.t, 2 + (64 - s.l - s.t)) := by
    simp only [guessD]; rw [if_pos ⟨hs, h⟩]
  rw [getV_at hb hg]
  have h1 := in_ok s ok hb hs (R.take (64 - s.l - s.t)) hl
  have h2 : (true :: false :: R).take (2 + (64 - s.l - s.t)) = true :: false :: R.take (64 - s.l - s.t) := by
    rw [Nat.add_comm]; rfl
  rw [h2]
  by_cases hz : valB (R.take (64 - s.l - s.t)) * 2 ^ s.t ≠ 0
  · rw [if_pos hz, if_pos (h1.mpr hz)]
  · rw [if_neg hz, if_neg (fun x => hz (h1.mp x))]
theorem fits_in (s : XS) (ok : XOk s) (hs : s.is = true) (R : List Bool) (h : 64 - s.l - s.t ≤ R.length) (h0 : valB (R.take (64 - s.l - s.t)) * 2 ^ s.t ≠ 0) : Fits s (valB (R.take (64 - s.l - s.t)) * 2 ^ s.t) := by
  have hl : (R.take (64 - s.l - s.t)).length = 64 - s.l - s.t := by rw [List.length_take]; omega
  have hv := valB_lt (R.take (64 - s.l - s.t))
  rw [hl] at hv
  have h1 := mul_lt_pow (t := s.t) hv
  have hb := in_bound s ok R h
  obtain ⟨o1, o2, o3⟩ := ok
  rw [show 64 - s.l - s.t + s.t = 64 - s.l from by omega] at h1
  generalize valB (R.take (64 - s.l - s.t)) = V at h0 h1 hb
  have hx0 : 0 < V := by
    rcases Nat.eq_zero_or_pos V with h | h
    · rw [h, Nat.zero_mul] at h0; exact absurd rfl h0
    · exact h
  exact ⟨hs, ld_ge _ _ o3 (by omega) h1, tl_ge _ _ hx0 hb⟩
theorem next_in (s : XS) (d : Nat) (hf : Fits s d) : s.next (s.v ^^^ d) = ⟨true, s.v ^^^ d, s.is, s.l, s.t⟩ := by
  unfold XS.next
  rw [xor_back, if_neg]
  exact fun x => x.2.2 hf
theorem next_new (s : XS) (d : Nat) (hb : s.b = true) (h0 : d ≠ 0) (hf : ¬ Fits s d) : s.next (s.v ^^^ d) = ⟨true, s.v ^^^ d, true, ld d, tl d⟩ := by
  unfold XS.next
  rw [xor_back, if_pos ⟨hb, h0, hf⟩]
theorem getV_in_none (s : XS) (hb : s.b = true) (R : List Bool) (h : ¬ (s.is = true ∧ 64 - s.l - s.t ≤ R.length)) : getV s (true :: false :: R) = none := by
  apply getV_of hb
  simp only [guessD]; rw [if_neg h]
end Xo

set_option maxRecDepth 100000 in
set_option maxHeartbeats 2000000 in
theorem vget_in (w : World) (c p : Nat) (s : XS) (R : List Bool) (hT : Tab w) (hc0 : c ≠ 0) (hp0 : p ≠ 0) (hC : KInv w c s) (h : DR w p (true :: false :: R)) (hcp : c ≠ p) (hb : s.b = true) (hs : s.is = true) :
    Calls Tryd.prog 21 #[.pointer (some ⟨c, 0, none⟩), .pointer (some ⟨p, 0, none⟩)] w (VgOut w c p s (true :: false :: R)) := by
  have c2 := hC.c2
  rw [hb] at c2
  have hcl := hC.lt
  have hpl := h.lt
  have G1 := dget_some w p 1 (true :: false :: R) h (by omega) (by simp)
  have hv : valB (List.take 1 (true :: false :: R)) = 1 := rfl
  rw [hv] at G1
  have G2 := fun W hW => dget_some W p 1 (false :: R) hW (by omega) (by simp)
  have hv2 : valB (List.take 1 (false :: R)) = 0 := rfl
  rw [hv2] at G2
  go_enter Tryd.func21, Tryd.ntmps21
  go_upto_region 6 with (go_at_call 40; refine G1.mono ?_; rintro y w1 ⟨rfl, h1, hc1⟩)
  go_upto_region 9 with (go_at_call 40; refine (G2 _ h1).mono ?_; rintro y w2 ⟨rfl, h2, hc2⟩)
  have hch := (hc1.trans hc2 (fun _ _ x => x)).mono (G := fun k => k = c ∨ k = p) (fun _ _ e => .inr e)
  have hC2 := (hC.keep hc1 hcp).keep hc2 hcp
  have hT2 := hT.keep hch (by omega)
  clear G1 G2 hv hv2 hc1 hc2 h1 c2
  have hok := hC2.ok
  obtain ⟨c0, c1, c2, c3, c4, fz, ok⟩ := id hC2
  rw [hs] at c4
  go_upto_region 10 with (fail)
  have hba : Below w2.heap.size w2 (w2.alloc (.cells #[.int .i64 (s.l : Nat), .int .i64 (s.t : Nat)] 67)) := (Below.refl _ _).alloc (Nat.le_refl _) _
  have hq : RowV (w2.alloc (.cells #[.int .i64 (s.l : Nat), .int .i64 (s.t : Nat)] 67)) w2.heap.size [.int .i64 (s.l : Nat), .int .i64 (s.t : Nat)] := RowV.new w2 _ _
  have hC3 := hC2.keep (Chg.of_below (fun _ => False) hba) (fun x => x)
  have h3 := h2.keep (Chg.of_below (fun _ => False) hba) (fun x => x)
  have hch3 := hch.trans (Chg.of_below (fun _ => False) hba) (fun _ _ x => x.elim)
  have hT3 := hT2.below hba hT2.pos
  have hqc : w2.heap.size ≠ c := by have := hC2.lt; omega
  have hqp : w2.heap.size ≠ p := by have := h2.lt; omega
  have hq0 : w2.heap.size ≠ 0 := by have := hT2.pos; omega
  have hqw : w.heap.size ≤ w2.heap.size := hch.size
  clear c0 c1 c2 c3 c4 fz ok hC2 h2 hch hT2 hba
  obtain ⟨q, hqq⟩ : ∃ q, Hid (q = w2.heap.size) := ⟨_, Lib.hid rfl⟩
  rw [← hqq.out] at hq hqc hqp hq0 hqw ⊢
  generalize (w2.alloc (.cells #[.int .i64 (s.l : Nat), .int .i64 (s.t : Nat)] 67)) = w3 at hq hC3 h3 hch3 hT3 ⊢
  obtain ⟨c0, c1, c2, c3, c4, fz, ok⟩ := id hC3
  rw [hs] at c4
  go_upto_region 15 with (fail)
  have q0 := (hq 0 _ rfl).1
  have q1 := (hq 1 _ rfl).1
  have SZ := fun W => xsize_any s.l s.t hok.2.1 W
  by_cases hn : 64 - s.l - s.t ≤ R.length
  · have G3 := fun W hW => dget_some W p (64 - s.l - s.t) R hW (by omega) hn
    obtain ⟨V, hVe⟩ : ∃ V, Hid (V = valB (R.take (64 - s.l - s.t))) := ⟨_, Lib.hid rfl⟩
    have hVb := in_bound s hok R hn
    rw [← hVe.out] at G3 hVb
    go_upto_region 16 with (first
      | (go_at_call 36; refine (SZ _).mono ?_; rintro e w4 ⟨rfl, hb4⟩)
      | (go_at_call 40; refine (G3 _ (h3.keep (Chg.of_below (fun _ => False) hb4) (fun x => x))).mono ?_; rintro y w5 ⟨rfl, h5, hc5⟩))
    have hC5 := (hC3.keep (Chg.of_below (fun _ => False) hb4) (fun x => x)).keep hc5 hcp
    have hT5 := (hT3.keep (Chg.of_below (fun _ => False) hb4) (fun x => x)).keep hc5 (fun e => hp0 e.symm)
    have hq5 := (hq.keep (Chg.of_below (fun _ => False) hb4) (fun x => x)).keep hc5 hqp
    have hch5 := (hch3.trans (Chg.of_below (fun _ => False) hb4) (fun _ _ x => x.elim)).trans hc5 (fun _ _ e => .inr e)
    clear c0 c1 c2 c3 c4 fz ok hC3 h3 hch3 hT3 hq hb4 hc5 SZ G3 q0 q1
    have q1 := (hq5 1 _ rfl).1
    go_upto_region 17 with (fail)
    obtain ⟨d, hd⟩ : ∃ d, Hid (d = V * 2 ^ s.t) := ⟨_, Lib.hid rfl⟩
    have hdw : IntKind.u64.wrap ((V : Int) * 2 ^ min s.t 64) = (d : Int) := by
      have e : ((V : Int) * 2 ^ min s.t 64) = ((V * 2 ^ s.t : Nat) : Int) := by
        rw [show min s.t 64 = s.t from by have := hok.2.1; omega]; simp
      rw [e, IntKind.wrap_u64, hd.out]; omega
    rw [hdw]
    clear hdw
    rw [← hd.out] at hVb
    have hGV := Lib.hid (getV_in s hok hb hs R hn)
    have hGF := Lib.hid (fits_in s hok hs R hn)
    rw [← hVe.out, ← hd.out] at hGV hGF
    by_cases hd0 : d = 0
    · have Hd0 : ((d : Int) == 0) = true := by simp [hd0]
      have hg : Hid (getV s (true :: false :: R) = none) := Lib.hid (by rw [hGV.out, if_neg (by simp [hd0])])
      go_wp2
      go_ret2
      exact ⟨0, false, _, rfl, h5, by simp only [List.length_drop, List.length_cons]; omega, hch5, by simp, fun _ => ⟨hg.out, rfl⟩⟩
    · have Hd0 : ((d : Int) == 0) = false := by simp [hd0]
      have hg : Hid (getV s (true :: false :: R) = some (s.v ^^^ d, 2 + (64 - s.l - s.t))) := Lib.hid (by rw [hGV.out, if_pos hd0])
      have hnx : Hid (s.next (s.v ^^^ d) = ⟨true, s.v ^^^ d, s.is, s.l, s.t⟩) := Lib.hid (next_in s d (hGF.out hd0))
      have hxr : bits .xor .u64 (s.v : Int) (d : Nat) = ((s.v ^^^ d : Nat) : Int) := bits_xor_u64_nat s.v d hok.1 hVb
      have hxb := xor_lt hok.1 hVb
      clear hGV hGF q1
      go_upto_region 20 with (go_at_call 34; refine (xof_any d hVb hd0 _ hT5).mono ?_; rintro e w6 ⟨rfl, hb6⟩)
      have hba6 : Below w5.heap.size w5 (w6.alloc (.cells #[.int .i64 (ld d : Nat), .int .i64 (tl d : Nat)] 67)) := hb6.alloc hb6.size _
      have hC7 := hC5.keep (Chg.of_below (fun _ => False) hba6) (fun x => x)
      have h7 := h5.keep (Chg.of_below (fun _ => False) hba6) (fun x => x)
      have hq7 := hq5.keep (Chg.of_below (fun _ => False) hba6) (fun x => x)
      have hch7 := hch5.trans (Chg.of_below (fun _ => False) hba6) (fun _ _ x => x.elim)
      clear hC5 h5 hq5 hch5 hT5 hb6 hba6
      generalize (w6.alloc (.cells #[.int .i64 (ld d : Nat), .int .i64 (tl d : Nat)] 67)) = w7 at hC7 h7 hq7 hch7 ⊢
      have q0 := (hq7 0 _ rfl).1
      have q1 := (hq7 1 _ rfl).1
      obtain ⟨c0, c1, c2, c3, c4, fz, ok⟩ := id hC7
      have f0 := fz 0 (by decide)
      have f1 := fz 1 (by decide)
      have f3 := fz 3 (by decide)
      have f4 := fz 4 (by decide)
      have hfin : KInv ((((w7.setCell ⟨c, 0, none⟩ (.int .i64 (s.l : Nat))).setCell ⟨c, 1, none⟩ (.int .i64 (s.t : Nat))).setCell ⟨c, 4, none⟩ (.bool true)).setCell ⟨c, 3, none⟩ (.int .u64 (s.v ^^^ d : Nat))) c (s.next (s.v ^^^ d)) := by
        have hr := (((hC7.row.set 0 (by simp) (.int .i64 (s.l : Nat))).set 1 (by simp) (.int .i64 (s.t : Nat))).set 4 (by simp) (.bool true)).set 3 (by simp) (.int .u64 (s.v ^^^ d : Nat))
        rw [hnx.out]
        rw [hb] at hr
        rw [hs]
        exact KInv.of_row hr ⟨hxb, hok.2⟩
      have hcs : Chg (fun k => k = c) w7 ((((w7.setCell ⟨c, 0, none⟩ (.int .i64 (s.l : Nat))).setCell ⟨c, 1, none⟩ (.int .i64 (s.t : Nat))).setCell ⟨c, 4, none⟩ (.bool true)).setCell ⟨c, 3, none⟩ (.int .u64 (s.v ^^^ d : Nat))) :=
        (((Chg.setCell w7 ⟨c, 0, none⟩ _).trans (Chg.setCell _ ⟨c, 1, none⟩ _) (fun _ _ x => x)).trans (Chg.setCell _ ⟨c, 4, none⟩ _) (fun _ _ x => x)).trans (Chg.setCell _ ⟨c, 3, none⟩ _) (fun _ _ x => x)
      go_wp2
      go_ret2
      exact ⟨s.v ^^^ d, true, _, rfl, h7.keep hcs (fun e => hcp e.symm), by simp only [List.length_drop, List.length_cons]; omega, hch7.trans hcs (fun _ _ e => .inl e), fun _ => ⟨_, hg.out, by rw [Nat.add_comm]; rfl, hfin⟩, by simp⟩
  · have hg := getV_in_none s hb R (fun x => hn x.2)
    have G3 := fun W hW => dget_none W p (64 - s.l - s.t) R hW (by omega)
    go_upto_region 16 with (first
      | (go_at_call 36; refine (SZ _).mono ?_; rintro e w4 ⟨rfl, hb4⟩)
      | (go_at_call 40; refine (G3 _ (h3.keep (Chg.of_below (fun _ => False) hb4) (fun x => x))).mono ?_; rintro y w5 ⟨rfl, h5, hc5⟩))
    have hq5 := (hq.keep (Chg.of_below (fun _ => False) hb4) (fun x => x)).keep hc5 hqp
    have hch5 := (hch3.trans (Chg.of_below (fun _ => False) hb4) (fun _ _ x => x.elim)).trans hc5 (fun _ _ e => .inr e)
    clear c0 c1 c2 c3 c4 fz ok hC3 h3 hch3 hT3 hq hb4 hc5 SZ G3 q0 q1
    have q1 := (hq5 1 _ rfl).1
    go_wp2
    go_ret2
    exact ⟨0, false, R, rfl, h5, by simp only [List.length_cons]; omega, hch5, by simp, fun _ => ⟨hg, rfl⟩⟩

namespace Xo
theorem getV_new (s : XS) (hb : s.b = true) (R : List Bool) (P Q n V d : Nat) (hP : P = valB (R.take 5)) (hQ : Q = valB ((R.drop 5).take 6)) (h11 : 11 ≤ R.length) (hpq : P + Q ≤ 63) (hn : n = Q + 1) (hl : n ≤ (R.drop 11).length)
    (hV : V = valB ((R.drop 11).take n)) (hd : d = V * 2 ^ (63 - P - Q)) :
    getV s (true :: true :: R) = if d ≠ 0 ∧ ¬ Fits s d ∧ ld d = P ∧ tl d = 63 - P - Q then some (s.v ^^^ d, 13 + n) else none := by
  subst hn
  have hg : guessD s (true :: true :: R) = some (d, 14 + Q) := by
    simp only [guessD]
    rw [← hP, ← hQ, if_pos ⟨h11, hpq, hl⟩, ← hV, hd]
  have h5 : (R.take 5).length = 5 := by rw [List.length_take]; omega
  have h6 : ((R.drop 5).take 6).length = 6 := by rw [List.length_take, List.length_drop]; omega
  have hll : ((R.drop 11).take (Q + 1)).length = Q + 1 := by rw [List.length_take]; omega
  rw [getV_at hb hg]
  have h1 := new_ok s hb (R.take 5) ((R.drop 5).take 6) ((R.drop 11).take (Q + 1)) h5 h6 (by rw [← hP, ← hQ]; exact hpq) (by rw [← hQ]; exact hll) d (by rw [← hP, ← hQ, ← hV]; exact hd)
  rw [← hP, ← hQ] at h1
  have h2 : (true :: true :: R).take (14 + Q) = true :: true :: (R.take 5 ++ ((R.drop 5).take 6 ++ (R.drop 11).take (Q + 1))) := by
    rw [show 14 + Q = (12 + Q) + 2 from by omega]
    show true :: true :: R.take (12 + Q) = _
    congr 2
    rw [show 12 + Q = 5 + (6 + (Q + 1)) from by omega, List.take_add, List.take_add, List.drop_drop]
  rw [h2]
  have e : 14 + Q = 13 + (Q + 1) := by omega
  by_cases hz : d ≠ 0 ∧ ¬ Fits s d ∧ ld d = P ∧ tl d = 63 - P - Q
  · rw [if_pos hz, if_pos (h1.mpr hz), e]
  · rw [if_neg hz, if_neg (fun x => hz (h1.mp x))]
theorem getV_new_none (s : XS) (hb : s.b = true) (R : List Bool) (h : ¬ (11 ≤ R.length ∧ valB (R.take 5) + valB ((R.drop 5).take 6) ≤ 63 ∧ valB ((R.drop 5).take 6) + 1 ≤ (R.drop 11).length)) : getV s (true :: true :: R) = none := by
  apply getV_of hb
  simp only [guessD]; rw [if_neg h]
theorem new_bound (R : List Bool) (P Q n : Nat) (hpq : P + Q ≤ 63) (hn : n = Q + 1) (hl : n ≤ R.length) : valB (R.take n) * 2 ^ (63 - P - Q) < 18446744073709551616 := by
  subst hn
  have hll : (R.take (Q + 1)).length = Q + 1 := by rw [List.length_take]; omega
  have hv := valB_lt (R.take (Q + 1))
  rw [hll] at hv
  have h1 := mul_lt_pow (t := 63 - P - Q) hv
  exact Nat.lt_of_lt_of_le h1 (show 2 ^ (Q + 1 + (63 - P - Q)) ≤ 2 ^ 64 from Nat.pow_le_pow_right (by decide) (by omega))
end Xo

set_option maxRecDepth 100000 in
set_option maxHeartbeats 2000000 in
theorem vget_fail (w : World) (c p : Nat) (s : XS) (R : List Bool) (hC : KInv w c s) (h : DR w p (true :: R)) (hcp : c ≠ p) (hb : s.b = true) (hR : R = [] ∨ s.is = false ∧ ∃ R2, R = false :: R2) :
    Calls Tryd.prog 21 #[.pointer (some ⟨c, 0, none⟩), .pointer (some ⟨p, 0, none⟩)] w (VgOut w c p s (true :: R)) := by
  have c2 := hC.c2
  rw [hb] at c2
  have G1 := dget_some w p 1 (true :: R) h (by omega) (by simp)
  have hv : valB (List.take 1 (true :: R)) = 1 := rfl
  rw [hv] at G1
  rcases hR with rfl | ⟨hs, R2, rfl⟩
  · have G2 := fun W hW => dget_none W p 1 [] hW (by simp)
    have hg : getV s [true] = none := getV_of hb rfl
    go_enter Tryd.func21, Tryd.ntmps21
    go_upto_region 6 with (go_at_call 40; refine G1.mono ?_; rintro y w1 ⟨rfl, h1, hc1⟩)
    go_upto_region 9 with (go_at_call 40; refine (G2 _ h1).mono ?_; rintro y w2 ⟨rfl, h2, hc2⟩)
    have hch := (hc1.trans hc2 (fun _ _ x => x)).mono (G := fun k => k = c ∨ k = p) (fun _ _ e => .inr e)
    have hC2 := (hC.keep hc1 hcp).keep hc2 hcp
    clear G1 G2 hv hc1 hc2 h1 c2
    obtain ⟨c0, c1, c2, c3, c4, fz, ok⟩ := id hC2
    go_wp2
    go_ret2
    exact ⟨0, false, _, rfl, h2.keep (Chg.alloc (fun _ => False) _ _) (fun x => x), by simp, hch.trans (Chg.alloc (fun _ => False) _ _) (fun _ _ x => x.elim), by simp, fun _ => ⟨hg, rfl⟩⟩
  · have G2 := fun W hW => dget_some W p 1 (false :: R2) hW (by omega) (by simp)
    have hv2 : valB (List.take 1 (false :: R2)) = 0 := rfl
    rw [hv2] at G2
    have hg : getV s (true :: false :: R2) = none := getV_in_none s hb R2 (fun x => by rw [hs] at x; simp at x)
    go_enter Tryd.func21, Tryd.ntmps21
    go_upto_region 6 with (go_at_call 40; refine G1.mono ?_; rintro y w1 ⟨rfl, h1, hc1⟩)
    go_upto_region 9 with (go_at_call 40; refine (G2 _ h1).mono ?_; rintro y w2 ⟨rfl, h2, hc2⟩)
    have hch := (hc1.trans hc2 (fun _ _ x => x)).mono (G := fun k => k = c ∨ k = p) (fun _ _ e => .inr e)
    have hC2 := (hC.keep hc1 hcp).keep hc2 hcp
    clear G1 G2 hv hv2 hc1 hc2 h1 c2
    obtain ⟨c0, c1, c2, c3, c4, fz, ok⟩ := id hC2
    go_upto_region 10 with (fail)
    have hba : Below w2.heap.size w2 (w2.alloc (.cells #[.int .i64 (s.l : Nat), .int .i64 (s.t : Nat)] 67)) := (Below.refl _ _).alloc (Nat.le_refl _) _
    have hC3 := hC2.keep (Chg.of_below (fun _ => False) hba) (fun x => x)
    have h3 := h2.keep (Chg.of_below (fun _ => False) hba) (fun x => x)
    have hch3 := hch.trans (Chg.of_below (fun _ => False) hba) (fun _ _ x => x.elim)
    clear c0 c1 c2 c3 c4 fz ok hC2 h2 hch hba
    obtain ⟨q, hqq⟩ : ∃ q, Hid (q = w2.heap.size) := ⟨_, Lib.hid rfl⟩
    rw [← hqq.out]
    generalize (w2.alloc (.cells #[.int .i64 (s.l : Nat), .int .i64 (s.t : Nat)] 67)) = w3 at hC3 h3 hch3 ⊢
    have c4 := hC3.c4
    rw [hs] at c4
    go_wp2
    go_ret2
    exact ⟨0, false, _, rfl, h3, by simp; omega, hch3, by simp, fun _ => ⟨hg, rfl⟩⟩

set_option maxRecDepth 100000 in
set_option maxHeartbeats 4000000 in
theorem vget_new (w : World) (c p : Nat) (s : XS) (R : List Bool) (hT : Tab w) (hc0 : c ≠ 0) (hp0 : p ≠ 0) (hC : KInv w c s) (h : DR w p (true :: true :: R)) (hcp : c ≠ p) (hb : s.b = true) :
    Calls Tryd.prog 21 #[.pointer (some ⟨c, 0, none⟩), .pointer (some ⟨p, 0, none⟩)] w (VgOut w c p s (true :: true :: R)) := by
  have c2 := hC.c2
  rw [hb] at c2
  have hcl := hC.lt
  have hpl := h.lt
  have G1 := dget_some w p 1 (true :: true :: R) h (by omega) (by simp)
  have hv : valB (List.take 1 (true :: true :: R)) = 1 := rfl
  rw [hv] at G1
  have G2 := fun W hW => dget_some W p 1 (true :: R) hW (by omega) (by simp)
  have hv2 : valB (List.take 1 (true :: R)) = 1 := rfl
  rw [hv2] at G2
  go_enter Tryd.func21, Tryd.ntmps21
  go_upto_region 6 with (go_at_call 40; refine G1.mono ?_; rintro y w1 ⟨rfl, h1, hc1⟩)
  go_upto_region 9 with (go_at_call 40; refine (G2 _ h1).mono ?_; rintro y w2 ⟨rfl, h2, hc2⟩)
  have hch := (hc1.trans hc2 (fun _ _ x => x)).mono (G := fun k => k = c ∨ k = p) (fun _ _ e => .inr e)
  have hC2 := (hC.keep hc1 hcp).keep hc2 hcp
  have hT2 := hT.keep hch (by omega)
  clear G1 G2 hv hv2 hc1 hc2 h1 c2
  have hok := hC2.ok
  obtain ⟨c0, c1, c2, c3, c4, fz, ok⟩ := id hC2
  go_upto_region 10 with (fail)
  have hba : Below w2.heap.size w2 (w2.alloc (.cells #[.int .i64 (s.l : Nat), .int .i64 (s.t : Nat)] 67)) := (Below.refl _ _).alloc (Nat.le_refl _) _
  have hq : RowV (w2.alloc (.cells #[.int .i64 (s.l : Nat), .int .i64 (s.t : Nat)] 67)) w2.heap.size [.int .i64 (s.l : Nat), .int .i64 (s.t : Nat)] := RowV.new w2 _ _
  have hC3 := hC2.keep (Chg.of_below (fun _ => False) hba) (fun x => x)
  have h3 : DR (w2.alloc (.cells #[.int .i64 (s.l : Nat), .int .i64 (s.t : Nat)] 67)) p R := h2.keep (Chg.of_below (fun _ => False) hba) (fun x => x)
  have hch3 := hch.trans (Chg.of_below (fun _ => False) hba) (fun _ _ x => x.elim)
  have hT3 := hT2.below hba hT2.pos
  have hqc : w2.heap.size ≠ c := by have := hC2.lt; omega
  have hqp : w2.heap.size ≠ p := by have := h2.lt; omega
  have hq0 : w2.heap.size ≠ 0 := by have := hT2.pos; omega
  have hqw : w.heap.size ≤ w2.heap.size := hch.size
  clear c0 c1 c2 c3 c4 fz ok hC2 h2 hch hT2 hba
  obtain ⟨q, hqq⟩ : ∃ q, Hid (q = w2.heap.size) := ⟨_, Lib.hid rfl⟩
  rw [← hqq.out] at hq hqc hqp hq0 hqw ⊢
  generalize (w2.alloc (.cells #[.int .i64 (s.l : Nat), .int .i64 (s.t : Nat)] 67)) = w3 at hq hC3 h3 hch3 hT3 ⊢
  have AN := anew_any w3 p R h3
  go_upto_region 13 with (go_at_call 42; refine AN.mono ?_; rintro y w4 ⟨l, t, okk, R', rfl, h4, hl4, hc4, hy, hno⟩; have hq4 := hq.keep hc4 hqp; have q0 := (hq4 0 _ rfl).1; have q1 := (hq4 1 _ rfl).1; have z0 := (hq4 0 _ rfl).2; have z1 := (hq4 1 _ rfl).2)
  have hq5 := (hq4.set 0 (by simp) (.int .i64 l)).set 1 (by simp) (.int .i64 t)
  have hcs : Chg (fun k => k = q) w4 ((w4.setCell ⟨q, 0, none⟩ (.int .i64 l)).setCell ⟨q, 1, none⟩ (.int .i64 t)) := (Chg.setCell w4 ⟨q, 0, none⟩ _).trans (Chg.setCell _ ⟨q, 1, none⟩ _) (fun _ _ x => x)
  have hC5 := (hC3.keep hc4 hcp).keep hcs (fun e => hqc e.symm)
  have h5 := h4.keep hcs (fun e => hqp e.symm)
  have hT5 := (hT3.keep hc4 (fun e => hp0 e.symm)).keep hcs (fun e => hq0 e.symm)
  have hch5 : Chg (fun k => k = c ∨ k = p) w ((w4.setCell ⟨q, 0, none⟩ (.int .i64 l)).setCell ⟨q, 1, none⟩ (.int .i64 t)) := (hch3.trans hc4 (fun _ _ e => .inr e)).trans hcs (fun b hbw e => by omega)
  clear hC3 h3 hch3 hT3 hq AN hc4 h4 hq4 hcs q0 q1 z0 z1
  generalize ((w4.setCell ⟨q, 0, none⟩ (.int .i64 l)).setCell ⟨q, 1, none⟩ (.int .i64 t)) = w5 at hC5 h5 hch5 hT5 hq5 ⊢
  cases okk with
  | false =>
    have hg : Hid (getV s (true :: true :: R) = none) := Lib.hid (getV_new_none s hb R (fun x => hno rfl ⟨x.1, x.2.1⟩))
    clear hy hno
    go_wp2
    go_ret2
    exact ⟨0, false, _, rfl, h5, by simp only [List.length_cons]; omega, hch5, by simp, fun _ => ⟨hg.out, rfl⟩⟩
  | true =>
    obtain ⟨h11, hpq, rfl, rfl, rfl⟩ := hy rfl
    have hP := valB_lt (R.take 5)
    have hl5 : (R.take 5).length = 5 := by rw [List.length_take]; omega
    rw [hl5] at hP
    obtain ⟨P, hPe⟩ : ∃ P, Hid (P = valB (R.take 5)) := ⟨_, Lib.hid rfl⟩
    obtain ⟨Q, hQe⟩ : ∃ Q, Hid (Q = valB ((R.drop 5).take 6)) := ⟨_, Lib.hid rfl⟩
    obtain ⟨T, hTe⟩ : ∃ T, Hid (T = 63 - P - Q) := ⟨_, Lib.hid rfl⟩
    rw [← hPe.out, ← hQe.out] at hpq
    rw [← hPe.out] at hP
    have hP32 : P < 32 := hP
    have hq6 : RowV w5 q [.int .i64 (P : Nat), .int .i64 (T : Nat)] := by rw [hTe.out, hPe.out, hQe.out]; exact hq5
    have hPT : P + T ≤ 63 := by have := hTe.out; omega
    clear hq5 hy hno
    have q0 := (hq6 0 _ rfl).1
    have q1 := (hq6 1 _ rfl).1
    have SZ := fun W => xsize_any P T hPT W
    by_cases hn : 64 - P - T ≤ (R.drop 11).length
    · have G3 := fun W hW => dget_some W p (64 - P - T) (R.drop 11) hW (by omega) hn
      obtain ⟨V, hVe⟩ : ∃ V, Hid (V = valB ((R.drop 11).take (64 - P - T))) := ⟨_, Lib.hid rfl⟩
      have hVb : V * 2 ^ T < 18446744073709551616 := by rw [hVe.out, hTe.out]; exact new_bound (R.drop 11) P Q (64 - P - (63 - P - Q)) hpq (by omega) (by rw [← hTe.out]; exact hn)
      rw [← hVe.out] at G3
      go_upto_region 16 with (first
        | (go_at_call 36; refine (SZ _).mono ?_; rintro e w6 ⟨rfl, hb6⟩)
        | (go_at_call 40; refine (G3 _ (h5.keep (Chg.of_below (fun _ => False) hb6) (fun x => x))).mono ?_; rintro y w7 ⟨rfl, h7, hc7⟩))
      have hC7 := (hC5.keep (Chg.of_below (fun _ => False) hb6) (fun x => x)).keep hc7 hcp
      have hT7 := (hT5.keep (Chg.of_below (fun _ => False) hb6) (fun x => x)).keep hc7 (fun e => hp0 e.symm)
      have hq7 := (hq6.keep (Chg.of_below (fun _ => False) hb6) (fun x => x)).keep hc7 hqp
      have hch7 := (hch5.trans (Chg.of_below (fun _ => False) hb6) (fun _ _ x => x.elim)).trans hc7 (fun _ _ e => .inr e)
      clear hC5 h5 hch5 hT5 hq6 hb6 hc7 SZ G3 q0 q1
      have q1 := (hq7 1 _ rfl).1
      go_upto_region 17 with (fail)
      obtain ⟨d, hd⟩ : ∃ d, Hid (d = V * 2 ^ T) := ⟨_, Lib.hid rfl⟩
      have hdw : IntKind.u64.wrap ((V : Int) * 2 ^ T) = (d : Int) := by
        have e : ((V : Int) * 2 ^ T) = ((V * 2 ^ T : Nat) : Int) := by simp
        rw [e, IntKind.wrap_u64, hd.out]; omega
      rw [hdw]
      clear hdw
      rw [← hd.out] at hVb
      have hGV : Hid (getV s (true :: true :: R) = if d ≠ 0 ∧ ¬ Fits s d ∧ ld d = P ∧ tl d = T then some (s.v ^^^ d, 13 + (64 - P - T)) else none) :=
        Lib.hid (by rw [hTe.out]; exact getV_new s hb R P Q _ V d hPe.out hQe.out h11 hpq (by omega) (by rw [← hTe.out]; exact hn) (by rw [← hTe.out]; exact hVe.out) (by rw [← hTe.out]; exact hd.out))
      have hdl : ((R.drop 11).drop (64 - P - T)).length ≤ (true :: true :: R).length := by simp only [List.length_drop, List.length_cons]; omega
      have Hdl := Lib.hid hdl
      clear hdl
      by_cases hd0 : d = 0
      · have Hd0 : ((d : Int) == 0) = true := by simp [hd0]
        have hg : Hid (getV s (true :: true :: R) = none) := Lib.hid (by rw [hGV.out, if_neg (fun x => x.1 hd0)])
        clear hGV
        go_wp2
        go_ret2
        exact ⟨0, false, _, rfl, h7, Hdl.out, hch7, by simp, fun _ => ⟨hg.out, rfl⟩⟩
      · have Hd0 : ((d : Int) == 0) = false := by simp [hd0]
        have hxr : bits .xor .u64 (s.v : Int) (d : Nat) = ((s.v ^^^ d : Nat) : Int) := bits_xor_u64_nat s.v d hok.1 hVb
        have hxb := xor_lt hok.1 hVb
        clear q1
        go_upto_region 20 with (go_at_call 34; refine (xof_any d hVb hd0 _ hT7).mono ?_; rintro e w8 ⟨rfl, hb8⟩)
        have hba8 : Below w7.heap.size w7 (w8.alloc (.cells #[.int .i64 (ld d : Nat), .int .i64 (tl d : Nat)] 67)) := hb8.alloc hb8.size _
        have hr9 : RowV (w8.alloc (.cells #[.int .i64 (ld d : Nat), .int .i64 (tl d : Nat)] 67)) w8.heap.size [.int .i64 (ld d : Nat), .int .i64 (tl d : Nat)] := RowV.new w8 _ _
        have hC9 := hC7.keep (Chg.of_below (fun _ => False) hba8) (fun x => x)
        have h9 := h7.keep (Chg.of_below (fun _ => False) hba8) (fun x => x)
        have hq9 := hq7.keep (Chg.of_below (fun _ => False) hba8) (fun x => x)
        have hch9 := hch7.trans (Chg.of_below (fun _ => False) hba8) (fun _ _ x => x.elim)
        clear hC7 h7 hq7 hch7 hT7 hb8 hba8
        obtain ⟨r, hrr⟩ : ∃ r, Hid (r = w8.heap.size) := ⟨_, Lib.hid rfl⟩
        rw [← hrr.out] at hr9 ⊢
        generalize (w8.alloc (.cells #[.int .i64 (ld d : Nat), .int .i64 (tl d : Nat)] 67)) = w9 at hC9 h9 hq9 hch9 hr9 ⊢
        obtain ⟨lead, hl⟩ : ∃ l, Hid (l = ld d) := ⟨_, Lib.hid rfl⟩
        obtain ⟨tail, ht⟩ : ∃ t, Hid (t = tl d) := ⟨_, Lib.hid rfl⟩
        rw [← hl.out, ← ht.out] at hr9 hGV
        have r0 := (hr9 0 _ rfl).1
        have r1 := (hr9 1 _ rfl).1
        have q0 := (hq9 0 _ rfl).1
        have q1 := (hq9 1 _ rfl).1
        have FT := fun W h => fits_any W c s lead tail h
        have hfd : decide (s.is = true ∧ s.l ≤ lead ∧ s.t ≤ tail) = decide (Fits s d) := by rw [hl.out, ht.out]; rfl
        rw [hfd] at FT
        by_cases hf : Fits s d
        · have hg : Hid (getV s (true :: true :: R) = none) := Lib.hid (by rw [hGV.out, if_neg (fun x => x.2.1 hf)])
          rw [decide_eq_true hf] at FT
          clear hGV hfd
          go_wp2_with (go_at_call 35; refine (FT _ hC9).mono ?_; rintro e w10 ⟨rfl, hb10⟩)
          go_ret2
          exact ⟨0, false, _, rfl, h9.keep (Chg.of_below (fun _ => False) hb10) (fun x => x), Hdl.out, hch9.trans (Chg.of_below (fun _ => False) hb10) (fun _ _ x => x.elim), by simp, fun _ => ⟨hg.out, rfl⟩⟩
        · rw [decide_eq_false hf] at FT
          clear hfd
          by_cases e1 : lead = P
          · by_cases e2 : tail = T
            · obtain rfl : P = lead := e1.symm
              obtain rfl : T = tail := e2.symm
              have hg : Hid (getV s (true :: true :: R) = some (s.v ^^^ d, 13 + (64 - P - T))) := Lib.hid (by rw [hGV.out, if_pos ⟨hd0, hf, rfl, rfl⟩])
              have hnx : Hid (s.next (s.v ^^^ d) = ⟨true, s.v ^^^ d, true, P, T⟩) := Lib.hid (by rw [hl.out, ht.out]; exact next_new s d hb hd0 hf)
              clear hGV
              go_upto_region 22 with (go_at_call 35; refine (FT _ hC9).mono ?_; rintro e w10 ⟨rfl, hb10⟩; have hr10 := hr9.below hb10; have s0 := (hr10 0 _ rfl).1; have s1 := (hr10 1 _ rfl).1; have hq10 := hq9.below hb10; have t0 := (hq10 0 _ rfl).1; have t1 := (hq10 1 _ rfl).1)
              have hC10 := hC9.keep (Chg.of_below (fun _ => False) hb10) (fun x => x)
              have h10 := h9.keep (Chg.of_below (fun _ => False) hb10) (fun x => x)
              have hch10 := hch9.trans (Chg.of_below (fun _ => False) hb10) (fun _ _ x => x.elim)
              clear hC9 h9 hch9 hr9 hr10 s0 s1 r0 r1 q0 q1 FT hq9
              obtain ⟨c0, c1, c2, c3, c4, fz, ok⟩ := id hC10
              have f0 := fz 0 (by decide)
              have f1 := fz 1 (by decide)
              have f3 := fz 3 (by decide)
              have f4 := fz 4 (by decide)
              have hfin : KInv ((((w10.setCell ⟨c, 0, none⟩ (.int .i64 (P : Nat))).setCell ⟨c, 1, none⟩ (.int .i64 (T : Nat))).setCell ⟨c, 4, none⟩ (.bool true)).setCell ⟨c, 3, none⟩ (.int .u64 (s.v ^^^ d : Nat))) c (s.next (s.v ^^^ d)) := by
                have hr := (((hC10.row.set 0 (by simp) (.int .i64 (P : Nat))).set 1 (by simp) (.int .i64 (T : Nat))).set 4 (by simp) (.bool true)).set 3 (by simp) (.int .u64 (s.v ^^^ d : Nat))
                rw [hnx.out]
                rw [hb] at hr
                exact KInv.of_row hr ⟨hxb, hPT, by show P ≤ 31; omega⟩
              have hcs : Chg (fun k => k = c) w10 ((((w10.setCell ⟨c, 0, none⟩ (.int .i64 (P : Nat))).setCell ⟨c, 1, none⟩ (.int .i64 (T : Nat))).setCell ⟨c, 4, none⟩ (.bool true)).setCell ⟨c, 3, none⟩ (.int .u64 (s.v ^^^ d : Nat))) :=
                (((Chg.setCell w10 ⟨c, 0, none⟩ _).trans (Chg.setCell _ ⟨c, 1, none⟩ _) (fun _ _ x => x)).trans (Chg.setCell _ ⟨c, 4, none⟩ _) (fun _ _ x => x)).trans (Chg.setCell _ ⟨c, 3, none⟩ _) (fun _ _ x => x)
              go_wp2
              go_ret2
              exact ⟨s.v ^^^ d, true, _, rfl, h10.keep hcs (fun e => hcp e.symm), Hdl.out, hch10.trans hcs (fun _ _ e => .inl e), fun _ => ⟨_, hg.out, by rw [List.drop_drop, show 13 + (64 - P - T) = (11 + (64 - P - T)) + 2 from by omega]; rfl, hfin⟩, by simp⟩
            · have n2 : ¬ (tail : Int) = (T : Int) := by omega
              obtain rfl : P = lead := e1.symm
              have hg : Hid (getV s (true :: true :: R) = none) := Lib.hid (by rw [hGV.out, if_neg (fun x => e2 x.2.2.2)])
              clear hGV
              go_wp2_with (go_at_call 35; refine (FT _ hC9).mono ?_; rintro e w10 ⟨rfl, hb10⟩; have hr10 := hr9.below hb10; have s0 := (hr10 0 _ rfl).1; have s1 := (hr10 1 _ rfl).1; have hq10 := hq9.below hb10; have t0 := (hq10 0 _ rfl).1; have t1 := (hq10 1 _ rfl).1)
              go_ret2
              exact ⟨0, false, _, rfl, h9.keep (Chg.of_below (fun _ => False) hb10) (fun x => x), Hdl.out, hch9.trans (Chg.of_below (fun _ => False) hb10) (fun _ _ x => x.elim), by simp, fun _ => ⟨hg.out, rfl⟩⟩
          · have n1 : ¬ (lead : Int) = (P : Int) := by omega
            have hg : Hid (getV s (true :: true :: R) = none) := Lib.hid (by rw [hGV.out, if_neg (fun x => e1 x.2.2.1)])
            clear hGV
            go_wp2_with (go_at_call 35; refine (FT _ hC9).mono ?_; rintro e w10 ⟨rfl, hb10⟩; have hr10 := hr9.below hb10; have s0 := (hr10 0 _ rfl).1; have s1 := (hr10 1 _ rfl).1; have hq10 := hq9.below hb10; have t0 := (hq10 0 _ rfl).1; have t1 := (hq10 1 _ rfl).1)
            go_ret2
            exact ⟨0, false, _, rfl, h9.keep (Chg.of_below (fun _ => False) hb10) (fun x => x), Hdl.out, hch9.trans (Chg.of_below (fun _ => False) hb10) (fun _ _ x => x.elim), by simp, fun _ => ⟨hg.out, rfl⟩⟩
    · have hg : Hid (getV s (true :: true :: R) = none) := Lib.hid (getV_new_none s hb R (fun x => hn (by have := x.2.2; have := hQe.out; have := hTe.out; omega)))
      have G3 := fun W hW => dget_none W p (64 - P - T) (R.drop 11) hW (by omega)
      go_upto_region 16 with (first
        | (go_at_call 36; refine (SZ _).mono ?_; rintro e w6 ⟨rfl, hb6⟩)
        | (go_at_call 40; refine (G3 _ (h5.keep (Chg.of_below (fun _ => False) hb6) (fun x => x))).mono ?_; rintro y w7 ⟨rfl, h7, hc7⟩))
      have hq7 := (hq6.keep (Chg.of_below (fun _ => False) hb6) (fun x => x)).keep hc7 hqp
      have hch7 := (hch5.trans (Chg.of_below (fun _ => False) hb6) (fun _ _ x => x.elim)).trans hc7 (fun _ _ e => .inr e)
      clear hC5 h5 hch5 hT5 hq6 hb6 hc7 SZ G3 q0 q1
      have q1 := (hq7 1 _ rfl).1
      go_wp2
      go_ret2
      exact ⟨0, false, _, rfl, h7, by simp only [List.length_drop, List.length_cons]; omega, hch7, by simp, fun _ => ⟨hg.out, rfl⟩⟩

theorem vget_any (w : World) (c p : Nat) (s : XS) (R : List Bool) (hT : Tab w) (hc0 : c ≠ 0) (hp0 : p ≠ 0) (hC : KInv w c s) (h : DR w p R) (hcp : c ≠ p) :
    Calls Tryd.prog 21 #[.pointer (some ⟨c, 0, none⟩), .pointer (some ⟨p, 0, none⟩)] w (VgOut w c p s R) := by
  cases hb : s.b with
  | false => exact vget_first w c p s R hC h hcp hb
  | true =>
    match R, h with
    | [], h => exact vget_zero w c p s [] hC h hcp hb (fun R1 e => by cases e)
    | false :: R, h => exact vget_zero w c p s (false :: R) hC h hcp hb (fun R1 e => by cases e)
    | true :: [], h => exact vget_fail w c p s [] hC h hcp hb (.inl rfl)
    | true :: false :: R, h =>
      cases hs : s.is with
      | false => exact vget_fail w c p s (false :: R) hC h hcp hb (.inr ⟨hs, R, rfl⟩)
      | true => exact vget_in w c p s R hT hc0 hp0 hC h hcp hb hs
    | true :: true :: R, h => exact vget_new w c p s R hT hc0 hp0 hC h hcp hb
end Go.Proofs.YtdegmeclcbndgaaDoor
