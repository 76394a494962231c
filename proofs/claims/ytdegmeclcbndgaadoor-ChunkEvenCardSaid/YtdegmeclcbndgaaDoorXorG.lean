/- The program's reader of patterns. -/
import Derived.Test.YtdegmeclcbndgaaDoorXorR
import Derived.Test.YtdegmeclcbndgaaDoorTimJ
namespace Go.Proofs.YtdegmeclcbndgaaDoor
open Go.RowKit Bit Tim Xo

/-- What is read of a window. -/
structure AnOut (w : World) (p : Nat) (R : List Bool) (y : Ending) (w' : World) : Prop where
  ex : ∃ (l t : Int) (ok : Bool) (R' : List Bool), y = .returned (.tuple #[.agg #[.int .i64 l, .int .i64 t], .bool ok]) ∧ DR w' p R' ∧ R'.length ≤ R.length ∧ Chg (fun k => k = p) w w' ∧
      (ok = true → 11 ≤ R.length ∧ valB (R.take 5) + valB ((R.drop 5).take 6) ≤ 63 ∧ l = (valB (R.take 5) : Nat) ∧ t = ((63 - valB (R.take 5) - valB ((R.drop 5).take 6) : Nat) : Int) ∧ R' = R.drop 11) ∧
      (ok = false → ¬ (11 ≤ R.length ∧ valB (R.take 5) + valB ((R.drop 5).take 6) ≤ 63))

set_option maxRecDepth 100000 in
set_option maxHeartbeats 4000000 in
theorem anew_core (w : World) (p : Nat) (R R1 R2 : List Bool) (P Q : Nat) (o1 o2 : Bool) (h : DR w p R) (hP : P < 32) (hQ : Q < 64)
    (G1 : ∀ W, DR W p R → Calls Tryd.prog 40 #[.pointer (some ⟨p, 0, none⟩), .int .i64 5] W fun x w' => x = .returned (.tuple #[.int .u64 (P : Nat), .bool o1]) ∧ DR w' p R1 ∧ Chg (fun k => k = p) W w')
    (G2 : ∀ W, DR W p R1 → Calls Tryd.prog 40 #[.pointer (some ⟨p, 0, none⟩), .int .i64 6] W fun x w' => x = .returned (.tuple #[.int .u64 (Q : Nat), .bool o2]) ∧ DR w' p R2 ∧ Chg (fun k => k = p) W w') :
    Calls Tryd.prog 42 #[.pointer (some ⟨p, 0, none⟩)] w fun y w' => y = .returned (.tuple #[.agg #[.int .i64 (P : Nat), .int .i64 (64 - (P : Int) - (Q : Int) - 1)], .bool (o1 && (o2 && decide (P + Q ≤ 63)))]) ∧ DR w' p R2 ∧ Chg (fun k => k = p) w w' := by
  have hpl := h.lt
  have h0 : DR (w.alloc (.cells #[.int .i64 0, .int .i64 0] 67)) p R := h.keep (Chg.alloc (fun _ => False) _ _) (fun x => x)
  have hch0 : Chg (fun k => k = p) w (w.alloc (.cells #[.int .i64 0, .int .i64 0] 67)) := Chg.alloc _ _ _
  have hrow0 : RowV (w.alloc (.cells #[.int .i64 0, .int .i64 0] 67)) w.heap.size [.int .i64 0, .int .i64 0] := RowV.new w _ _
  have hP2 : (P : Int) < 32 := by omega
  have hQ2 : (Q : Int) < 64 := by omega
  obtain ⟨c, hc⟩ : ∃ c, Hid (c = decide (P + Q ≤ 63)) := ⟨_, Lib.hid rfl⟩
  have hge : (0 : Int) ≤ 64 - (P : Int) - (Q : Int) - 1 ∧ (1 : Int) ≤ 64 - (P : Int) - (Q : Int) ∧ c = true ∨ ¬ (0 : Int) ≤ 64 - (P : Int) - (Q : Int) - 1 ∧ ¬ (1 : Int) ≤ 64 - (P : Int) - (Q : Int) ∧ c = false := by
    by_cases hz : P + Q ≤ 63
    · exact .inl ⟨by omega, by omega, by rw [hc.out]; exact decide_eq_true hz⟩
    · exact .inr ⟨by omega, by omega, by rw [hc.out]; exact decide_eq_false hz⟩
  have hdec : Hid (decide ((1 : Int) ≤ 64 - (P : Int) - (Q : Int)) = c) := Lib.hid (by
    rcases hge with ⟨_, h9, rfl⟩ | ⟨_, h9, rfl⟩
    · exact decide_eq_true h9
    · exact decide_eq_false h9)
  rw [← hc.out]
  rcases hge with ⟨hg1, hg2, rfl⟩ | ⟨hg1, hg2, rfl⟩ <;> cases o1 <;> cases o2
  all_goals
    clear hc
    go_enter Tryd.func42, Tryd.ntmps42
    go_upto_region 2 with (go_at_call 40; refine (G1 _ h0).mono ?_; rintro y w1 ⟨rfl, h1, hc1⟩)
    go_upto_region 3 with (go_at_call 40; refine (G2 _ h1).mono ?_; rintro y w2 ⟨rfl, h2, hc2⟩)
    have hch2 := (hch0.trans hc1 (fun _ _ x => x)).trans hc2 (fun _ _ x => x)
    have hrow2 := (hrow0.keep hc1 (by omega)).keep hc2 (by omega)
    clear hc1 hc2 h1 G1 G2 hch0 hrow0 h0 h
    have k0 := (hrow2 0 _ rfl).1
    have k1 := (hrow2 1 _ rfl).1
    have f0 := (hrow2 0 _ rfl).2
    have f1 := (hrow2 1 _ rfl).2
    go_upto_region 4 with (fail)
    have hq : w.heap.size < w2.heap.size := (hrow2.lt (by simp))
    have hrq : RowV (w2.alloc (.cells #[.int .i64 (P : Nat), .int .i64 (64 - (P : Int) - (Q : Int) - 1)] 67)) w2.heap.size [.int .i64 (P : Nat), .int .i64 (64 - (P : Int) - (Q : Int) - 1)] := RowV.new w2 _ _
    have hbq : Below w2.heap.size w2 (w2.alloc (.cells #[.int .i64 (P : Nat), .int .i64 (64 - (P : Int) - (Q : Int) - 1)] 67)) := (Below.refl _ _).alloc (Nat.le_refl _) _
    have hrow3 := hrow2.below hbq
    have h3 := h2.keep (Chg.of_below (fun _ => False) hbq) (fun x => x)
    have hch3 := hch2.trans (Chg.of_below (fun _ => False) hbq) (fun _ _ x => x.elim)
    obtain ⟨q, hqq⟩ : ∃ q, Hid (q = w2.heap.size) := ⟨_, Lib.hid rfl⟩
    obtain ⟨g, hgg⟩ : ∃ g, Hid (g = w.heap.size) := ⟨_, Lib.hid rfl⟩
    rw [← hqq.out] at hrq hq ⊢
    rw [← hgg.out] at hrow3 hq ⊢
    clear hrow2 h2 hch2 hbq k0 k1 f0 f1
    generalize (w2.alloc (.cells #[.int .i64 (P : Nat), .int .i64 (64 - (P : Int) - (Q : Int) - 1)] 67)) = w3 at hrq hrow3 h3 hch3 ⊢
    have k0 := (hrow3 0 _ rfl).1
    have k1 := (hrow3 1 _ rfl).1
    have f0 := (hrow3 0 _ rfl).2
    have f1 := (hrow3 1 _ rfl).2
    have m0 := (hrq 0 _ rfl).1
    have m1 := (hrq 1 _ rfl).1
    have hne : ¬ g = q := by omega
    have hne2 : ¬ q = g := by omega
    go_region
    go_wp2
    have hr5 : RowV ((w3.setCell ⟨g, 0, none⟩ (.int .i64 (P : Nat))).setCell ⟨g, 1, none⟩ (.int .i64 (64 - (P : Int) - (Q : Int) - 1))).drew g [.int .i64 (P : Nat), .int .i64 (64 - (P : Int) - (Q : Int) - 1)] :=
      ((hrow3.set 0 (by simp) (.int .i64 (P : Nat))).set 1 (by simp) (.int .i64 (64 - (P : Int) - (Q : Int) - 1))).keep (Chg.drew (fun _ => False) _) (fun x => x)
    have hgp : p ≠ g := by have := hgg.out; omega
    have hcs : Chg (fun k => k = g) w3 ((w3.setCell ⟨g, 0, none⟩ (.int .i64 (P : Nat))).setCell ⟨g, 1, none⟩ (.int .i64 (64 - (P : Int) - (Q : Int) - 1))).drew :=
      ((Chg.setCell w3 ⟨g, 0, none⟩ _).trans (Chg.setCell _ ⟨g, 1, none⟩ _) (fun _ _ x => x)).trans (Chg.drew (fun _ => False) _) (fun _ _ x => x.elim)
    refine bodyPost_ret (results_cell_tmp2 rfl _ _ g _ rfl (hr5.load 67 _ Tryd.underlying67 rfl (by kernel_rfl))) rfl ⟨by first | rfl | (show Ending.returned (.tuple #[.agg #[.int .i64 (P : Nat), .int .i64 (64 - (P : Int) - (Q : Int) - 1)], .bool (decide ((1 : Int) ≤ 64 - (P : Int) - (Q : Int)))]) = _; rw [hdec.out]; rfl), h3.keep hcs hgp, hch3.trans hcs (fun b hb e => ?_)⟩
    have := hgg.out
    omega

theorem anew_any (w : World) (p : Nat) (R : List Bool) (h : DR w p R) :
    Calls Tryd.prog 42 #[.pointer (some ⟨p, 0, none⟩)] w (AnOut w p R) := by
  by_cases h5 : 5 ≤ R.length
  · have hP := valB_lt (R.take 5)
    have hl5 : (R.take 5).length = 5 := by rw [List.length_take]; omega
    rw [hl5] at hP
    by_cases h11 : 11 ≤ R.length
    · have hQ := valB_lt ((R.drop 5).take 6)
      have hl6 : ((R.drop 5).take 6).length = 6 := by rw [List.length_take, List.length_drop]; omega
      rw [hl6] at hQ
      refine (anew_core w p R (R.drop 5) ((R.drop 5).drop 6) (valB (R.take 5)) (valB ((R.drop 5).take 6)) true true h hP hQ (fun W hW => dget_some W p 5 R hW (by omega) h5) (fun W hW => dget_some W p 6 (R.drop 5) hW (by omega) (by rw [List.length_drop]; omega))).mono ?_
      rintro y w' ⟨rfl, h1, h2⟩
      refine ⟨_, _, _, _, rfl, h1, by simp only [List.length_drop]; omega, h2, fun ho => ?_, fun ho => ?_⟩
      · have h9 : valB (R.take 5) + valB ((R.drop 5).take 6) ≤ 63 := by simpa using ho
        exact ⟨h11, h9, rfl, by omega, by rw [List.drop_drop]⟩
      · have h9 : ¬ valB (R.take 5) + valB ((R.drop 5).take 6) ≤ 63 := by simpa using ho
        exact fun x => h9 x.2
    · refine (anew_core w p R (R.drop 5) (R.drop 5) (valB (R.take 5)) 0 true false h hP (by decide) (fun W hW => dget_some W p 5 R hW (by omega) h5) (fun W hW => dget_none W p 6 (R.drop 5) hW (by rw [List.length_drop]; omega))).mono ?_
      rintro y w' ⟨rfl, h1, h2⟩
      exact ⟨_, _, _, _, rfl, h1, by simp only [List.length_drop]; omega, h2, fun ho => by simp at ho, fun _ x => h11 x.1⟩
  · refine (anew_core w p R R R 0 0 false false h (by decide) (by decide) (fun W hW => dget_none W p 5 R hW (by omega)) (fun W hW => dget_none W p 6 R hW (by omega))).mono ?_
    rintro y w' ⟨rfl, h1, h2⟩
    exact ⟨_, _, _, _, rfl, h1, Nat.le_refl _, h2, fun ho => by simp at ho, fun _ x => h5 (by have := x.1; omega)⟩

structure VgOut (w : World) (c p : Nat) (s : XS) (R : List Bool) (y : Ending) (w' : World) : Prop where
  ex : ∃ (v : Nat) (ok : Bool) (R' : List Bool), y = .returned (.tuple #[.int .u64 (v : Nat), .bool ok]) ∧ DR w' p R' ∧ R'.length ≤ R.length ∧ Chg (fun k => k = c ∨ k = p) w w' ∧
      (ok = true → ∃ n, getV s R = some (v, n) ∧ R' = R.drop n ∧ KInv w' c (s.next v)) ∧ (ok = false → getV s R = none ∧ v = 0)

namespace Xo
theorem getV_first (s : XS) (hb : s.b = false) (R : List Bool) (h : 64 ≤ R.length) : getV s R = some (valB (R.take 64), 64) := by
  have hl : (R.take 64).length = 64 := by rw [List.length_take]; omega
  unfold getV guess
  rw [hb, if_neg (by simp), if_pos h]
  simp only
  rw [if_pos]
  unfold encV
  rw [hb, if_neg (by simp), Tim.bitsOf_valB 64 _ hl]
theorem getV_first_none (s : XS) (hb : s.b = false) (R : List Bool) (h : ¬ 64 ≤ R.length) : getV s R = none := by
  unfold getV guess
  rw [hb, if_neg (by simp), if_neg h]
theorem getV_of {s : XS} (hb : s.b = true) {R : List Bool} (h : guessD s R = none) : getV s R = none := by
  unfold getV guess
  rw [hb, if_pos rfl, h]
theorem getV_at {s : XS} (hb : s.b = true) {R : List Bool} {d n : Nat} (h : guessD s R = some (d, n)) : getV s R = if encV s (s.v ^^^ d) = R.take n then some (s.v ^^^ d, n) else none := by
  unfold getV guess
  rw [hb, if_pos rfl, h]
theorem getV_same (s : XS) (hb : s.b = true) (R : List Bool) : getV s (false :: R) = some (s.v, 1) := by
  rw [getV_at hb (R := false :: R) (d := 0) (n := 1) rfl, Nat.xor_zero, if_pos]
  unfold encV encD
  rw [if_pos hb, Nat.xor_self, if_pos rfl]; rfl
theorem next_same (s : XS) (hb : s.b = true) : s.next s.v = s := by
  unfold XS.next
  rw [if_neg (by simp)]
  cases s; simp_all
end Xo

set_option maxRecDepth 100000 in
set_option maxHeartbeats 2000000 in
theorem vget_first (w : World) (c p : Nat) (s : XS) (R : List Bool) (hC : KInv w c s) (h : DR w p R) (hcp : c ≠ p) (hb : s.b = false) :
    Calls Tryd.prog 21 #[.pointer (some ⟨c, 0, none⟩), .pointer (some ⟨p, 0, none⟩)] w (VgOut w c p s R) := by
  have c2 := hC.c2
  rw [hb] at c2
  by_cases h64 : 64 ≤ R.length
  · have HG := Lib.hid (getV_first s hb R h64)
    have G1 := dget_some w p 64 R h (by omega) h64
    have hV := valB_lt (R.take 64)
    have hl : (R.take 64).length = 64 := by rw [List.length_take]; omega
    rw [hl] at hV
    obtain ⟨V, hVe⟩ : ∃ V, Hid (V = valB (R.take 64)) := ⟨_, Lib.hid rfl⟩
    rw [← hVe.out] at G1 HG hV
    have hV2 : V < 18446744073709551616 := hV
    go_enter Tryd.func21, Tryd.ntmps21
    go_upto_region 3 with (go_at_call 40; refine G1.mono ?_; rintro y w1 ⟨rfl, h1, hc1⟩)
    have hC1 := hC.keep hc1 hcp
    have hC2 : KInv ((w1.setCell ⟨c, 3, none⟩ (.int .u64 (V : Nat))).setCell ⟨c, 2, none⟩ (.bool true)) c ⟨true, V, s.is, s.l, s.t⟩ :=
      KInv.of_row ((hC1.row.set 3 (by simp) (.int .u64 (V : Nat))).set 2 (by simp) (.bool true)) ⟨hV2, hC1.ok.2⟩
    have hch : Chg (fun k => k = c ∨ k = p) w ((w1.setCell ⟨c, 3, none⟩ (.int .u64 (V : Nat))).setCell ⟨c, 2, none⟩ (.bool true)) := ((hc1.mono (fun _ _ e => .inr e)).trans (Chg.setCell w1 ⟨c, 3, none⟩ _) (fun _ _ e => .inl e)).trans (Chg.setCell _ ⟨c, 2, none⟩ _) (fun _ _ e => .inl e)
    have hD2 : DR ((w1.setCell ⟨c, 3, none⟩ (.int .u64 (V : Nat))).setCell ⟨c, 2, none⟩ (.bool true)) p (R.drop 64) := (h1.keep (Chg.setCell w1 ⟨c, 3, none⟩ _) (fun e => hcp e.symm)).keep (Chg.setCell _ ⟨c, 2, none⟩ _) (fun e => hcp e.symm)
    have d2 := hC1.c2
    have d3 := hC1.c3
    have e2 := hC1.fz 2 (by decide)
    have e3 := hC1.fz 3 (by decide)
    clear c2 hc1 h1 hC1
    go_upto_region 4 with (fail)
    generalize ((w1.setCell ⟨c, 3, none⟩ (.int .u64 (V : Nat))).setCell ⟨c, 2, none⟩ (.bool true)) = w2 at hC2 hch hD2 ⊢
    go_wp2
    go_ret2
    exact ⟨V, true, R.drop 64, rfl, hD2, by rw [List.length_drop]; omega, hch, fun _ => ⟨64, HG.out, rfl, by simpa [XS.next, hb] using hC2⟩, by simp⟩
  · have hg := getV_first_none s hb R h64
    have G1 := dget_none w p 64 R h (by omega)
    go_enter Tryd.func21, Tryd.ntmps21
    go_upto_region 3 with (go_at_call 40; refine G1.mono ?_; rintro y w1 ⟨rfl, h1, hc1⟩)
    have hC1 := hC.keep hc1 hcp
    have hch : Chg (fun k => k = c ∨ k = p) w ((w1.setCell ⟨c, 3, none⟩ (.int .u64 0)).setCell ⟨c, 2, none⟩ (.bool false)) := ((hc1.mono (fun _ _ e => .inr e)).trans (Chg.setCell w1 ⟨c, 3, none⟩ _) (fun _ _ e => .inl e)).trans (Chg.setCell _ ⟨c, 2, none⟩ _) (fun _ _ e => .inl e)
    have hD2 : DR ((w1.setCell ⟨c, 3, none⟩ (.int .u64 0)).setCell ⟨c, 2, none⟩ (.bool false)) p R := (h1.keep (Chg.setCell w1 ⟨c, 3, none⟩ _) (fun e => hcp e.symm)).keep (Chg.setCell _ ⟨c, 2, none⟩ _) (fun e => hcp e.symm)
    have d2 := hC1.c2
    have d3 := hC1.c3
    have e2 := hC1.fz 2 (by decide)
    have e3 := hC1.fz 3 (by decide)
    clear c2 hc1 h1 hC1
    go_upto_region 4 with (fail)
    generalize ((w1.setCell ⟨c, 3, none⟩ (.int .u64 0)).setCell ⟨c, 2, none⟩ (.bool false)) = w2 at hch hD2 ⊢
    go_wp2
    go_ret2
    exact ⟨0, false, R, rfl, hD2, Nat.le_refl _, hch, by simp, fun _ => ⟨hg, rfl⟩⟩

theorem xsame_any (w : World) (c : Nat) (s : XS) (hC : KInv w c s) : Calls Tryd.prog 41 #[.pointer (some ⟨c, 0, none⟩), .bool true] w fun y w' => y = .returned (.tuple #[.int .u64 (s.v : Nat), .bool true]) ∧ w = w' := by
  have c3 := hC.c3
  go_enter Tryd.func41, Tryd.ntmps41
  go_wp2
  go_ret2
  exact ⟨rfl, rfl⟩
theorem xsame_no (w : World) (c : Nat) : Calls Tryd.prog 41 #[.pointer (some ⟨c, 0, none⟩), .bool false] w fun y w' => y = .returned (.tuple #[.int .u64 0, .bool false]) ∧ w = w' := by
  go_enter Tryd.func41, Tryd.ntmps41
  go_wp2
  go_ret2
  exact ⟨rfl, rfl⟩

set_option maxRecDepth 100000 in
set_option maxHeartbeats 2000000 in
theorem vget_zero (w : World) (c p : Nat) (s : XS) (R : List Bool) (hC : KInv w c s) (h : DR w p R) (hcp : c ≠ p) (hb : s.b = true) (hR : ∀ R1, R ≠ true :: R1) :
    Calls Tryd.prog 21 #[.pointer (some ⟨c, 0, none⟩), .pointer (some ⟨p, 0, none⟩)] w (VgOut w c p s R) := by
  have c2 := hC.c2
  rw [hb] at c2
  match R, h, hR with
  | [], h, _ =>
    have G1 := dget_none w p 1 [] h (by simp)
    go_enter Tryd.func21, Tryd.ntmps21
    go_upto_region 6 with (go_at_call 40; refine G1.mono ?_; rintro y w1 ⟨rfl, h1, hc1⟩)
    go_wp2_with (go_at_call 41; refine (xsame_no _ c).mono ?_; rintro y w2 ⟨rfl, rfl⟩)
    go_ret2
    exact ⟨0, false, [], rfl, h1, Nat.le_refl _, hc1.mono (fun _ _ e => .inr e), by simp, fun _ => ⟨getV_of hb rfl, rfl⟩⟩
  | false :: R1, h, _ =>
    have G1 := dget_some w p 1 (false :: R1) h (by omega) (by simp)
    have hv : valB (List.take 1 (false :: R1)) = 0 := rfl
    rw [hv] at G1
    go_enter Tryd.func21, Tryd.ntmps21
    go_upto_region 6 with (go_at_call 40; refine G1.mono ?_; rintro y w1 ⟨rfl, h1, hc1⟩)
    have hC1 := hC.keep hc1 hcp
    go_wp2_with (go_at_call 41; refine (xsame_any _ c s hC1).mono ?_; rintro y w2 ⟨rfl, rfl⟩)
    go_ret2
    exact ⟨s.v, true, R1, rfl, h1, by simp, hc1.mono (fun _ _ e => .inr e), fun _ => ⟨1, getV_same s hb R1, rfl, by rw [next_same s hb]; exact hC1⟩, by simp⟩
  | true :: R1, _, hR => exact absurd rfl (hR R1)
end Go.Proofs.YtdegmeclcbndgaaDoor
