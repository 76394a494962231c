/- The program's reader of times. -/
import Derived.Test.YtdegmeclcbndgaaDoorTimR
import Derived.Test.YtdegmeclcbndgaaDoorTimP
import Derived.Test.YtdegmeclcbndgaaDoorBitReads
namespace Go.Proofs.YtdegmeclcbndgaaDoor
open Go.RowKit Bit Tim

def spanV (k : Nat) : Value := .agg (match k with
  | 0 => #[.int .i64 0, .int .i64 0, .int .i64 0]
  | 1 => #[.int .i64 (-63), .int .i64 64, .int .i64 7]
  | 2 => #[.int .i64 (-255), .int .i64 256, .int .i64 9]
  | _ => #[.int .i64 (-2047), .int .i64 2048, .int .i64 12])

set_option maxRecDepth 100000 in
set_option maxHeartbeats 2000000 in
theorem within_any (w : World) (p : Nat) (s : ByteArray) (a e k : Nat) (hk : k ≤ 3) (h : DInv w p s a e) (ha : a ≤ e) (he : e ≤ 8 * s.size) (hs : s.size ≤ 17592186044416) :
    Calls Tryd.prog 62 #[.pointer (some ⟨p, 0, none⟩), spanV k] w fun y w' => ∃ (x : Int) (ok : Bool) (c : Nat), y = .returned (.tuple #[.int .i64 x, .bool ok]) ∧ DInv w' p s c e ∧ a ≤ c ∧ c ≤ e ∧ Chg (fun k => k = p) w w' ∧
      (ok = true → c = a + wOf k ∧ x = wrap64 (wrap64 (valB (((bitsT s.data.toList).drop a).take (wOf k)) : Nat) - offOf k) ∧ okX k x) ∧
      (ok = false → e < a + wOf k ∨ ¬ okX k (wrap64 (wrap64 (valB (((bitsT s.data.toList).drop a).take (wOf k)) : Nat) - offOf k))) := by
  have hlen : (bitsT s.data.toList).length = 8 * s.size := by rw [bitsT_length, ← size_toList]
  by_cases hc : a + wOf k ≤ e
  · obtain ⟨Z, hZ⟩ : ∃ Z, Hid (Z = valB (((bitsT s.data.toList).drop a).take (wOf k))) := ⟨_, Lib.hid rfl⟩
    rw [← hZ.out]
    have hZb : Z < 2 ^ wOf k := by
      have h1 := valB_lt (((bitsT s.data.toList).drop a).take (wOf k))
      have h2 : (((bitsT s.data.toList).drop a).take (wOf k)).length = wOf k := by rw [List.length_take, List.length_drop, hlen]; omega
      rw [h2, ← hZ.out] at h1; exact h1
    have hw64 : wOf k ≤ 64 := by rcases (by omega : k = 0 ∨ k = 1 ∨ k = 2 ∨ k = 3) with rfl | rfl | rfl | rfl <;> decide
    have G1 := fun W hW => rget_some W p s a e (wOf k) hW ha he (by omega) hw64 hc
    rw [← hZ.out] at G1
    rcases (by omega : k = 0 ∨ k = 1 ∨ k = 2 ∨ k = 3) with rfl | rfl | rfl | rfl
    · simp only [wOf, offOf] at *
      have e2 : (2 : Nat) ^ 0 = 1 := by decide
      rw [e2] at hZb
      obtain ⟨x, hx⟩ : ∃ x : Int, Hid (x = wrap64 (wrap64 (Z : Nat) - 0)) := ⟨_, Lib.hid rfl⟩
      have hxz : (Z : Int) = x := by rw [hx.out]; unfold wrap64; omega
      rw [← hx.out]
      have hxb : -5000 ≤ x ∧ x ≤ 5000 := by omega
      go_enter Tryd.func62, Tryd.ntmps62
      unfold spanV
      go_upto_region 2 with (go_at_call 40; refine (G1 _ (h.keep (Chg.alloc (fun _ => False) _ _) (fun y => y))).mono ?_; rintro y w1 ⟨rfl, h1, hc1⟩)
      have hpl : p < w.heap.size := World.block_lt_of_cell? w _ h.c0
      have hcl : ∀ i x, (w.alloc (.cells #[.int .i64 0, .int .i64 0, .int .i64 0] 100)).cell? ⟨w.heap.size, i, none⟩ = some x → w1.cell? ⟨w.heap.size, i, none⟩ = some x := fun i x hx => hc1.cell hx (by show ¬ w.heap.size = p; omega)
      have k0 := hcl 0 (.int .i64 0) (by simp)
      have k1 := hcl 1 (.int .i64 0) (by simp)
      have k2 := hcl 2 (.int .i64 0) (by simp)
      have hcw : Chg (fun k => k = p) w w1 := (Chg.alloc (fun k => k = p) w _).trans hc1 (fun _ _ y => y)
      have hwl : w.heap.size < w1.heap.size := World.block_lt_of_cell? w1 _ k0
      clear hcl hc1
      go_upto_region 6 with (go_at_call 55; refine (spans_any _).mono ?_; rintro y w2 ⟨rfl, hb2⟩)
      have hi0 := fun W => (spans_at W).1
      have hi1 := fun W => (spans_at W).2.1
      have hi2 := fun W => (spans_at W).2.2
      unfold spansV at hi0 hi1 hi2
      go_wp2
      go_loopw [26] (fun i wr => ∃ j : Nat, j ≤ 0 ∧ i = .int .i64 j ∧ Below w1.heap.size w1 wr ∧ Hid ((1 ≤ j → ¬ (-63 ≤ x ∧ x ≤ 64)) ∧ (2 ≤ j → ¬ (-255 ≤ x ∧ x ≤ 256)))) (fun i _ => 5 - (intOf i).toNat)
      case atStart => exact ⟨0, by omega, rfl, hb2, Lib.hid (by omega)⟩
      case round =>
        obtain ⟨j, hj, rfl, hbr, hno⟩ := hrel
        have m0 : wr.cell? ⟨w.heap.size, 0, none⟩ = some (.int .i64 0) := by rw [hbr.cell (p := ⟨w.heap.size, 0, none⟩) hwl]; exact k0
        have m2 : wr.cell? ⟨w.heap.size, 2, none⟩ = some (.int .i64 0) := by rw [hbr.cell (p := ⟨w.heap.size, 2, none⟩) hwl]; exact k2
        have hwr2 : w.heap.size < wr.heap.size := by have := hbr.size; omega
        have hwr3 : ¬ w.heap.size = wr.heap.size := by omega
        have fin : ∀ w', Below wr.heap.size wr w' → DInv w' p s (a + 0) e ∧ Chg (fun k => k = p) w w' := fun w' hb' => ⟨(h1.keep (Chg.of_below (fun _ => False) hbr) (fun y => y)).keep (Chg.of_below (fun _ => False) hb') (fun y => y), (hcw.trans (Chg.of_below (fun _ => False) hbr) (fun _ _ y => y.elim)).trans (Chg.of_below (fun _ => False) hb') (fun _ _ y => y.elim)⟩
        have Fin := Lib.hid fin
        clear fin
        rcases (by omega : j = 0) with rfl
        · go_wp2
          go_ret2
          obtain ⟨f1, f2⟩ := Fin.out _ ((Below.refl _ _).alloc (Nat.le_refl _) _)
          exact ⟨x, true, a + 0, rfl, f1, by omega, hc, f2, fun _ => ⟨rfl, rfl, trivial⟩, by simp⟩
    · simp only [wOf, offOf] at *
      have e2 : (2 : Nat) ^ 7 = 128 := by decide
      rw [e2] at hZb
      obtain ⟨x, hx⟩ : ∃ x : Int, Hid (x = wrap64 (wrap64 (Z : Nat) - 63)) := ⟨_, Lib.hid rfl⟩
      have hxz : (Z : Int) + (-63) = x := by rw [hx.out]; unfold wrap64; omega
      rw [← hx.out]
      have hxb : -5000 ≤ x ∧ x ≤ 5000 := by omega
      go_enter Tryd.func62, Tryd.ntmps62
      unfold spanV
      go_upto_region 2 with (go_at_call 40; refine (G1 _ (h.keep (Chg.alloc (fun _ => False) _ _) (fun y => y))).mono ?_; rintro y w1 ⟨rfl, h1, hc1⟩)
      have hpl : p < w.heap.size := World.block_lt_of_cell? w _ h.c0
      have hcl : ∀ i x, (w.alloc (.cells #[.int .i64 (-63), .int .i64 64, .int .i64 7] 100)).cell? ⟨w.heap.size, i, none⟩ = some x → w1.cell? ⟨w.heap.size, i, none⟩ = some x := fun i x hx => hc1.cell hx (by show ¬ w.heap.size = p; omega)
      have k0 := hcl 0 (.int .i64 (-63)) (by simp)
      have k1 := hcl 1 (.int .i64 64) (by simp)
      have k2 := hcl 2 (.int .i64 7) (by simp)
      have hcw : Chg (fun k => k = p) w w1 := (Chg.alloc (fun k => k = p) w _).trans hc1 (fun _ _ y => y)
      have hwl : w.heap.size < w1.heap.size := World.block_lt_of_cell? w1 _ k0
      clear hcl hc1
      go_upto_region 6 with (go_at_call 55; refine (spans_any _).mono ?_; rintro y w2 ⟨rfl, hb2⟩)
      have hi0 := fun W => (spans_at W).1
      have hi1 := fun W => (spans_at W).2.1
      have hi2 := fun W => (spans_at W).2.2
      unfold spansV at hi0 hi1 hi2
      go_wp2
      go_loopw [26] (fun i wr => ∃ j : Nat, j ≤ 0 ∧ i = .int .i64 j ∧ Below w1.heap.size w1 wr ∧ Hid ((1 ≤ j → ¬ (-63 ≤ x ∧ x ≤ 64)) ∧ (2 ≤ j → ¬ (-255 ≤ x ∧ x ≤ 256)))) (fun i _ => 5 - (intOf i).toNat)
      case atStart => exact ⟨0, by omega, rfl, hb2, Lib.hid (by omega)⟩
      case round =>
        obtain ⟨j, hj, rfl, hbr, hno⟩ := hrel
        have m0 : wr.cell? ⟨w.heap.size, 0, none⟩ = some (.int .i64 (-63)) := by rw [hbr.cell (p := ⟨w.heap.size, 0, none⟩) hwl]; exact k0
        have m2 : wr.cell? ⟨w.heap.size, 2, none⟩ = some (.int .i64 7) := by rw [hbr.cell (p := ⟨w.heap.size, 2, none⟩) hwl]; exact k2
        have hwr2 : w.heap.size < wr.heap.size := by have := hbr.size; omega
        have hwr3 : ¬ w.heap.size = wr.heap.size := by omega
        have fin : ∀ w', Below wr.heap.size wr w' → DInv w' p s (a + 7) e ∧ Chg (fun k => k = p) w w' := fun w' hb' => ⟨(h1.keep (Chg.of_below (fun _ => False) hbr) (fun y => y)).keep (Chg.of_below (fun _ => False) hb') (fun y => y), (hcw.trans (Chg.of_below (fun _ => False) hbr) (fun _ _ y => y.elim)).trans (Chg.of_below (fun _ => False) hb') (fun _ _ y => y.elim)⟩
        have Fin := Lib.hid fin
        clear fin
        rcases (by omega : j = 0) with rfl
        · by_cases hx0 : x = 0
          · go_wp2
            go_ret2
            obtain ⟨f1, f2⟩ := Fin.out _ ((Below.refl _ _).alloc (Nat.le_refl _) _)
            exact ⟨x, false, a + 7, rfl, f1, by omega, hc, f2, by simp, fun _ => .inr (by simp only [okX]; omega)⟩
          · go_wp2
            go_ret2
            obtain ⟨f1, f2⟩ := Fin.out _ ((Below.refl _ _).alloc (Nat.le_refl _) _)
            exact ⟨x, true, a + 7, (by show Ending.returned (Value.tuple #[.int .i64 x, .bool (x != 0)]) = _; rw [(by simp [hx0] : (x != 0) = true)]), f1, by omega, hc, f2, fun _ => ⟨rfl, rfl, hx0⟩, by simp⟩
    · simp only [wOf, offOf] at *
      have e2 : (2 : Nat) ^ 9 = 512 := by decide
      rw [e2] at hZb
      obtain ⟨x, hx⟩ : ∃ x : Int, Hid (x = wrap64 (wrap64 (Z : Nat) - 255)) := ⟨_, Lib.hid rfl⟩
      have hxz : (Z : Int) + (-255) = x := by rw [hx.out]; unfold wrap64; omega
      rw [← hx.out]
      have hxb : -5000 ≤ x ∧ x ≤ 5000 := by omega
      go_enter Tryd.func62, Tryd.ntmps62
      unfold spanV
      go_upto_region 2 with (go_at_call 40; refine (G1 _ (h.keep (Chg.alloc (fun _ => False) _ _) (fun y => y))).mono ?_; rintro y w1 ⟨rfl, h1, hc1⟩)
      have hpl : p < w.heap.size := World.block_lt_of_cell? w _ h.c0
      have hcl : ∀ i x, (w.alloc (.cells #[.int .i64 (-255), .int .i64 256, .int .i64 9] 100)).cell? ⟨w.heap.size, i, none⟩ = some x → w1.cell? ⟨w.heap.size, i, none⟩ = some x := fun i x hx => hc1.cell hx (by show ¬ w.heap.size = p; omega)
      have k0 := hcl 0 (.int .i64 (-255)) (by simp)
      have k1 := hcl 1 (.int .i64 256) (by simp)
      have k2 := hcl 2 (.int .i64 9) (by simp)
      have hcw : Chg (fun k => k = p) w w1 := (Chg.alloc (fun k => k = p) w _).trans hc1 (fun _ _ y => y)
      have hwl : w.heap.size < w1.heap.size := World.block_lt_of_cell? w1 _ k0
      clear hcl hc1
      go_upto_region 6 with (go_at_call 55; refine (spans_any _).mono ?_; rintro y w2 ⟨rfl, hb2⟩)
      have hi0 := fun W => (spans_at W).1
      have hi1 := fun W => (spans_at W).2.1
      have hi2 := fun W => (spans_at W).2.2
      unfold spansV at hi0 hi1 hi2
      go_wp2
      go_loopw [26] (fun i wr => ∃ j : Nat, j ≤ 1 ∧ i = .int .i64 j ∧ Below w1.heap.size w1 wr ∧ Hid ((1 ≤ j → ¬ (-63 ≤ x ∧ x ≤ 64)) ∧ (2 ≤ j → ¬ (-255 ≤ x ∧ x ≤ 256)))) (fun i _ => 5 - (intOf i).toNat)
      case atStart => exact ⟨0, by omega, rfl, hb2, Lib.hid (by omega)⟩
      case round =>
        obtain ⟨j, hj, rfl, hbr, hno⟩ := hrel
        have m0 : wr.cell? ⟨w.heap.size, 0, none⟩ = some (.int .i64 (-255)) := by rw [hbr.cell (p := ⟨w.heap.size, 0, none⟩) hwl]; exact k0
        have m2 : wr.cell? ⟨w.heap.size, 2, none⟩ = some (.int .i64 9) := by rw [hbr.cell (p := ⟨w.heap.size, 2, none⟩) hwl]; exact k2
        have hwr2 : w.heap.size < wr.heap.size := by have := hbr.size; omega
        have hwr3 : ¬ w.heap.size = wr.heap.size := by omega
        have fin : ∀ w', Below wr.heap.size wr w' → DInv w' p s (a + 9) e ∧ Chg (fun k => k = p) w w' := fun w' hb' => ⟨(h1.keep (Chg.of_below (fun _ => False) hbr) (fun y => y)).keep (Chg.of_below (fun _ => False) hb') (fun y => y), (hcw.trans (Chg.of_below (fun _ => False) hbr) (fun _ _ y => y.elim)).trans (Chg.of_below (fun _ => False) hb') (fun _ _ y => y.elim)⟩
        have Fin := Lib.hid fin
        clear fin
        rcases (by omega : j = 0 ∨ j = 1) with rfl | rfl
        · rcases (by omega : ((-63) ≤ x ∧ x ≤ 64) ∨ x < (-63) ∨ ((-63) ≤ x ∧ 64 < x)) with ⟨q1, q2⟩ | q1 | ⟨q1, q2⟩
          · go_wp2
            go_ret2
            obtain ⟨f1, f2⟩ := Fin.out _ ((Below.refl _ _).alloc (Nat.le_refl _) _)
            exact ⟨0, false, a + 9, rfl, f1, by omega, hc, f2, by simp, fun _ => .inr (by simp only [okX]; omega)⟩
          all_goals
            go_wp2
            go_roundw
            case rel => exact ⟨0 + 1, by omega, by go_num, hbr.alloc hbr.size _, Lib.hid (by have := hno.out; omega)⟩
            case measure => simp [intOf]
        · have hx0 : ¬ x = 0 := by have := hno.out; omega
          go_wp2
          go_ret2
          obtain ⟨f1, f2⟩ := Fin.out _ ((Below.refl _ _).alloc (Nat.le_refl _) _)
          exact ⟨x, true, a + 9, (by show Ending.returned (Value.tuple #[.int .i64 x, .bool (x != 0)]) = _; rw [(by simp [hx0] : (x != 0) = true)]), f1, by omega, hc, f2, fun _ => ⟨rfl, rfl, by have := hno.out; simp only [okX]; omega⟩, by simp⟩
    · simp only [wOf, offOf] at *
      have e2 : (2 : Nat) ^ 12 = 4096 := by decide
      rw [e2] at hZb
      obtain ⟨x, hx⟩ : ∃ x : Int, Hid (x = wrap64 (wrap64 (Z : Nat) - 2047)) := ⟨_, Lib.hid rfl⟩
      have hxz : (Z : Int) + (-2047) = x := by rw [hx.out]; unfold wrap64; omega
      rw [← hx.out]
      have hxb : -5000 ≤ x ∧ x ≤ 5000 := by omega
      go_enter Tryd.func62, Tryd.ntmps62
      unfold spanV
      go_upto_region 2 with (go_at_call 40; refine (G1 _ (h.keep (Chg.alloc (fun _ => False) _ _) (fun y => y))).mono ?_; rintro y w1 ⟨rfl, h1, hc1⟩)
      have hpl : p < w.heap.size := World.block_lt_of_cell? w _ h.c0
      have hcl : ∀ i x, (w.alloc (.cells #[.int .i64 (-2047), .int .i64 2048, .int .i64 12] 100)).cell? ⟨w.heap.size, i, none⟩ = some x → w1.cell? ⟨w.heap.size, i, none⟩ = some x := fun i x hx => hc1.cell hx (by show ¬ w.heap.size = p; omega)
      have k0 := hcl 0 (.int .i64 (-2047)) (by simp)
      have k1 := hcl 1 (.int .i64 2048) (by simp)
      have k2 := hcl 2 (.int .i64 12) (by simp)
      have hcw : Chg (fun k => k = p) w w1 := (Chg.alloc (fun k => k = p) w _).trans hc1 (fun _ _ y => y)
      have hwl : w.heap.size < w1.heap.size := World.block_lt_of_cell? w1 _ k0
      clear hcl hc1
      go_upto_region 6 with (go_at_call 55; refine (spans_any _).mono ?_; rintro y w2 ⟨rfl, hb2⟩)
      have hi0 := fun W => (spans_at W).1
      have hi1 := fun W => (spans_at W).2.1
      have hi2 := fun W => (spans_at W).2.2
      unfold spansV at hi0 hi1 hi2
      go_wp2
      go_loopw [26] (fun i wr => ∃ j : Nat, j ≤ 2 ∧ i = .int .i64 j ∧ Below w1.heap.size w1 wr ∧ Hid ((1 ≤ j → ¬ (-63 ≤ x ∧ x ≤ 64)) ∧ (2 ≤ j → ¬ (-255 ≤ x ∧ x ≤ 256)))) (fun i _ => 5 - (intOf i).toNat)
      case atStart => exact ⟨0, by omega, rfl, hb2, Lib.hid (by omega)⟩
      case round =>
        obtain ⟨j, hj, rfl, hbr, hno⟩ := hrel
        have m0 : wr.cell? ⟨w.heap.size, 0, none⟩ = some (.int .i64 (-2047)) := by rw [hbr.cell (p := ⟨w.heap.size, 0, none⟩) hwl]; exact k0
        have m2 : wr.cell? ⟨w.heap.size, 2, none⟩ = some (.int .i64 12) := by rw [hbr.cell (p := ⟨w.heap.size, 2, none⟩) hwl]; exact k2
        have hwr2 : w.heap.size < wr.heap.size := by have := hbr.size; omega
        have hwr3 : ¬ w.heap.size = wr.heap.size := by omega
        have fin : ∀ w', Below wr.heap.size wr w' → DInv w' p s (a + 12) e ∧ Chg (fun k => k = p) w w' := fun w' hb' => ⟨(h1.keep (Chg.of_below (fun _ => False) hbr) (fun y => y)).keep (Chg.of_below (fun _ => False) hb') (fun y => y), (hcw.trans (Chg.of_below (fun _ => False) hbr) (fun _ _ y => y.elim)).trans (Chg.of_below (fun _ => False) hb') (fun _ _ y => y.elim)⟩
        have Fin := Lib.hid fin
        clear fin
        rcases (by omega : j = 0 ∨ j = 1 ∨ j = 2) with rfl | rfl | rfl
        · rcases (by omega : ((-63) ≤ x ∧ x ≤ 64) ∨ x < (-63) ∨ ((-63) ≤ x ∧ 64 < x)) with ⟨q1, q2⟩ | q1 | ⟨q1, q2⟩
          · go_wp2
            go_ret2
            obtain ⟨f1, f2⟩ := Fin.out _ ((Below.refl _ _).alloc (Nat.le_refl _) _)
            exact ⟨0, false, a + 12, rfl, f1, by omega, hc, f2, by simp, fun _ => .inr (by simp only [okX]; omega)⟩
          all_goals
            go_wp2
            go_roundw
            case rel => exact ⟨0 + 1, by omega, by go_num, hbr.alloc hbr.size _, Lib.hid (by have := hno.out; omega)⟩
            case measure => simp [intOf]
        · rcases (by omega : ((-255) ≤ x ∧ x ≤ 256) ∨ x < (-255) ∨ ((-255) ≤ x ∧ 256 < x)) with ⟨q1, q2⟩ | q1 | ⟨q1, q2⟩
          · go_wp2
            go_ret2
            obtain ⟨f1, f2⟩ := Fin.out _ ((Below.refl _ _).alloc (Nat.le_refl _) _)
            exact ⟨0, false, a + 12, rfl, f1, by omega, hc, f2, by simp, fun _ => .inr (by simp only [okX]; omega)⟩
          all_goals
            go_wp2
            go_roundw
            case rel => exact ⟨1 + 1, by omega, by go_num, hbr.alloc hbr.size _, Lib.hid (by have := hno.out; omega)⟩
            case measure => simp [intOf]
        · have hx0 : ¬ x = 0 := by have := hno.out; omega
          go_wp2
          go_ret2
          obtain ⟨f1, f2⟩ := Fin.out _ ((Below.refl _ _).alloc (Nat.le_refl _) _)
          exact ⟨x, true, a + 12, (by show Ending.returned (Value.tuple #[.int .i64 x, .bool (x != 0)]) = _; rw [(by simp [hx0] : (x != 0) = true)]), f1, by omega, hc, f2, fun _ => ⟨rfl, rfl, by have := hno.out; simp only [okX]; omega⟩, by simp⟩
  · have G1 := fun W hW => rget_none W p s a e (wOf k : Nat) hW ha (by omega) (by omega)
    rcases (by omega : k = 0 ∨ k = 1 ∨ k = 2 ∨ k = 3) with rfl | rfl | rfl | rfl
    · simp only [wOf] at hc; omega
    · simp only [wOf, offOf] at *
      go_enter Tryd.func62, Tryd.ntmps62
      unfold spanV
      go_upto_region 2 with (go_at_call 40; refine (G1 _ (h.keep (Chg.alloc (fun _ => False) _ _) (fun y => y))).mono ?_; rintro y w1 ⟨rfl, m, rfl⟩)
      go_wp2
      go_ret2
      refine ⟨0, false, a, rfl, (h.keep (Chg.alloc (fun _ => False) _ _) (fun y => y)).keep (Chg.drewN (fun _ => False) _ _) (fun y => y), Nat.le_refl _, ha, (Chg.alloc (fun k => k = p) w _).trans (Chg.drewN _ _ _) (fun _ _ y => y), by simp, fun _ => .inl (by omega)⟩
    · simp only [wOf, offOf] at *
      go_enter Tryd.func62, Tryd.ntmps62
      unfold spanV
      go_upto_region 2 with (go_at_call 40; refine (G1 _ (h.keep (Chg.alloc (fun _ => False) _ _) (fun y => y))).mono ?_; rintro y w1 ⟨rfl, m, rfl⟩)
      go_wp2
      go_ret2
      refine ⟨0, false, a, rfl, (h.keep (Chg.alloc (fun _ => False) _ _) (fun y => y)).keep (Chg.drewN (fun _ => False) _ _) (fun y => y), Nat.le_refl _, ha, (Chg.alloc (fun k => k = p) w _).trans (Chg.drewN _ _ _) (fun _ _ y => y), by simp, fun _ => .inl (by omega)⟩
    · simp only [wOf, offOf] at *
      go_enter Tryd.func62, Tryd.ntmps62
      unfold spanV
      go_upto_region 2 with (go_at_call 40; refine (G1 _ (h.keep (Chg.alloc (fun _ => False) _ _) (fun y => y))).mono ?_; rintro y w1 ⟨rfl, m, rfl⟩)
      go_wp2
      go_ret2
      refine ⟨0, false, a, rfl, (h.keep (Chg.alloc (fun _ => False) _ _) (fun y => y)).keep (Chg.drewN (fun _ => False) _ _) (fun y => y), Nat.le_refl _, ha, (Chg.alloc (fun k => k = p) w _).trans (Chg.drewN _ _ _) (fun _ _ y => y), by simp, fun _ => .inl (by omega)⟩
end Go.Proofs.YtdegmeclcbndgaaDoor
