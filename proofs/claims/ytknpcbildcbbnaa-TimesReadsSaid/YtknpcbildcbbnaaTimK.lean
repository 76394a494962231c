/- The document's reader of times. -/
import Derived.Test.YtknpcbildcbbnaaTimB
import Derived.Test.YtknpcbildcbbnaaCopy
import Derived.Deep.CutBlock
namespace Go.Proofs.Ytknpcbildcbbnaa
open Go.RowKit Bit Tim

theorem XInv.lt {w : World} {p : Nat} {v : Value} {L : List Bool} (h : XInv w p v L) : p < w.heap.size := World.block_lt_of_cell? w _ h.c0
theorem XInv.lt2 {w : World} {p : Nat} {v : Value} {L : List Bool} (h : XInv w p v L) (b : Bool) (R : List Bool) (hL : L = b :: R) (g : Nat) (hg : v.ownBlock = some g) : g < w.heap.size := by
  rcases h.sl with ⟨h1, _⟩ | ⟨g', o, cap, rfl, _, _, hc⟩
  · rw [hL] at h1; cases h1
  · cases hg
    exact World.block_lt_of_cell? w _ (hc 0 b (by rw [hL]; rfl))

structure RcOut (w : World) (p : Nat) (v : Value) (L : List Bool) (y : Ending) (w' : World) : Prop where
  ex : ∃ (x : Int) (ok : Bool) (L' : List Bool) (v' : Value), y = .returned (.tuple #[.int .i64 x, .bool ok]) ∧ XInv w' p v' L' ∧ v'.ownBlock = v.ownBlock ∧ Chg (fun k => k = p) w w' ∧
      (ok = true → ∃ n, parse L = some (x, n) ∧ n ≤ L.length ∧ L' = L.drop n) ∧ (ok = false → parse L = none)

theorem onesB_of (j : Nat) (hj : j ≤ 3) (R : List Bool) : onesB 4 (List.replicate j true ++ false :: R) = some j := by
  rcases (by omega : j = 0 ∨ j = 1 ∨ j = 2 ∨ j = 3) with rfl | rfl | rfl | rfl <;> rfl
theorem onesB_four (R : List Bool) : onesB 4 (List.replicate 4 true ++ R) = some 4 := rfl
theorem onesB_short (j : Nat) (hj : j ≤ 3) : onesB 4 (List.replicate j true) = none := by
  rcases (by omega : j = 0 ∨ j = 1 ∨ j = 2 ∨ j = 3) with rfl | rfl | rfl | rfl <;> rfl

theorem parse_none {L : List Bool} (h : onesB 4 L = none) : parse L = none := by unfold parse; rw [h]
theorem parse_at {L : List Bool} {k : Nat} (h : onesB 4 L = some k) (R : List Bool) (hR : L.drop (frOf k) = R) (hf : frOf k ≤ L.length) :
    parse L = if wOf k ≤ R.length then some (wrap64 (wrap64 (valB (R.take (wOf k)) : Nat) - offOf k), frOf k + wOf k) else none := by
  unfold parse
  rw [h]
  simp only
  rw [hR]
  have : R.length = L.length - frOf k := by rw [← hR, List.length_drop]
  by_cases hw : wOf k ≤ R.length
  · rw [if_pos hw, if_pos (by omega)]
  · rw [if_neg hw, if_neg (by omega)]

set_option maxRecDepth 100000 in
set_option maxHeartbeats 2000000 in
theorem rchange_any (w : World) (p : Nat) (v : Value) (L : List Bool) (h : XInv w p v L) :
    Calls Try.prog 34 #[.pointer (some ⟨p, 0, none⟩)] w (RcOut w p v L) := by
  go_enter Try.func34, Try.ntmps34
  go_upto_block 0 with (fail)
  go_cut [4, 5, 6] from 11 to 23 (fun a _ _ wc => ∃ (k : Nat) (v1 : Value), k ≤ 4 ∧ a = .int .i64 k ∧ onesB 4 L = some k ∧ frOf k ≤ L.length ∧ XInv wc p v1 (L.drop (frOf k)) ∧ Hid (v1.ownBlock = v.ownBlock) ∧ Chg (fun k => k = p) w wc)
  case first =>
    go_wp2
    go_loopw [4] (fun i wr => ∃ (j : Nat) (v1 : Value), j ≤ 4 ∧ i = .int .i64 j ∧ XInv wr p v1 (L.drop j) ∧ Hid (L.take j = List.replicate j true) ∧ Hid (v1.ownBlock = v.ownBlock) ∧ Chg (fun k => k = p) w wr) (fun i _ => 4 - (intOf i).toNat)
    case atStart => exact ⟨0, v, by omega, rfl, h, Lib.hid rfl, Lib.hid rfl, Chg.refl _ _⟩
    case round =>
      obtain ⟨j, v1, hj, rfl, hX, htk, hv1, hch⟩ := hrel
      by_cases h4 : j = 4
      · subst h4
        have hl4 : 4 ≤ L.length := by
          have := congrArg List.length htk.out
          rw [List.length_take, List.length_replicate] at this; omega
        have ho : onesB 4 L = some 4 := by
          have : L = List.replicate 4 true ++ L.drop 4 := by
            conv => lhs; rw [← List.take_append_drop 4 L]
            rw [htk.out]
          rw [this]; exact onesB_four _
        have Ho := Lib.hid ho
        clear ho
        go_wp2
        go_meet
        case rel => exact ⟨4, v1, by omega, rfl, Ho.out, hl4, hX, hv1, hch⟩
      · have hj3 : j ≤ 3 := by omega
        have hji : (j : Int) < 4 := by omega
        have hj0 : (0 : Int) ≤ j := by omega
        cases hD : L.drop j with
        | nil =>
          rw [hD] at hX
          have hL : L = List.replicate j true := by
            conv => lhs; rw [← List.take_append_drop j L]
            rw [htk.out, hD, List.append_nil]
          have hp : parse L = none := parse_none (by rw [hL]; exact onesB_short j hj3)
          have G1 := refget_none wr p v1 [] 1 hX (by simp)
          have HD := Lib.hid hD
          clear hL hD
          go_wp2_with (go_at_call 21; refine G1.mono ?_; rintro y w3 ⟨rfl, rfl⟩)
          go_ret2
          exact ⟨0, false, [], v1, rfl, hX, hv1.out, hch, by simp, fun _ => hp⟩
        | cons b R2 =>
          rw [hD] at hX
          have hL : L = List.replicate j true ++ b :: R2 := by
            conv => lhs; rw [← List.take_append_drop j L]
            rw [htk.out, hD]
          have hD1 : L.drop (j + 1) = R2 := by rw [← List.drop_drop, hD]; rfl
          have hl1 : j + 1 ≤ L.length := by rw [hL]; simp
          have G1 := refget_some wr p v1 (b :: R2) 1 hX (by omega) (by simp)
          have hvb : valB (List.take 1 (b :: R2)) = if b then 1 else 0 := bitval
          rw [hvb] at G1
          have HL := Lib.hid hL
          have HD1 := Lib.hid hD1
          clear hL hD hD1 hvb
          cases b with
          | false =>
            have hfr : frOf j = j + 1 := by rcases (by omega : j = 0 ∨ j = 1 ∨ j = 2 ∨ j = 3) with rfl | rfl | rfl | rfl <;> rfl
            have HF := Lib.hid hfr
            clear hfr
            simp only [Bool.false_eq_true, if_false] at G1
            go_wp2_with (go_at_call 21; refine G1.mono ?_; rintro y w3 ⟨rfl, ⟨v3, h3, hv3⟩, hc3⟩)
            go_meet
            case rel =>
              refine ⟨j, v3, by omega, rfl, by rw [HL.out]; exact onesB_of j hj3 R2, by rw [HF.out]; exact hl1, ?_, Lib.hid (by rw [hv3, hv1.out]), hch.trans hc3 (fun _ _ x => x)⟩
              rw [HF.out, HD1.out]; exact h3
          | true =>
            simp only [if_true] at G1
            go_wp2_with (go_at_call 21; refine G1.mono ?_; rintro y w3 ⟨rfl, ⟨v3, h3, hv3⟩, hc3⟩)
            go_roundw
            case rel =>
              refine ⟨j + 1, v3, by omega, by go_num, ?_, Lib.hid ?_, Lib.hid (by rw [hv3, hv1.out]), hch.trans hc3 (fun _ _ x => x)⟩
              · rw [HD1.out]; exact h3
              · rw [HL.out, List.replicate_succ']
                rw [show List.replicate j true ++ true :: R2 = (List.replicate j true ++ [true]) ++ R2 from by simp, List.take_append_of_le_length (by simp), List.take_of_length_le (by simp)]
            case measure => simp [intOf]; omega
  case rest =>
    obtain ⟨k, v1, hk, rfl, ho, hfl, hX, hv1, hch⟩ := hcut
    have hpl : p < wc.heap.size := hX.lt
    have hpa := parse_at ho _ rfl hfl
    obtain ⟨R, hR⟩ : ∃ R, Hid (R = L.drop (frOf k)) := ⟨_, Lib.hid rfl⟩
    rw [← hR.out] at hpa hX
    have hRl : R.length = L.length - frOf k := by rw [hR.out, List.length_drop]
    have Ho := Lib.hid ho
    have Hpa := Lib.hid hpa
    clear ho hpa
    rcases (by omega : k = 0 ∨ k = 1 ∨ k = 2 ∨ k = 3 ∨ k = 4) with rfl | rfl | rfl | rfl | rfl
    · simp only [wOf, offOf, frOf] at *
      by_cases hw : 0 ≤ R.length
      · have G1 := fun W (hb : Below wc.heap.size wc W) => refget_some W p v1 R 0 (hX.keep (Chg.of_below (fun _ => False) hb) (fun _ _ x => x)) (by omega) hw
        go_wp2_with (go_at_call 21; refine (G1 _ (((Below.refl _ _).alloc (Nat.le_refl _) _).alloc (by simp) _)).mono ?_; rintro y w3 ⟨rfl, ⟨v3, h3, hv3⟩, hc3⟩)
        have hbb : Below wc.heap.size wc _ := ((Below.refl wc.heap.size wc).alloc (Nat.le_refl _) (Obj.cells #[.int .i64 0, .int .i64 7, .int .i64 9, .int .i64 12, .int .i64 64] 3)).alloc (by simp) (Obj.cells #[.int .i64 0, .int .i64 63, .int .i64 255, .int .i64 2047, .int .i64 0] 2)
        go_ret2
        refine ⟨_, true, _, v3, rfl, h3, by rw [hv3, hv1.out], (hch.trans (Chg.of_below (fun _ => False) hbb) (fun _ _ x => x.elim)).trans hc3 (fun _ _ x => x), fun _ => ⟨_, (by rw [Hpa.out, if_pos hw] <;> (congr 2; (try rw [List.take_zero]); unfold wrap64; omega)), by omega, by rw [hR.out, List.drop_drop]⟩, by simp⟩
      · omega
    · simp only [wOf, offOf, frOf] at *
      by_cases hw : 7 ≤ R.length
      · have G1 := fun W (hb : Below wc.heap.size wc W) => refget_some W p v1 R 7 (hX.keep (Chg.of_below (fun _ => False) hb) (fun _ _ x => x)) (by omega) hw
        go_wp2_with (go_at_call 21; refine (G1 _ (((Below.refl _ _).alloc (Nat.le_refl _) _).alloc (by simp) _)).mono ?_; rintro y w3 ⟨rfl, ⟨v3, h3, hv3⟩, hc3⟩)
        have hbb : Below wc.heap.size wc _ := ((Below.refl wc.heap.size wc).alloc (Nat.le_refl _) (Obj.cells #[.int .i64 0, .int .i64 7, .int .i64 9, .int .i64 12, .int .i64 64] 3)).alloc (by simp) (Obj.cells #[.int .i64 0, .int .i64 63, .int .i64 255, .int .i64 2047, .int .i64 0] 2)
        go_ret2
        refine ⟨_, true, _, v3, rfl, h3, by rw [hv3, hv1.out], (hch.trans (Chg.of_below (fun _ => False) hbb) (fun _ _ x => x.elim)).trans hc3 (fun _ _ x => x), fun _ => ⟨_, (by rw [Hpa.out, if_pos hw] <;> (congr 2; (try rw [List.take_zero]); unfold wrap64; omega)), by omega, by rw [hR.out, List.drop_drop]⟩, by simp⟩
      · have G1 := fun W (hb : Below wc.heap.size wc W) => refget_none W p v1 R 7 (hX.keep (Chg.of_below (fun _ => False) hb) (fun _ _ x => x)) (by omega)
        go_wp2_with (go_at_call 21; refine (G1 _ (((Below.refl _ _).alloc (Nat.le_refl _) _).alloc (by simp) _)).mono ?_; rintro y w3 ⟨rfl, rfl⟩)
        have hbb : Below wc.heap.size wc _ := ((Below.refl wc.heap.size wc).alloc (Nat.le_refl _) (Obj.cells #[.int .i64 0, .int .i64 7, .int .i64 9, .int .i64 12, .int .i64 64] 3)).alloc (by simp) (Obj.cells #[.int .i64 0, .int .i64 63, .int .i64 255, .int .i64 2047, .int .i64 0] 2)
        go_ret2
        exact ⟨_, false, R, v1, rfl, hX.keep (Chg.of_below (fun _ => False) hbb) (fun _ _ x => x), hv1.out, hch.trans (Chg.of_below (fun _ => False) hbb) (fun _ _ x => x.elim), by simp, fun _ => by rw [Hpa.out, if_neg hw]⟩
    · simp only [wOf, offOf, frOf] at *
      by_cases hw : 9 ≤ R.length
      · have G1 := fun W (hb : Below wc.heap.size wc W) => refget_some W p v1 R 9 (hX.keep (Chg.of_below (fun _ => False) hb) (fun _ _ x => x)) (by omega) hw
        go_wp2_with (go_at_call 21; refine (G1 _ (((Below.refl _ _).alloc (Nat.le_refl _) _).alloc (by simp) _)).mono ?_; rintro y w3 ⟨rfl, ⟨v3, h3, hv3⟩, hc3⟩)
        have hbb : Below wc.heap.size wc _ := ((Below.refl wc.heap.size wc).alloc (Nat.le_refl _) (Obj.cells #[.int .i64 0, .int .i64 7, .int .i64 9, .int .i64 12, .int .i64 64] 3)).alloc (by simp) (Obj.cells #[.int .i64 0, .int .i64 63, .int .i64 255, .int .i64 2047, .int .i64 0] 2)
        go_ret2
        refine ⟨_, true, _, v3, rfl, h3, by rw [hv3, hv1.out], (hch.trans (Chg.of_below (fun _ => False) hbb) (fun _ _ x => x.elim)).trans hc3 (fun _ _ x => x), fun _ => ⟨_, (by rw [Hpa.out, if_pos hw] <;> (congr 2; (try rw [List.take_zero]); unfold wrap64; omega)), by omega, by rw [hR.out, List.drop_drop]⟩, by simp⟩
      · have G1 := fun W (hb : Below wc.heap.size wc W) => refget_none W p v1 R 9 (hX.keep (Chg.of_below (fun _ => False) hb) (fun _ _ x => x)) (by omega)
        go_wp2_with (go_at_call 21; refine (G1 _ (((Below.refl _ _).alloc (Nat.le_refl _) _).alloc (by simp) _)).mono ?_; rintro y w3 ⟨rfl, rfl⟩)
        have hbb : Below wc.heap.size wc _ := ((Below.refl wc.heap.size wc).alloc (Nat.le_refl _) (Obj.cells #[.int .i64 0, .int .i64 7, .int .i64 9, .int .i64 12, .int .i64 64] 3)).alloc (by simp) (Obj.cells #[.int .i64 0, .int .i64 63, .int .i64 255, .int .i64 2047, .int .i64 0] 2)
        go_ret2
        exact ⟨_, false, R, v1, rfl, hX.keep (Chg.of_below (fun _ => False) hbb) (fun _ _ x => x), hv1.out, hch.trans (Chg.of_below (fun _ => False) hbb) (fun _ _ x => x.elim), by simp, fun _ => by rw [Hpa.out, if_neg hw]⟩
    · simp only [wOf, offOf, frOf] at *
      by_cases hw : 12 ≤ R.length
      · have G1 := fun W (hb : Below wc.heap.size wc W) => refget_some W p v1 R 12 (hX.keep (Chg.of_below (fun _ => False) hb) (fun _ _ x => x)) (by omega) hw
        go_wp2_with (go_at_call 21; refine (G1 _ (((Below.refl _ _).alloc (Nat.le_refl _) _).alloc (by simp) _)).mono ?_; rintro y w3 ⟨rfl, ⟨v3, h3, hv3⟩, hc3⟩)
        have hbb : Below wc.heap.size wc _ := ((Below.refl wc.heap.size wc).alloc (Nat.le_refl _) (Obj.cells #[.int .i64 0, .int .i64 7, .int .i64 9, .int .i64 12, .int .i64 64] 3)).alloc (by simp) (Obj.cells #[.int .i64 0, .int .i64 63, .int .i64 255, .int .i64 2047, .int .i64 0] 2)
        go_ret2
        refine ⟨_, true, _, v3, rfl, h3, by rw [hv3, hv1.out], (hch.trans (Chg.of_below (fun _ => False) hbb) (fun _ _ x => x.elim)).trans hc3 (fun _ _ x => x), fun _ => ⟨_, (by rw [Hpa.out, if_pos hw] <;> (congr 2; (try rw [List.take_zero]); unfold wrap64; omega)), by omega, by rw [hR.out, List.drop_drop]⟩, by simp⟩
      · have G1 := fun W (hb : Below wc.heap.size wc W) => refget_none W p v1 R 12 (hX.keep (Chg.of_below (fun _ => False) hb) (fun _ _ x => x)) (by omega)
        go_wp2_with (go_at_call 21; refine (G1 _ (((Below.refl _ _).alloc (Nat.le_refl _) _).alloc (by simp) _)).mono ?_; rintro y w3 ⟨rfl, rfl⟩)
        have hbb : Below wc.heap.size wc _ := ((Below.refl wc.heap.size wc).alloc (Nat.le_refl _) (Obj.cells #[.int .i64 0, .int .i64 7, .int .i64 9, .int .i64 12, .int .i64 64] 3)).alloc (by simp) (Obj.cells #[.int .i64 0, .int .i64 63, .int .i64 255, .int .i64 2047, .int .i64 0] 2)
        go_ret2
        exact ⟨_, false, R, v1, rfl, hX.keep (Chg.of_below (fun _ => False) hbb) (fun _ _ x => x), hv1.out, hch.trans (Chg.of_below (fun _ => False) hbb) (fun _ _ x => x.elim), by simp, fun _ => by rw [Hpa.out, if_neg hw]⟩
    · simp only [wOf, offOf, frOf] at *
      by_cases hw : 64 ≤ R.length
      · have G1 := fun W (hb : Below wc.heap.size wc W) => refget_some W p v1 R 64 (hX.keep (Chg.of_below (fun _ => False) hb) (fun _ _ x => x)) (by omega) hw
        go_wp2_with (go_at_call 21; refine (G1 _ (((Below.refl _ _).alloc (Nat.le_refl _) _).alloc (by simp) _)).mono ?_; rintro y w3 ⟨rfl, ⟨v3, h3, hv3⟩, hc3⟩)
        have hbb : Below wc.heap.size wc _ := ((Below.refl wc.heap.size wc).alloc (Nat.le_refl _) (Obj.cells #[.int .i64 0, .int .i64 7, .int .i64 9, .int .i64 12, .int .i64 64] 3)).alloc (by simp) (Obj.cells #[.int .i64 0, .int .i64 63, .int .i64 255, .int .i64 2047, .int .i64 0] 2)
        go_ret2
        refine ⟨_, true, _, v3, rfl, h3, by rw [hv3, hv1.out], (hch.trans (Chg.of_below (fun _ => False) hbb) (fun _ _ x => x.elim)).trans hc3 (fun _ _ x => x), fun _ => ⟨_, (by rw [Hpa.out, if_pos hw] <;> (congr 2; (try rw [List.take_zero]); unfold wrap64; omega)), by omega, by rw [hR.out, List.drop_drop]⟩, by simp⟩
      · have G1 := fun W (hb : Below wc.heap.size wc W) => refget_none W p v1 R 64 (hX.keep (Chg.of_below (fun _ => False) hb) (fun _ _ x => x)) (by omega)
        go_wp2_with (go_at_call 21; refine (G1 _ (((Below.refl _ _).alloc (Nat.le_refl _) _).alloc (by simp) _)).mono ?_; rintro y w3 ⟨rfl, rfl⟩)
        have hbb : Below wc.heap.size wc _ := ((Below.refl wc.heap.size wc).alloc (Nat.le_refl _) (Obj.cells #[.int .i64 0, .int .i64 7, .int .i64 9, .int .i64 12, .int .i64 64] 3)).alloc (by simp) (Obj.cells #[.int .i64 0, .int .i64 63, .int .i64 255, .int .i64 2047, .int .i64 0] 2)
        go_ret2
        exact ⟨_, false, R, v1, rfl, hX.keep (Chg.of_below (fun _ => False) hbb) (fun _ _ x => x), hv1.out, hch.trans (Chg.of_below (fun _ => False) hbb) (fun _ _ x => x.elim), by simp, fun _ => by rw [Hpa.out, if_neg hw]⟩
end Go.Proofs.Ytknpcbildcbbnaa
