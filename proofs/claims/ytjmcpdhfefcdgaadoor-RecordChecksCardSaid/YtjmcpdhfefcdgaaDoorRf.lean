/- Spans of records: both. -/
import Derived.Test.YtjmcpdhfefcdgaaDoorRd
import Derived.BigRegion
import Derived.Handy
namespace Go.Proofs.YtjmcpdhfefcdgaaDoor
open Go.RowKit Lb Dig

namespace Lb
def lowS (x : Int) (sm : List Smp) : Int := sm.foldl (fun a s => min a s.2.1) x
def highS (x : Int) (sm : List Smp) : Int := sm.foldl (fun a s => max a s.2.1) x
/-- The least and the greatest time of samples. -/
def spanS : List Smp → Int × Int
  | [] => (0, 0)
  | s :: sm => (lowS s.2.1 sm, highS s.2.1 sm)
theorem span_snoc {sm : List Smp} (h : sm ≠ []) (s : Smp) : spanS (sm ++ [s]) = (min (spanS sm).1 s.2.1, max (spanS sm).2 s.2.1) := by
  cases sm with
  | nil => exact absurd rfl h
  | cons a sm => simp [spanS, lowS, highS, List.foldl_append]
theorem low_snoc (x : Int) (sm : List Smp) (s : Smp) : lowS x (sm ++ [s]) = min (lowS x sm) s.2.1 := by simp [lowS, List.foldl_append]
theorem high_snoc (x : Int) (sm : List Smp) (s : Smp) : highS x (sm ++ [s]) = max (highS x sm) s.2.1 := by simp [highS, List.foldl_append]
theorem span_cons (s : Smp) (sm : List Smp) : spanS (s :: sm) = (lowS s.2.1 (s :: sm), highS s.2.1 (s :: sm)) := by
  have h1 : min s.2.1 s.2.1 = s.2.1 := by omega
  have h2 : max s.2.1 s.2.1 = s.2.1 := by omega
  simp [spanS, lowS, highS]
/-- The span of a record. -/
def spanR (k : Int) (sm : List Smp) (ms : List Mt) (fr tt : Int) : Int × Int := if chkR k sm ms fr tt ≠ 0 then (0, 0) else if k = 2 then (fr, tt) else spanS sm
end Lb

set_option maxRecDepth 100000 in
set_option maxHeartbeats 8000000 in
theorem rspan_any (k : Int) (sm : List Smp) (ms : List Mt) (fr tt : Int) (a : Option Addr) (n c : Nat) (bb : Option Addr) (n9 c9 : Nat) (w : World) (hr : RecIn w k sm ms fr tt a n c bb n9 c9) :
    Calls Tryd.prog 12 #[.agg #[.int .i64 k, .slice a n c, .slice bb n9 c9, .int .i64 fr, .int .i64 tt]] w fun e w' => e = .returned (.tuple #[.int .i64 (spanR k sm ms fr tt).1, .int .i64 (spanR k sm ms fr tt).2]) ∧ Below w.heap.size w w' := by
  obtain ⟨E, hE⟩ : ∃ E, Hid (chkR k sm ms fr tt = E) := ⟨_, Lib.hid rfl⟩
  obtain ⟨F, hF⟩ : ∃ F, Hid (spanR k sm ms fr tt = F) := ⟨_, Lib.hid rfl⟩
  have CK := fun W h => rchk_any k sm ms fr tt a n c bb n9 c9 W h
  rw [hE.out] at CK
  rw [hF.out]
  have R1 := RowV.new w [.int .i64 k, .slice a n c, .slice bb n9 c9, .int .i64 fr, .int .i64 tt] 25
  have B1 : Below w.heap.size w (w.alloc (.cells #[.int .i64 k, .slice a n c, .slice bb n9 c9, .int .i64 fr, .int .i64 tt] 25)) := (Below.refl _ _).alloc (Nat.le_refl _) _
  go_enter Tryd.func12, Tryd.ntmps12
  go_upto_region 1 with (fail)
  generalize w.alloc (.cells #[.int .i64 k, .slice a n c, .slice bb n9 c9, .int .i64 fr, .int .i64 tt] 25) = w1 at R1 B1 ⊢
  generalize w.heap.size = p at R1 ⊢
  have k0 := (R1 0 _ rfl).1
  have k1 := (R1 1 _ rfl).1
  have k2 := (R1 2 _ rfl).1
  have k3 := (R1 3 _ rfl).1
  have k4 := (R1 4 _ rfl).1
  have hr1 := hr.below B1
  obtain ⟨_, hn, _, hn9, hle, hle9, hrf, hrt⟩ := hr
  by_cases hE0 : E = 0
  · have hEi : (E : Int) = 0 := by omega
    have hsh := chkR_one (hE.out.trans hE0)
    have hen : Hid (F = if k = 2 then (fr, tt) else spanS sm) := Lib.hid (by rw [← hF.out]; unfold spanR; rw [hE.out, if_neg (by omega)])
    clear hF hE
    go_upto_region 3 with (go_at_call 14; refine (CK _ hr1).mono ?_; rintro y w2 ⟨rfl, hb2⟩; clear CK)
    have R2 := R1.below hb2
    have hr2 := hr1.below hb2
    have b02 := below_tr B1 hb2
    have k0 := (R2 0 _ rfl).1
    have k1 := (R2 1 _ rfl).1
    have k3 := (R2 3 _ rfl).1
    have k4 := (R2 4 _ rfl).1
    clear R1 hr1 B1 hb2
    go_quiet (fail)
    have R3 : RowV (w2.drewN nq) p [.int .i64 k, .slice a n c, .slice bb n9 c9, .int .i64 fr, .int .i64 tt] := R2.below (below_drewN (Below.refl _ _) _)
    have hr3 := hr2.below (below_drewN (Below.refl w2.heap.size w2) nq)
    have b03 : Below w.heap.size w (w2.drewN nq) := below_drewN b02 _
    generalize w2.drewN nq = w3 at R3 hr3 b03 ⊢
    have k1 := (R3 1 _ rfl).1
    go_upto_region 5 with (fail)
    go_loopw [4, 5, 18] (fun v4 v5 v18 wt => ∃ (j : Nat) (lo hi : Int), j ≤ n ∧ v18 = .int .i64 j ∧ v4 = .int .i64 lo ∧ v5 = .int .i64 hi ∧ Hid ((j = 0 → lo = fr ∧ hi = tt) ∧ (1 ≤ j → spanS (sm.take j) = (lo, hi))) ∧ Below w3.heap.size w3 wt) (fun _ _ v18 _ => n - (intOf v18).toNat)
    case atStart => exact ⟨0, fr, tt, by omega, rfl, rfl, rfl, Lib.hid ⟨fun _ => ⟨rfl, rfl⟩, fun h => by omega⟩, Below.refl _ _⟩
    case round =>
      clear k0 k1 k3 k4
      obtain ⟨j, lo, hi, hj, rfl, rfl, rfl, hok, hbel⟩ := hrel
      have hrw := hr3.below hbel
      by_cases hlt : j < n
      · have hji : (j : Int) < (n : Int) := by omega
        obtain ⟨⟨ls, t, v⟩, hp⟩ : ∃ p, sm[j]? = some p := ⟨_, List.getElem?_eq_getElem (by omega)⟩
        have hrow := hrw.sam
        obtain ⟨x, rfl⟩ := RowG.some_ hrow hp
        obtain ⟨la, ln, lc, c0, c1, c2, _, _, _, _, _, _, _⟩ := RowSm.at3 hrow hp
        simp only at c1 c2
        have R4 := RowV.new wr [.slice la ln lc, .int .i64 t, .int .u64 (v : Nat)] 43
        have B4 : Below wr.heap.size wr (wr.alloc (.cells #[.slice la ln lc, .int .i64 t, .int .u64 (v : Nat)] 43)) := (Below.refl _ _).alloc (Nat.le_refl _) _
        have Hp := Lib.hid hp
        clear hp hrow
        go_upto_region 7 with (fail)
        generalize wr.alloc (.cells #[.slice la ln lc, .int .i64 t, .int .u64 (v : Nat)] 43) = w8 at R4 B4 ⊢
        generalize wr.heap.size = q at R4 ⊢
        have r1 := (R4 1 _ rfl).1
        have hbel8 := below_tr hbel B4
        by_cases hj0 : j = 0
        · have hjb : ((j : Int) == 0) = true := by rw [beq_iff_eq]; omega
          go_upto_region 8 with (fail)
          go_quiet (fail)
          go_upto_region 9 with (fail)
          go_region
          go_wp2
          go_roundw
          case rel =>
            refine ⟨j + 1, t, t, by omega, by go_num, rfl, rfl, Lib.hid ⟨fun h => by omega, fun _ => ?_⟩, below_drewN hbel8 _⟩
            subst hj0
            rw [List.take_add_one, Hp.out]; rfl
          case measure => simp [intOf]; omega
        · have hjb : ((j : Int) == 0) = false := by rw [beq_eq_false_iff_ne]; omega
          go_upto_region 9 with (fail)
          go_region
          go_wp2
          go_roundw
          case rel =>
            refine ⟨j + 1, min lo t, max hi t, by omega, by go_num, rfl, rfl, Lib.hid ⟨fun h => by omega, fun _ => ?_⟩, hbel8.drew⟩
            have h1 := hok.out.2 (by omega)
            rw [List.take_add_one, Hp.out]
            show spanS (sm.take j ++ [(ls, t, v)]) = _
            rw [span_snoc (fun e => by have := congrArg List.length e; rw [List.length_take, List.length_nil] at this; omega), h1]
          case measure => simp [intOf]; omega
      · obtain rfl : j = n := by omega
        have hji : ¬ (j : Int) < (j : Int) := by omega
        have hF2 : F = (lo, hi) := by
          rw [hen.out]
          rcases hsh with ⟨rfl, _, _, _, h1, _, _⟩ | ⟨rfl, h0, _, _⟩
          · rw [if_neg (by decide)]
            have := hok.out.2 (by omega)
            rwa [List.take_of_length_le (by omega)] at this
          · rw [if_pos rfl]
            subst h0
            have h9 := hok.out.1 hn.symm
            rw [h9.1, h9.2]
        subst hF2
        go_wp2
        go_ret2
        exact ⟨rfl, below_tr b03 hbel⟩
  · have hEi : ¬ (E : Int) = 0 := by omega
    have hen : F = (0, 0) := by rw [← hF.out]; unfold spanR; rw [hE.out, if_pos hE0]
    subst hen
    go_wp2_with (go_at_call 14; refine (CK _ hr1).mono ?_; rintro y w2 ⟨rfl, hb2⟩)
    go_ret2
    exact ⟨rfl, below_tr B1 hb2⟩

set_option maxRecDepth 100000 in
set_option maxHeartbeats 8000000 in
theorem rrspan_any (k : Int) (sm : List Smp) (ms : List Mt) (fr tt : Int) (a : Option Addr) (n c : Nat) (bb : Option Addr) (n9 c9 : Nat) (w : World) (hr : RecIn w k sm ms fr tt a n c bb n9 c9) :
    Calls Tryd.prog 13 #[.agg #[.int .i64 k, .slice a n c, .slice bb n9 c9, .int .i64 fr, .int .i64 tt]] w fun e w' => e = .returned (.tuple #[.int .i64 (spanR k sm ms fr tt).1, .int .i64 (spanR k sm ms fr tt).2]) ∧ Below w.heap.size w w' := by
  obtain ⟨E, hE⟩ : ∃ E, Hid (chkR k sm ms fr tt = E) := ⟨_, Lib.hid rfl⟩
  obtain ⟨F, hF⟩ : ∃ F, Hid (spanR k sm ms fr tt = F) := ⟨_, Lib.hid rfl⟩
  have CK := fun W h => rrchk_any k sm ms fr tt a n c bb n9 c9 W h
  rw [hE.out] at CK
  rw [hF.out]
  have R1 := RowV.new w [.int .i64 k, .slice a n c, .slice bb n9 c9, .int .i64 fr, .int .i64 tt] 25
  have B1 : Below w.heap.size w (w.alloc (.cells #[.int .i64 k, .slice a n c, .slice bb n9 c9, .int .i64 fr, .int .i64 tt] 25)) := (Below.refl _ _).alloc (Nat.le_refl _) _
  go_enter Tryd.func13, Tryd.ntmps13
  go_upto_region 1 with (fail)
  generalize w.alloc (.cells #[.int .i64 k, .slice a n c, .slice bb n9 c9, .int .i64 fr, .int .i64 tt] 25) = w1 at R1 B1 ⊢
  generalize w.heap.size = p at R1 ⊢
  have k0 := (R1 0 _ rfl).1
  have k1 := (R1 1 _ rfl).1
  have k2 := (R1 2 _ rfl).1
  have k3 := (R1 3 _ rfl).1
  have k4 := (R1 4 _ rfl).1
  have hr1 := hr.below B1
  obtain ⟨_, hn, _, hn9, hle, hle9, hrf, hrt⟩ := hr
  by_cases hE0 : E = 0
  · have hEi : (E : Int) = 0 := by omega
    have hsh := chkR_one (hE.out.trans hE0)
    have hen : Hid (F = if k = 2 then (fr, tt) else spanS sm) := Lib.hid (by rw [← hF.out]; unfold spanR; rw [hE.out, if_neg (by omega)])
    clear hF hE
    go_upto_region 3 with (go_at_call 15; refine (CK _ hr1).mono ?_; rintro y w2 ⟨rfl, hb2⟩; clear CK)
    have R2 := R1.below hb2
    have hr2 := hr1.below hb2
    have b02 := below_tr B1 hb2
    have k0 := (R2 0 _ rfl).1
    have k1 := (R2 1 _ rfl).1
    have k3 := (R2 3 _ rfl).1
    have k4 := (R2 4 _ rfl).1
    clear R1 hr1 B1 hb2
    rcases hsh with ⟨rfl, rfl, rfl, rfl, s1, s32, hbad⟩ | ⟨rfl, rfl, hm0, hft⟩
    · obtain ⟨s0, sm, rfl⟩ : ∃ s0 sm', sm = s0 :: sm' := by
        cases sm with
        | nil => simp at s1
        | cons s0 sm' => exact ⟨s0, sm', rfl⟩
      have hF2 : Hid (F = (lowS s0.2.1 (s0 :: sm), highS s0.2.1 (s0 :: sm))) := Lib.hid (by rw [hen.out, if_neg (by decide), span_cons])
      have hrow := hr2.sam
      obtain ⟨x, rfl⟩ := RowG.some_ (i := 0) hrow rfl
      obtain ⟨la, ln, lc, c0, c1, c2, _, _, _, _, _, _, _⟩ := RowSm.at3 hrow (i := 0) rfl
      obtain ⟨ls, t0, v0⟩ := s0
      simp only at c1 c2 hF2
      have hx0 : x.add 0 = x := by obtain ⟨xb, xo, xi⟩ := x; cases xi <;> simp [Addr.add]
      rw [Nat.zero_mul, hx0] at c1
      have hn0 : 0 < n := by rw [List.length_cons] at hn; omega
      have hn0i : (0 : Int) < (n : Int) := by omega
      clear hen c0 c2 hrow
      go_upto_region 5 with (fail)
      go_quiet (fail)
      have R3 : RowV (w2.drewN nq) p [.int .i64 1, .slice (some x) n c, .slice bb n9 c9, .int .i64 0, .int .i64 0] := R2.below (below_drewN (Below.refl _ _) _)
      have hr3 := hr2.below (below_drewN (Below.refl w2.heap.size w2) nq)
      have b03 : Below w.heap.size w (w2.drewN nq) := below_drewN b02 _
      generalize w2.drewN nq = w3 at R3 hr3 b03 ⊢
      have k1 := (R3 1 _ rfl).1
      go_upto_region 7 with (fail)
      go_loopw [4, 5, 6] (fun v4 v5 v6 wt => ∃ (j : Nat) (lo hi : Int), j ≤ n ∧ v6 = .int .i64 j ∧ v4 = .int .i64 lo ∧ v5 = .int .i64 hi ∧ Hid (lo = lowS t0 (((ls, t0, v0) :: sm).take j) ∧ hi = highS t0 (((ls, t0, v0) :: sm).take j)) ∧ Below w3.heap.size w3 wt) (fun _ _ v6 _ => n - (intOf v6).toNat)
      case atStart => exact ⟨0, t0, t0, by omega, rfl, rfl, rfl, Lib.hid ⟨rfl, rfl⟩, Below.refl _ _⟩
      case round =>
        clear k0 k1 k3 k4
        obtain ⟨j, lo, hi, hj, rfl, rfl, rfl, hok, hbel⟩ := hrel
        have RW := R3.below hbel
        have k1 := (RW 1 _ rfl).1
        have hrw := hr3.below hbel
        by_cases hlt : j < n
        · have hji : (j : Int) < (n : Int) := by omega
          obtain ⟨⟨ls', t, v⟩, hp⟩ : ∃ p, ((ls, t0, v0) :: sm)[j]? = some p := ⟨_, List.getElem?_eq_getElem (by omega)⟩
          have hrow := hrw.sam
          obtain ⟨la', ln', lc', c0, c1, c2, _, _, _, _, _, _, _⟩ := RowSm.at3 hrow hp
          simp only at c1 c2
          have hst : Hid (min lo t = lowS t0 (((ls, t0, v0) :: sm).take (j + 1)) ∧ max hi t = highS t0 (((ls, t0, v0) :: sm).take (j + 1))) := Lib.hid (by
            rw [List.take_add_one, hp]
            show _ = lowS t0 (_ ++ [(ls', t, v)]) ∧ _ = highS t0 (_ ++ [(ls', t, v)])
            rw [low_snoc, high_snoc, hok.out.1, hok.out.2]; exact ⟨rfl, rfl⟩)
          clear hp hrow
          go_wp2
          go_roundw
          case rel => exact ⟨j + 1, min lo t, max hi t, by omega, by go_num, rfl, rfl, hst, hbel⟩
          case measure => simp [intOf]; omega
        · obtain rfl : j = n := by omega
          have hji : ¬ (j : Int) < (j : Int) := by omega
          have hF3 : F = (lo, hi) := by
            rw [hF2.out, hok.out.1, hok.out.2, List.take_of_length_le (by omega)]
          subst hF3
          go_wp2
          go_ret2
          exact ⟨rfl, below_tr b03 hbel⟩
    · have hF2 : F = (fr, tt) := by rw [hen.out, if_pos rfl]
      subst hF2
      go_upto_region 4 with (fail)
      go_quiet (fail)
      go_wp2
      go_ret2
      exact ⟨rfl, below_drewN b02 _⟩
  · have hEi : ¬ (E : Int) = 0 := by omega
    have hen : F = (0, 0) := by rw [← hF.out]; unfold spanR; rw [hE.out, if_pos hE0]
    subst hen
    go_wp2_with (go_at_call 15; refine (CK _ hr1).mono ?_; rintro y w2 ⟨rfl, hb2⟩)
    go_ret2
    exact ⟨rfl, below_tr B1 hb2⟩
end Go.Proofs.YtjmcpdhfefcdgaaDoor
