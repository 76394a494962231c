/- Whether a record is too much to be looked at. -/
import Derived.Test.YtjmcpdhfefcdgaaDoorRb
import Derived.BigRegion
import Derived.Handy
namespace Go.Proofs.YtjmcpdhfefcdgaaDoor
open Go.RowKit Lb Dig

structure BoolOut (y : Ending) : Prop where
  ex : ∃ g, y = .returned (.bool g)
set_option maxRecDepth 100000 in
set_option maxHeartbeats 8000000 in
theorem great_any (k : Int) (sm : List Smp) (ms : List Mt) (fr tt : Int) (a : Option Addr) (n c : Nat) (b : Option Addr) (n' c' : Nat) (w : World) (hr : RecIn w k sm ms fr tt a n c b n' c') :
    Calls Tryd.prog 8 #[.agg #[.int .i64 k, .slice a n c, .slice b n' c', .int .i64 fr, .int .i64 tt]] w fun e w' => BoolOut e ∧ Below w.heap.size w w' := by
  have R1 := RowV.new w [.int .i64 k, .slice a n c, .slice b n' c', .int .i64 fr, .int .i64 tt] 25
  have B1 : Below w.heap.size w (w.alloc (.cells #[.int .i64 k, .slice a n c, .slice b n' c', .int .i64 fr, .int .i64 tt] 25)) := (Below.refl _ _).alloc (Nat.le_refl _) _
  go_enter Tryd.func8, Tryd.ntmps8
  go_upto_region 1 with (fail)
  generalize w.alloc (.cells #[.int .i64 k, .slice a n c, .slice b n' c', .int .i64 fr, .int .i64 tt] 25) = w1 at R1 B1 ⊢
  generalize w.heap.size = p at R1 ⊢
  have k2 := (R1 2 _ rfl).1
  have hr1 := hr.below B1
  have hn := hr.len
  have hle := hr.le
  clear hr
  go_upto_region 3 with (fail)
  go_loopw [3, 4] (fun v3 v4 wt => ∃ (z : Int) (j : Nat), j ≤ n ∧ v3 = .int .i64 z ∧ v4 = .int .i64 j ∧ Below w1.heap.size w1 wt) (fun _ v4 _ => n - (intOf v4).toNat)
  case atStart => exact ⟨_, 0, by omega, rfl, rfl, Below.refl _ _⟩
  case round =>
    clear k2
    obtain ⟨z, j, hj, rfl, rfl, hb⟩ := hrel
    have k1 := (R1.below hb 1 _ rfl).1
    have hrw := hr1.below hb
    by_cases hlt : j < n
    · have hji : (j : Int) < (n : Int) := by omega
      by_cases hz : z < 1000
      · have hzd : decide (z < 1000) = true := decide_eq_true hz
        obtain ⟨⟨ls, t, v⟩, hp⟩ : ∃ p, sm[j]? = some p := ⟨_, List.getElem?_eq_getElem (by omega)⟩
        have hrow := hrw.sam
        obtain ⟨x, rfl⟩ := RowG.some_ hrow hp
        obtain ⟨la, ln, lc, c0, c1, c2, hq, hln, _, hb32, hsz, _, _⟩ := RowSm.at3 hrow hp
        simp only at c1 c2 hq hln hsz
        clear hrow
        go_upto_region 7 with (fail)
        go_loopw [3, 5] (fun v3 v5 wt => ∃ (z : Int) (i : Nat), i ≤ ln ∧ v3 = .int .i64 z ∧ v5 = .int .i64 i ∧ Below wr.heap.size wr wt) (fun _ v5 _ => ln - (intOf v5).toNat)
        case atStart => exact ⟨_, 0, by omega, rfl, rfl, Below.refl _ _⟩
        case round =>
          rename_i wq
          obtain ⟨z2, i, hi, rfl, rfl, hb2⟩ := hrel
          have k1' := (Chg.of_below (fun _ => False) hb2).cell k1 (fun x => x)
          have c0' := (Chg.of_below (fun _ => False) hb2).cell c0 (fun x => x)
          have hq2 := hq.below hb2
          clear k1 c0 c1 c2 hrw hz hzd
          by_cases hlt2 : i < ln
          · have hii : (i : Int) < (ln : Int) := by omega
            by_cases hz2 : z2 < 1000
            · have hzd2 : decide (z2 < 1000) = true := decide_eq_true hz2
              obtain ⟨⟨pn, pv⟩, hpp⟩ : ∃ p, ls[i]? = some p := ⟨_, List.getElem?_eq_getElem (by omega)⟩
              rcases hq2.row with h0 | ⟨y, rfl, hcc⟩
              · rw [h0] at hpp; simp at hpp
              obtain ⟨e0, e1⟩ := hcc i _ hpp
              simp only at e0 e1
              clear hpp hcc hq2
              go_upto_region 9 with (fail)
              go_quiet (fail)
              go_wp2
              go_roundw
              case rel => exact ⟨_, i + 1, by omega, rfl, by go_num, below_drewN hb2 _⟩
              case measure => simp [intOf]; omega
            · have hzd2 : decide (z2 < 1000) = false := decide_eq_false hz2
              go_wp2
              go_roundw
              case rel => exact ⟨_, j + 1, by omega, rfl, by go_num, below_tr hb hb2⟩
              case measure => simp [intOf]; omega
          · have hii : ¬ (i : Int) < (ln : Int) := by omega
            go_wp2
            go_roundw
            case rel => exact ⟨_, j + 1, by omega, rfl, by go_num, below_tr hb hb2⟩
            case measure => simp [intOf]; omega
      · have hzd : decide (z < 1000) = false := decide_eq_false hz
        go_wp2
        go_ret
        exact ⟨⟨_, rfl⟩, below_tr B1 hb⟩
    · have hji : ¬ (j : Int) < (n : Int) := by omega
      go_wp2
      go_ret
      exact ⟨⟨_, rfl⟩, below_tr B1 hb⟩
end Go.Proofs.YtjmcpdhfefcdgaaDoor
