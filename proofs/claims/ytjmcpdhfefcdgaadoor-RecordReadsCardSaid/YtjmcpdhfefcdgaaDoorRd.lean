/- What the document's check of a record finds. -/
import Derived.Test.YtjmcpdhfefcdgaaDoorRp
namespace Go.Proofs.YtjmcpdhfefcdgaaDoor
open Go.RowKit Lb Dig

set_option maxRecDepth 100000 in
set_option maxHeartbeats 8000000 in
theorem rrchk_any (k : Int) (sm : List Smp) (ms : List Mt) (fr tt : Int) (a : Option Addr) (n c : Nat) (b : Option Addr) (n' c' : Nat) (w : World) (hr : RecIn w k sm ms fr tt a n c b n' c') :
    Calls Tryd.prog 15 #[.agg #[.int .i64 k, .slice a n c, .slice b n' c', .int .i64 fr, .int .i64 tt]] w fun e w' => e = .returned (.int .i64 (chkR k sm ms fr tt : Nat)) ∧ Below w.heap.size w w' := by
  obtain ⟨E, hE⟩ : ∃ E, Hid (chkR k sm ms fr tt = E) := ⟨_, Lib.hid rfl⟩
  rw [hE.out]
  have R1 := RowV.new w [.int .i64 k, .slice a n c, .slice b n' c', .int .i64 fr, .int .i64 tt] 25
  have B1 : Below w.heap.size w (w.alloc (.cells #[.int .i64 k, .slice a n c, .slice b n' c', .int .i64 fr, .int .i64 tt] 25)) := (Below.refl _ _).alloc (Nat.le_refl _) _
  go_enter Tryd.func15, Tryd.ntmps15
  go_upto_region 1 with (fail)
  generalize w.alloc (.cells #[.int .i64 k, .slice a n c, .slice b n' c', .int .i64 fr, .int .i64 tt] 25) = w1 at R1 B1 ⊢
  generalize w.heap.size = p at R1 ⊢
  have k0 := (R1 0 _ rfl).1
  have k1 := (R1 1 _ rfl).1
  have k2 := (R1 2 _ rfl).1
  have k3 := (R1 3 _ rfl).1
  have k4 := (R1 4 _ rfl).1
  have hr1 := hr.below B1
  obtain ⟨_, hn, _, hn', hle, hle', _, _⟩ := hr
  rcases Decidable.em (k = 1) with rfl | hk1
  · have hch : Hid (E = if ms.length ≠ 0 ∨ fr ≠ 0 ∨ tt ≠ 0 then 3 else if sm.length < 1 ∨ 32 < sm.length then 2 else if badS sm = true then 16 else 0) := Lib.hid (by rw [← hE.out]; unfold chkR; rw [if_pos rfl])
    clear hE
    rcases (by omega : 0 < n' ∨ (n' = 0 ∧ fr ≠ 0) ∨ (n' = 0 ∧ fr = 0 ∧ tt ≠ 0) ∨ (n' = 0 ∧ fr = 0 ∧ tt = 0)) with h | ⟨rfl, h⟩ | ⟨rfl, rfl, h⟩ | ⟨rfl, rfl, rfl⟩
    · have hi : (0 : Int) < (n' : Int) := by omega
      have hd : decide ((0 : Int) < (n' : Int)) = true := decide_eq_true hi
      have hE2 : E = 3 := by rw [hch.out, if_pos (.inl (by omega))]
      subst hE2
      go_wp2
      go_ret
      exact ⟨rfl, B1⟩
    · have hb1 : (fr == 0) = false := by rw [beq_eq_false_iff_ne]; exact h
      have hE2 : E = 3 := by rw [hch.out, if_pos (.inr (.inl h))]
      subst hE2
      go_wp2
      go_ret
      exact ⟨rfl, B1⟩
    · have hb1 : (tt == 0) = false := by rw [beq_eq_false_iff_ne]; exact h
      have hE2 : E = 3 := by rw [hch.out, if_pos (.inr (.inr h))]
      subst hE2
      go_wp2
      go_ret
      exact ⟨rfl, B1⟩
    · have hch2 : Hid (E = if n < 1 ∨ 32 < n then 2 else if badS sm = true then 16 else 0) := Lib.hid (by rw [hch.out, if_neg (by omega), hn])
      obtain rfl : ms = [] := List.length_eq_zero_iff.mp hn'
      clear hch
      rcases (by omega : n < 1 ∨ (1 ≤ n ∧ 32 < n) ∨ (1 ≤ n ∧ n ≤ 32)) with h1 | ⟨h1, h32⟩ | ⟨h1, h32⟩
      · have hi : (n : Int) < 1 := by omega
        have hd : decide ((n : Int) < 1) = true := decide_eq_true hi
        have hE2 : E = 2 := by rw [hch2.out, if_pos (.inl h1)]
        subst hE2
        go_wp2
        go_ret
        exact ⟨rfl, B1⟩
      · have hi : ¬ (n : Int) < 1 := by omega
        have hd : decide ((n : Int) < 1) = false := decide_eq_false hi
        have hi2 : (32 : Int) < (n : Int) := by omega
        have hd2 : decide ((32 : Int) < (n : Int)) = true := decide_eq_true hi2
        have hE2 : E = 2 := by rw [hch2.out, if_pos (.inr h32)]
        subst hE2
        go_wp2
        go_ret
        exact ⟨rfl, B1⟩
      · have hi : ¬ (n : Int) < 1 := by omega
        have hd : decide ((n : Int) < 1) = false := decide_eq_false hi
        have hi2 : ¬ (32 : Int) < (n : Int) := by omega
        have hd2 : decide ((32 : Int) < (n : Int)) = false := decide_eq_false hi2
        have hE2 : Hid (E = if badS (sm.drop 0) = true then 16 else 0) := Lib.hid (by rw [hch2.out, if_neg (by omega), List.drop_zero])
        clear hch2
        go_upto_region 9 with (fail)
        go_loopw [4] (fun v4 wt => ∃ (j : Nat), j ≤ n ∧ v4 = .int .i64 j ∧ Hid (E = if badS (sm.drop j) = true then 16 else 0) ∧ Below w1.heap.size w1 wt) (fun v4 _ => n - (intOf v4).toNat)
        case atStart => exact ⟨0, by omega, rfl, hE2, Below.refl _ _⟩
        case round =>
          clear k0 k1 k2 k3 k4
          obtain ⟨j, hj, rfl, hok, hb⟩ := hrel
          have RW := R1.below hb
          have k0 := (RW 0 _ rfl).1
          have k1 := (RW 1 _ rfl).1
          have k2 := (RW 2 _ rfl).1
          have hrw := hr1.below hb
          by_cases hlt : j < n
          · have hji : (j : Int) < (n : Int) := by omega
            obtain ⟨⟨ls, t, v⟩, hp⟩ : ∃ p, sm[j]? = some p := ⟨_, List.getElem?_eq_getElem (by omega)⟩
            have hrow := hrw.sam
            obtain ⟨x, rfl⟩ := RowG.some_ hrow hp
            obtain ⟨la, ln, lc, c0, c1, c2, hq, hln, _, hb32, hsz, _, _⟩ := RowSm.at3 hrow hp
            simp only at c1 c2 hq hln hsz
            have hstep := Lib.hid (bad_drop hp)
            have LC := fun W h => rlcheck_any ls la ln lc hln (by omega) (fun p hp => by have := hsz p hp; omega) W h
            obtain ⟨C, hCC⟩ : ∃ C, Hid (chkL ls = C) := ⟨_, Lib.hid rfl⟩
            rw [hCC.out] at LC
            clear hp hsz hrow
            by_cases hC0 : C = 0
            · have hCi : (C : Int) = 0 := by omega
              have hnext : Hid (E = if badS (sm.drop (j + 1)) = true then 16 else 0) := Lib.hid (by rw [hok.out, hstep.out]; simp only; rw [hCC.out, decide_eq_false (by simpa using hC0), Bool.false_or])
              go_wp2_with (go_at_call 36; refine (LC _ hq).mono ?_; rintro y w4 ⟨rfl, hb4⟩)
              go_roundw
              case rel => exact ⟨j + 1, by omega, by go_num, hnext, below_tr hb hb4⟩
              case measure => simp [intOf]; omega
            · have hCi : ¬ (C : Int) = 0 := by omega
              have hE3 : E = 16 := by rw [hok.out, hstep.out]; simp only; rw [hCC.out, decide_eq_true (by simpa using hC0), Bool.true_or, if_pos rfl]
              subst hE3
              go_wp2_with (go_at_call 36; refine (LC _ hq).mono ?_; rintro y w4 ⟨rfl, hb4⟩)
              go_ret
              exact ⟨rfl, below_tr B1 (below_tr hb hb4)⟩
          · obtain rfl : j = n := by omega
            have hji : ¬ (j : Int) < (j : Int) := by omega
            have hE3 : E = 0 := by rw [hok.out, show sm.drop j = [] from List.drop_eq_nil_iff.mpr (by omega)]; rfl
            subst hE3
            have MC := fun W h => rmcheck_any [] b 0 c' rfl (by omega) W h
            rw [show chkM [] = 0 from rfl] at MC
            have k3 := (RW 3 _ rfl).1
            have k4 := (RW 4 _ rfl).1
            have hmat := hrw.mat
            go_wp2_with (go_at_call 37; refine (MC _ hmat).mono ?_; rintro y w4 ⟨rfl, hb4⟩; have R4 := RW.below hb4; have k3 := (R4 3 _ rfl).1; have k4 := (R4 4 _ rfl).1)
            go_ret
            exact ⟨rfl, below_tr B1 (below_tr hb hb4)⟩
  · have hk1b : (k == 1) = false := by rw [beq_eq_false_iff_ne]; exact hk1
    rcases Decidable.em (k = 2) with rfl | hk2
    · have hch : Hid (E = if n ≠ 0 then 3 else if chkM ms ≠ 0 then chkM ms else if tt < fr then 9 else 0) := Lib.hid (by rw [← hE.out]; unfold chkR; rw [if_neg hk1, if_pos rfl, hn])
      clear hE
      by_cases hn0 : 0 < n
      · have hi : (0 : Int) < (n : Int) := by omega
        have hd : decide ((0 : Int) < (n : Int)) = true := decide_eq_true hi
        have hE2 : E = 3 := by rw [hch.out, if_pos (by omega)]
        subst hE2
        go_wp2
        go_ret
        exact ⟨rfl, B1⟩
      · obtain rfl : n = 0 := by omega
        have MC := fun W h => rmcheck_any ms b n' c' hn' hle' W h
        obtain ⟨C, hCC⟩ : ∃ C, Hid (chkM ms = C) := ⟨_, Lib.hid rfl⟩
        rw [hCC.out] at MC hch
        have hch2 : Hid (E = if C ≠ 0 then C else if tt < fr then 9 else 0) := Lib.hid (by rw [hch.out, if_neg (by omega)])
        clear hch
        go_upto_region 9 with (fail)
        go_loopw [4] (fun v4 wt => v4 = .int .i64 0 ∧ wt = w1) (fun _ _ => 0)
        case atStart => exact ⟨rfl, rfl⟩
        case round =>
          obtain ⟨rfl, rfl⟩ := hrel
          have hmat := hr1.mat
          by_cases hC0 : C = 0
          · have hCb : ((C : Int) == 0) = true := by rw [beq_iff_eq]; omega
            by_cases hft : tt < fr
            · have hdf : decide (tt < fr) = true := decide_eq_true hft
              have hE2 : E = 9 := by rw [hch2.out, if_neg (by omega), if_pos hft]
              subst hE2
              go_wp2_with (go_at_call 37; refine (MC _ hmat).mono ?_; rintro y w4 ⟨rfl, hb4⟩; have R4 := R1.below hb4; have k3 := (R4 3 _ rfl).1; have k4 := (R4 4 _ rfl).1)
              go_ret
              exact ⟨rfl, below_tr B1 hb4⟩
            · have hdf : decide (tt < fr) = false := decide_eq_false hft
              have hE2 : E = 0 := by rw [hch2.out, if_neg (by omega), if_neg hft]
              subst hE2
              go_wp2_with (go_at_call 37; refine (MC _ hmat).mono ?_; rintro y w4 ⟨rfl, hb4⟩; have R4 := R1.below hb4; have k3 := (R4 3 _ rfl).1; have k4 := (R4 4 _ rfl).1)
              go_ret
              exact ⟨rfl, below_tr B1 hb4⟩
          · have hCb : ((C : Int) == 0) = false := by rw [beq_eq_false_iff_ne]; omega
            have hE2 : E = C := by rw [hch2.out, if_pos hC0]
            subst hE2
            go_wp2_with (go_at_call 37; refine (MC _ hmat).mono ?_; rintro y w4 ⟨rfl, hb4⟩; have R4 := R1.below hb4; have k3 := (R4 3 _ rfl).1; have k4 := (R4 4 _ rfl).1)
            go_ret
            exact ⟨rfl, below_tr B1 hb4⟩
    · have hk2b : (k == 2) = false := by rw [beq_eq_false_iff_ne]; exact hk2
      have hE2 : E = 5 := by rw [← hE.out]; unfold chkR; rw [if_neg hk1, if_neg hk2]
      subst hE2
      go_wp2
      go_ret
      exact ⟨rfl, B1⟩
end Go.Proofs.YtjmcpdhfefcdgaaDoor
