/- The law of checks of records. -/
import Derived.Test.YtjmcpdhfefcdgaaDoorRc
import Derived.Test.YtjmcpdhfefcdgaaDoorRe
import Derived.Test.YtjmcpdhfefcdgaaDoorRf
import Derived.Test.YtjmcpdhfefcdgaaDoorRg
import Derived.Test.YtjmcpdhfefcdgaaDoorRh
import Derived.Test.YtjmcpdhfefcdgaaDoorRi
namespace Go.Proofs.YtjmcpdhfefcdgaaDoor
open Go.RowKit Lb Dig

set_option maxRecDepth 100000 in
set_option maxHeartbeats 8000000 in
theorem recordChecks_walk (k : Int) (sm : List Smp) (ms : List Mt) (fr tt : Int) (a : Option Addr) (n c : Nat) (b : Option Addr) (n' c' : Nat) (hs : n * 40 ≤ 140737488351232) (hs' : n' * 40 ≤ 140737488351232) (w : World) (hr : RecIn w k sm ms fr tt a n c b n' c') (hcb : (b = none → c' = 0) ∧ n' ≤ c') :
    Calls Tryd.prog 3 #[.agg #[.int .i64 k, .slice a n c, .slice b n' c', .int .i64 fr, .int .i64 tt]] w fun e w' => e = .returned (.bool true) ∧ Below w.heap.size w w' := by
  have GR := fun W h => great_any k sm ms fr tt a n c b n' c' W h
  have OW := fun W h => rown_any k sm ms fr tt a n c b n' c' W h hs hs' hcb
  have EN := fun (x : Option Addr) m d (y : Option Addr) m2 d2 W h => rencode_any k sm ms fr tt x m d y m2 d2 W h
  have REN := fun W h => rrencode_any k sm ms fr tt a n c b n' c' W h
  obtain ⟨T, F, hF⟩ : ∃ T F, Hid (encC k sm ms fr tt = (T, F)) := ⟨_, _, Lib.hid rfl⟩
  rw [hF.out] at EN REN
  simp only at EN REN
  have SP := fun (x : Option Addr) m d (y : Option Addr) m2 d2 W h => rspan_any k sm ms fr tt x m d y m2 d2 W h
  have RSP := fun W h => rrspan_any k sm ms fr tt a n c b n' c' W h
  obtain ⟨S1, S2, hS⟩ : ∃ S1 S2, Hid (spanR k sm ms fr tt = (S1, S2)) := ⟨_, _, Lib.hid rfl⟩
  rw [hS.out] at SP RSP
  simp only at SP RSP
  have CK := fun (x : Option Addr) m d (y : Option Addr) m2 d2 W h => rchk_any k sm ms fr tt x m d y m2 d2 W h
  have RCK := fun W h => rrchk_any k sm ms fr tt a n c b n' c' W h
  obtain ⟨C, hC⟩ : ∃ C, Hid (chkR k sm ms fr tt = C) := ⟨_, Lib.hid rfl⟩
  rw [hC.out] at CK RCK
  have hn := hr.len
  have hn' := hr.len'
  have R1 := RowV.new w [.int .i64 k, .slice a n c, .slice b n' c', .int .i64 fr, .int .i64 tt] 25
  have B1 : Below w.heap.size w (w.alloc (.cells #[.int .i64 k, .slice a n c, .slice b n' c', .int .i64 fr, .int .i64 tt] 25)) := (Below.refl _ _).alloc (Nat.le_refl _) _
  go_enter Tryd.func3, Tryd.ntmps3
  go_upto_region 1 with (fail)
  generalize w.alloc (.cells #[.int .i64 k, .slice a n c, .slice b n' c', .int .i64 fr, .int .i64 tt] 25) = w1 at R1 B1 ⊢
  generalize w.heap.size = p at R1 ⊢
  have hr1 := hr.below B1
  have k0 := (R1 0 _ rfl).1
  have k1 := (R1 1 _ rfl).1
  have k2 := (R1 2 _ rfl).1
  have k3 := (R1 3 _ rfl).1
  have k4 := (R1 4 _ rfl).1
  clear hr
  go_upto_if 13 with (go_at_call 8; refine (GR _ hr1).mono ?_; rintro y w2 ⟨⟨g, rfl⟩, hb2⟩)
  have R2 := R1.below hb2
  have hr2 := hr1.below hb2
  have B2 := below_tr B1 hb2
  have k0 := (R2 0 _ rfl).1
  have k1 := (R2 1 _ rfl).1
  have k2 := (R2 2 _ rfl).1
  have k3 := (R2 3 _ rfl).1
  have k4 := (R2 4 _ rfl).1
  clear R1 hr1 B1 hb2 GR
  cases g
  · go_upto_region 4 with (go_at_call 9; refine (OW _ hr2).mono ?_; rintro y w3 ⟨a1, n1, c1, b1, m1, d1, css, rfl, hO, _, _, _, hb3⟩; obtain rfl : n = n1 := (by have := hO.len; omega); obtain rfl : n' = m1 := (by have := hO.len'; omega); clear OW)
    have R3 := R2.below hb3
    have hr3 := hr2.below hb3
    have B3 := below_tr B2 hb3
    have O4 := RowV.new w3 [.int .i64 k, .slice a1 n c1, .slice b1 n' d1, .int .i64 fr, .int .i64 tt] 25
    have B4 : Below w3.heap.size w3 (w3.alloc (.cells #[.int .i64 k, .slice a1 n c1, .slice b1 n' d1, .int .i64 fr, .int .i64 tt] 25)) := (Below.refl _ _).alloc (Nat.le_refl _) _
    generalize w3.alloc (.cells #[.int .i64 k, .slice a1 n c1, .slice b1 n' d1, .int .i64 fr, .int .i64 tt] 25) = w4 at O4 B4 ⊢
    generalize w3.heap.size = q at O4 ⊢
    have R4 := R3.below B4
    have hr4 := hr3.below B4
    have hO4 := hO.below B4
    have B04 := below_tr B3 B4
    have o0 := (O4 0 _ rfl).1
    have o1 := (O4 1 _ rfl).1
    have o2 := (O4 2 _ rfl).1
    have o3 := (O4 3 _ rfl).1
    have o4 := (O4 4 _ rfl).1
    clear R2 R3 hr2 hr3 hO B2 B3 hb3 B4 k0 k1 k2 k3 k4
    go_upto_region 5 with (go_at_call 10; refine (EN _ _ _ _ _ _ _ hO4).mono ?_; rintro y w5 ⟨rfl, hb5⟩; clear EN)
    have R5 := R4.below hb5
    have O5 := O4.below hb5
    have hr5 := hr4.below hb5
    have hO5 := hO4.below hb5
    have B05 := below_tr B04 hb5
    have k0 := (R5 0 _ rfl).1
    have k1 := (R5 1 _ rfl).1
    have k2 := (R5 2 _ rfl).1
    have k3 := (R5 3 _ rfl).1
    have k4 := (R5 4 _ rfl).1
    clear R4 O4 hr4 hO4 B04 hb5 o0 o1 o2 o3 o4
    go_upto_region 6 with (go_at_call 11; refine (REN _ hr5).mono ?_; rintro y w6 ⟨rfl, hb6⟩; clear REN)
    have R6 := R5.below hb6
    have O6 := O5.below hb6
    have hr6 := hr5.below hb6
    have hO6 := hO5.below hb6
    have B06 := below_tr B05 hb6
    have o0 := (O6 0 _ rfl).1
    have o1 := (O6 1 _ rfl).1
    have o2 := (O6 2 _ rfl).1
    have o3 := (O6 3 _ rfl).1
    have o4 := (O6 4 _ rfl).1
    clear R5 O5 hr5 hO5 B05 hb6 k0 k1 k2 k3 k4
    go_upto_region 7 with (go_at_call 12; refine (SP _ _ _ _ _ _ _ hO6).mono ?_; rintro y w7 ⟨rfl, hb7⟩; clear SP)
    have R7 := R6.below hb7
    have O7 := O6.below hb7
    have hr7 := hr6.below hb7
    have hO7 := hO6.below hb7
    have B07 := below_tr B06 hb7
    have k0 := (R7 0 _ rfl).1
    have k1 := (R7 1 _ rfl).1
    have k2 := (R7 2 _ rfl).1
    have k3 := (R7 3 _ rfl).1
    have k4 := (R7 4 _ rfl).1
    clear R6 O6 hr6 hO6 B06 hb7 o0 o1 o2 o3 o4
    go_upto_region 8 with (go_at_call 13; refine (RSP _ hr7).mono ?_; rintro y w9 ⟨rfl, hb9⟩; clear RSP)
    have R9 := R7.below hb9
    have O9 := O7.below hb9
    have hR9 := hr7.below hb9
    have hO9 := hO7.below hb9
    have B09 := below_tr B07 hb9
    have k0 := (R9 0 _ rfl).1
    have k1 := (R9 1 _ rfl).1
    have k2 := (R9 2 _ rfl).1
    have k3 := (R9 3 _ rfl).1
    have k4 := (R9 4 _ rfl).1
    have o0 := (O9 0 _ rfl).1
    have o1 := (O9 1 _ rfl).1
    have o2 := (O9 2 _ rfl).1
    have o3 := (O9 3 _ rfl).1
    have o4 := (O9 4 _ rfl).1
    have SM := fun W h h' => rsame_eq k sm ms fr tt a1 n c1 b1 n' d1 a n c b n' c' W h h'
    have HB0 := Below.refl w9.heap.size w9
    clear R7 O7 hr7 hO7 B07 hb9 R9 O9
    refine wp_region_det_list (by kernel_rfl) (by kernel_rfl) (SL [eqv (.agg #[.int .i64 k, .slice a1 n c1, .slice b1 n' d1, .int .i64 fr, .int .i64 tt]), eqv (.int .i64 (C : Nat)), eqv (.agg #[.int .i64 k, .slice a n c, .slice b n' c', .int .i64 fr, .int .i64 tt]), eqv (.int .i64 (C : Nat)), eqv (.bool true), eqv (.bool true), eqv (.string (mkS T)), eqv (.string (mkS T)), eqv (.bool true), eqv (.bool true), eqv (.bool true), eqv (.int .i64 (F : Nat)), eqv (.int .i64 (F : Nat)), eqv (.bool true), eqv (.bool true), eqv (.bool true), eqv (.int .i64 S1), eqv (.int .i64 S1), eqv (.bool true), eqv (.bool true), eqv (.bool true), eqv (.int .i64 S2), eqv (.int .i64 S2), eqv (.bool true), eqv (.bool true), eqv (.bool true), eqv (.agg #[.int .i64 k, .slice a1 n c1, .slice b1 n' d1, .int .i64 fr, .int .i64 tt]), eqv (.agg #[.int .i64 k, .slice a n c, .slice b n' c', .int .i64 fr, .int .i64 tt]), eqv (.bool true), eqv (.bool true), eqv (.bool true)]) (fun W => Below w9.heap.size w9 W) Grow ?hJ ?hX ?hop ?hend
    case hJ => exact HB0.drew
    case hX => exact SL_mono _ ⟨mono_eqv _, mono_eqv _, mono_eqv _, mono_eqv _, mono_eqv _, mono_eqv _, mono_eqv _, mono_eqv _, mono_eqv _, mono_eqv _, mono_eqv _, mono_eqv _, mono_eqv _, mono_eqv _, mono_eqv _, mono_eqv _, mono_eqv _, mono_eqv _, mono_eqv _, mono_eqv _, mono_eqv _, mono_eqv _, mono_eqv _, mono_eqv _, mono_eqv _, mono_eqv _, mono_eqv _, mono_eqv _, mono_eqv _, mono_eqv _, mono_eqv _, trivial⟩
    case hop =>
      refine OpsGoal.more 0 1 rfl (fun vals W hJ hS => ?_) ?_
      · have hkc0 := (Chg.of_below (fun _ => False) hJ).cell o0 (fun x => x)
        have hkc1 := (Chg.of_below (fun _ => False) hJ).cell o1 (fun x => x)
        have hkc2 := (Chg.of_below (fun _ => False) hJ).cell o2 (fun x => x)
        have hkc3 := (Chg.of_below (fun _ => False) hJ).cell o3 (fun x => x)
        have hkc4 := (Chg.of_below (fun _ => False) hJ).cell o4 (fun x => x)
        clear hS
        simp only [fillTo]
        go_wp2
        exact ⟨rfl, SL_eq rfl rfl, hJ, Below.refl _ _⟩
      refine OpsGoal.more 1 2 rfl (fun vals W hJ hS => ?_) ?_
      · have h0 := SL_val rfl (hS 0 (by kernel_rfl))
        clear hS
        simp only [fillTo]
        go_simp
        generalize vals 0 = v0 at h0 ⊢
        subst h0
        go_wp2_with (go_at_call 14; refine (CK _ _ _ _ _ _ _ (hO9.below hJ)).mono ?_; rintro e w' ⟨rfl, hb⟩)
        exact ⟨rfl, SL_eq rfl rfl, hJ.trans (hb.mono hJ.size), hb⟩
      refine OpsGoal.more 2 3 rfl (fun vals W hJ hS => ?_) ?_
      · have hkc0 := (Chg.of_below (fun _ => False) hJ).cell k0 (fun x => x)
        have hkc1 := (Chg.of_below (fun _ => False) hJ).cell k1 (fun x => x)
        have hkc2 := (Chg.of_below (fun _ => False) hJ).cell k2 (fun x => x)
        have hkc3 := (Chg.of_below (fun _ => False) hJ).cell k3 (fun x => x)
        have hkc4 := (Chg.of_below (fun _ => False) hJ).cell k4 (fun x => x)
        clear hS
        simp only [fillTo]
        go_simp
        go_wp2
        exact ⟨rfl, SL_eq rfl rfl, hJ, Below.refl _ _⟩
      refine OpsGoal.more 3 4 rfl (fun vals W hJ hS => ?_) ?_
      · have h2 := SL_val rfl (hS 2 (by kernel_rfl))
        clear hS
        simp only [fillTo]
        go_simp
        generalize vals 2 = v2 at h2 ⊢
        subst h2
        go_wp2_with (go_at_call 15; refine (RCK _ (hR9.below hJ)).mono ?_; rintro e w' ⟨rfl, hb⟩)
        exact ⟨rfl, SL_eq rfl rfl, hJ.trans (hb.mono hJ.size), hb⟩
      refine OpsGoal.more 4 5 rfl (fun vals W hJ hS => ?_) ?_
      · have h1 := SL_val rfl (hS 1 (by kernel_rfl))
        have h3 := SL_val rfl (hS 3 (by kernel_rfl))
        clear hS
        simp only [fillTo]
        go_simp
        generalize vals 1 = v1 at h1 ⊢
        subst h1
        generalize vals 3 = v3 at h3 ⊢
        subst h3
        go_wp2
        exact ⟨rfl, SL_eq rfl rfl, hJ, Below.refl _ _⟩
      refine OpsGoal.more 5 6 rfl (fun vals W hJ hS => ?_) ?_
      · have h4 := SL_val rfl (hS 4 (by kernel_rfl))
        clear hS
        simp only [fillTo]
        go_simp
        generalize vals 4 = v4 at h4 ⊢
        subst h4
        go_wp2
        exact ⟨rfl, SL_eq rfl rfl, hJ, Below.refl _ _⟩
      refine OpsGoal.more 6 7 rfl (fun vals W hJ hS => ?_) ?_
      · have h5 := SL_val rfl (hS 5 (by kernel_rfl))
        clear hS
        simp only [fillTo]
        go_simp
        generalize vals 5 = v5 at h5 ⊢
        subst h5
        go_wp2
        exact ⟨rfl, SL_eq rfl rfl, hJ, Below.refl _ _⟩
      refine OpsGoal.more 7 8 rfl (fun vals W hJ hS => ?_) ?_
      · have h5 := SL_val rfl (hS 5 (by kernel_rfl))
        clear hS
        simp only [fillTo]
        go_simp
        generalize vals 5 = v5 at h5 ⊢
        subst h5
        go_wp2
        exact ⟨rfl, SL_eq rfl rfl, hJ, Below.refl _ _⟩
      refine OpsGoal.more 8 9 rfl (fun vals W hJ hS => ?_) ?_
      · have h5 := SL_val rfl (hS 5 (by kernel_rfl))
        have h6 := SL_val rfl (hS 6 (by kernel_rfl))
        have h7 := SL_val rfl (hS 7 (by kernel_rfl))
        clear hS
        simp only [fillTo]
        go_simp
        generalize vals 5 = v5 at h5 ⊢
        subst h5
        generalize vals 6 = v6 at h6 ⊢
        subst h6
        generalize vals 7 = v7 at h7 ⊢
        subst h7
        go_wp2
        exact ⟨rfl, SL_eq rfl rfl, hJ, Below.refl _ _⟩
      refine OpsGoal.more 9 10 rfl (fun vals W hJ hS => ?_) ?_
      · have h5 := SL_val rfl (hS 5 (by kernel_rfl))
        have h8 := SL_val rfl (hS 8 (by kernel_rfl))
        clear hS
        simp only [fillTo]
        go_simp
        generalize vals 5 = v5 at h5 ⊢
        subst h5
        generalize vals 8 = v8 at h8 ⊢
        subst h8
        go_wp2
        exact ⟨rfl, SL_eq rfl rfl, hJ, Below.refl _ _⟩
      refine OpsGoal.more 10 11 rfl (fun vals W hJ hS => ?_) ?_
      · have h9 := SL_val rfl (hS 9 (by kernel_rfl))
        clear hS
        simp only [fillTo]
        go_simp
        generalize vals 9 = v9 at h9 ⊢
        subst h9
        go_wp2
        exact ⟨rfl, SL_eq rfl rfl, hJ, Below.refl _ _⟩
      refine OpsGoal.more 11 12 rfl (fun vals W hJ hS => ?_) ?_
      · have h10 := SL_val rfl (hS 10 (by kernel_rfl))
        clear hS
        simp only [fillTo]
        go_simp
        generalize vals 10 = v10 at h10 ⊢
        subst h10
        go_wp2
        exact ⟨rfl, SL_eq rfl rfl, hJ, Below.refl _ _⟩
      refine OpsGoal.more 12 13 rfl (fun vals W hJ hS => ?_) ?_
      · have h10 := SL_val rfl (hS 10 (by kernel_rfl))
        clear hS
        simp only [fillTo]
        go_simp
        generalize vals 10 = v10 at h10 ⊢
        subst h10
        go_wp2
        exact ⟨rfl, SL_eq rfl rfl, hJ, Below.refl _ _⟩
      refine OpsGoal.more 13 14 rfl (fun vals W hJ hS => ?_) ?_
      · have h10 := SL_val rfl (hS 10 (by kernel_rfl))
        have h11 := SL_val rfl (hS 11 (by kernel_rfl))
        have h12 := SL_val rfl (hS 12 (by kernel_rfl))
        clear hS
        simp only [fillTo]
        go_simp
        generalize vals 10 = v10 at h10 ⊢
        subst h10
        generalize vals 11 = v11 at h11 ⊢
        subst h11
        generalize vals 12 = v12 at h12 ⊢
        subst h12
        go_wp2
        exact ⟨rfl, SL_eq rfl rfl, hJ, Below.refl _ _⟩
      refine OpsGoal.more 14 15 rfl (fun vals W hJ hS => ?_) ?_
      · have h10 := SL_val rfl (hS 10 (by kernel_rfl))
        have h13 := SL_val rfl (hS 13 (by kernel_rfl))
        clear hS
        simp only [fillTo]
        go_simp
        generalize vals 10 = v10 at h10 ⊢
        subst h10
        generalize vals 13 = v13 at h13 ⊢
        subst h13
        go_wp2
        exact ⟨rfl, SL_eq rfl rfl, hJ, Below.refl _ _⟩
      refine OpsGoal.more 15 16 rfl (fun vals W hJ hS => ?_) ?_
      · have h14 := SL_val rfl (hS 14 (by kernel_rfl))
        clear hS
        simp only [fillTo]
        go_simp
        generalize vals 14 = v14 at h14 ⊢
        subst h14
        go_wp2
        exact ⟨rfl, SL_eq rfl rfl, hJ, Below.refl _ _⟩
      refine OpsGoal.more 16 17 rfl (fun vals W hJ hS => ?_) ?_
      · have h15 := SL_val rfl (hS 15 (by kernel_rfl))
        clear hS
        simp only [fillTo]
        go_simp
        generalize vals 15 = v15 at h15 ⊢
        subst h15
        go_wp2
        exact ⟨rfl, SL_eq rfl rfl, hJ, Below.refl _ _⟩
      refine OpsGoal.more 17 18 rfl (fun vals W hJ hS => ?_) ?_
      · have h15 := SL_val rfl (hS 15 (by kernel_rfl))
        clear hS
        simp only [fillTo]
        go_simp
        generalize vals 15 = v15 at h15 ⊢
        subst h15
        go_wp2
        exact ⟨rfl, SL_eq rfl rfl, hJ, Below.refl _ _⟩
      refine OpsGoal.more 18 19 rfl (fun vals W hJ hS => ?_) ?_
      · have h15 := SL_val rfl (hS 15 (by kernel_rfl))
        have h16 := SL_val rfl (hS 16 (by kernel_rfl))
        have h17 := SL_val rfl (hS 17 (by kernel_rfl))
        clear hS
        simp only [fillTo]
        go_simp
        generalize vals 15 = v15 at h15 ⊢
        subst h15
        generalize vals 16 = v16 at h16 ⊢
        subst h16
        generalize vals 17 = v17 at h17 ⊢
        subst h17
        go_wp2
        exact ⟨rfl, SL_eq rfl rfl, hJ, Below.refl _ _⟩
      refine OpsGoal.more 19 20 rfl (fun vals W hJ hS => ?_) ?_
      · have h15 := SL_val rfl (hS 15 (by kernel_rfl))
        have h18 := SL_val rfl (hS 18 (by kernel_rfl))
        clear hS
        simp only [fillTo]
        go_simp
        generalize vals 15 = v15 at h15 ⊢
        subst h15
        generalize vals 18 = v18 at h18 ⊢
        subst h18
        go_wp2
        exact ⟨rfl, SL_eq rfl rfl, hJ, Below.refl _ _⟩
      refine OpsGoal.more 20 21 rfl (fun vals W hJ hS => ?_) ?_
      · have h19 := SL_val rfl (hS 19 (by kernel_rfl))
        clear hS
        simp only [fillTo]
        go_simp
        generalize vals 19 = v19 at h19 ⊢
        subst h19
        go_wp2
        exact ⟨rfl, SL_eq rfl rfl, hJ, Below.refl _ _⟩
      refine OpsGoal.more 21 22 rfl (fun vals W hJ hS => ?_) ?_
      · have h20 := SL_val rfl (hS 20 (by kernel_rfl))
        clear hS
        simp only [fillTo]
        go_simp
        generalize vals 20 = v20 at h20 ⊢
        subst h20
        go_wp2
        exact ⟨rfl, SL_eq rfl rfl, hJ, Below.refl _ _⟩
      refine OpsGoal.more 22 23 rfl (fun vals W hJ hS => ?_) ?_
      · have h20 := SL_val rfl (hS 20 (by kernel_rfl))
        clear hS
        simp only [fillTo]
        go_simp
        generalize vals 20 = v20 at h20 ⊢
        subst h20
        go_wp2
        exact ⟨rfl, SL_eq rfl rfl, hJ, Below.refl _ _⟩
      refine OpsGoal.more 23 24 rfl (fun vals W hJ hS => ?_) ?_
      · have h20 := SL_val rfl (hS 20 (by kernel_rfl))
        have h21 := SL_val rfl (hS 21 (by kernel_rfl))
        have h22 := SL_val rfl (hS 22 (by kernel_rfl))
        clear hS
        simp only [fillTo]
        go_simp
        generalize vals 20 = v20 at h20 ⊢
        subst h20
        generalize vals 21 = v21 at h21 ⊢
        subst h21
        generalize vals 22 = v22 at h22 ⊢
        subst h22
        go_wp2
        exact ⟨rfl, SL_eq rfl rfl, hJ, Below.refl _ _⟩
      refine OpsGoal.more 24 25 rfl (fun vals W hJ hS => ?_) ?_
      · have h20 := SL_val rfl (hS 20 (by kernel_rfl))
        have h23 := SL_val rfl (hS 23 (by kernel_rfl))
        clear hS
        simp only [fillTo]
        go_simp
        generalize vals 20 = v20 at h20 ⊢
        subst h20
        generalize vals 23 = v23 at h23 ⊢
        subst h23
        go_wp2
        exact ⟨rfl, SL_eq rfl rfl, hJ, Below.refl _ _⟩
      refine OpsGoal.more 25 26 rfl (fun vals W hJ hS => ?_) ?_
      · have h24 := SL_val rfl (hS 24 (by kernel_rfl))
        clear hS
        simp only [fillTo]
        go_simp
        generalize vals 24 = v24 at h24 ⊢
        subst h24
        go_wp2
        exact ⟨rfl, SL_eq rfl rfl, hJ, Below.refl _ _⟩
      refine OpsGoal.more 26 27 rfl (fun vals W hJ hS => ?_) ?_
      · have h25 := SL_val rfl (hS 25 (by kernel_rfl))
        have hkc0 := (Chg.of_below (fun _ => False) hJ).cell o0 (fun x => x)
        have hkc1 := (Chg.of_below (fun _ => False) hJ).cell o1 (fun x => x)
        have hkc2 := (Chg.of_below (fun _ => False) hJ).cell o2 (fun x => x)
        have hkc3 := (Chg.of_below (fun _ => False) hJ).cell o3 (fun x => x)
        have hkc4 := (Chg.of_below (fun _ => False) hJ).cell o4 (fun x => x)
        clear hS
        simp only [fillTo]
        go_simp
        generalize vals 25 = v25 at h25 ⊢
        subst h25
        go_wp2
        exact ⟨rfl, SL_eq rfl rfl, hJ, Below.refl _ _⟩
      refine OpsGoal.more 27 28 rfl (fun vals W hJ hS => ?_) ?_
      · have h25 := SL_val rfl (hS 25 (by kernel_rfl))
        have hkc0 := (Chg.of_below (fun _ => False) hJ).cell k0 (fun x => x)
        have hkc1 := (Chg.of_below (fun _ => False) hJ).cell k1 (fun x => x)
        have hkc2 := (Chg.of_below (fun _ => False) hJ).cell k2 (fun x => x)
        have hkc3 := (Chg.of_below (fun _ => False) hJ).cell k3 (fun x => x)
        have hkc4 := (Chg.of_below (fun _ => False) hJ).cell k4 (fun x => x)
        clear hS
        simp only [fillTo]
        go_simp
        generalize vals 25 = v25 at h25 ⊢
        subst h25
        go_wp2
        exact ⟨rfl, SL_eq rfl rfl, hJ, Below.refl _ _⟩
      refine OpsGoal.more 28 29 rfl (fun vals W hJ hS => ?_) ?_
      · have h25 := SL_val rfl (hS 25 (by kernel_rfl))
        have h26 := SL_val rfl (hS 26 (by kernel_rfl))
        have h27 := SL_val rfl (hS 27 (by kernel_rfl))
        clear hS
        simp only [fillTo]
        go_simp
        generalize vals 25 = v25 at h25 ⊢
        subst h25
        generalize vals 26 = v26 at h26 ⊢
        subst h26
        generalize vals 27 = v27 at h27 ⊢
        subst h27
        go_wp2_with (go_at_call 16; refine (SM _ (hO9.below hJ) (hR9.below hJ)).mono ?_; rintro e w' ⟨rfl, hb⟩)
        exact ⟨rfl, SL_eq rfl rfl, hJ.trans (hb.mono hJ.size), hb⟩
      refine OpsGoal.more 29 30 rfl (fun vals W hJ hS => ?_) ?_
      · have h25 := SL_val rfl (hS 25 (by kernel_rfl))
        have h28 := SL_val rfl (hS 28 (by kernel_rfl))
        clear hS
        simp only [fillTo]
        go_simp
        generalize vals 25 = v25 at h25 ⊢
        subst h25
        generalize vals 28 = v28 at h28 ⊢
        subst h28
        go_wp2
        exact ⟨rfl, SL_eq rfl rfl, hJ, Below.refl _ _⟩
      refine OpsGoal.more 30 31 rfl (fun vals W hJ hS => ?_) ?_
      · have h29 := SL_val rfl (hS 29 (by kernel_rfl))
        clear hS
        simp only [fillTo]
        go_simp
        generalize vals 29 = v29 at h29 ⊢
        subst h29
        go_wp2
        exact ⟨rfl, SL_eq rfl rfl, hJ, Below.refl _ _⟩
      exact trivial
    case hend =>
      intro vals W hJ hS
      have h30 := SL_val rfl (hS 30 (by decide))
      clear hS
      simp only [List.size_toArray, List.length_cons, List.length_nil, Nat.reduceAdd, fillTo]
      go_simp
      generalize vals 30 = v30 at h30 ⊢
      subst h30
      go_wp2
      go_ret
      exact ⟨rfl, below_tr B09 hJ⟩
  · go_wp2
    go_ret
    exact ⟨rfl, B2⟩
end Go.Proofs.YtjmcpdhfefcdgaaDoor
