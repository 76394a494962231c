/- Records written by the document. -/
import Derived.Test.YtjmcpdhfefcdgaaDoorRd
import Derived.Test.YtjmcpdhfefcdgaaDoorDet
import Derived.Test.YtjmcpdhfefcdgaaDoorMg
import Derived.Test.YtjmcpdhfefcdgaaDoorDigR
namespace Go.Proofs.YtjmcpdhfefcdgaaDoor
open Go.RowKit Lb Dig

set_option maxRecDepth 100000 in
set_option maxHeartbeats 8000000 in
theorem rrencode_any (k : Int) (sm : List Smp) (ms : List Mt) (fr tt : Int) (a : Option Addr) (n c : Nat) (bb : Option Addr) (n9 c9 : Nat) (w : World) (hr : RecIn w k sm ms fr tt a n c bb n9 c9) :
    Calls Tryd.prog 11 #[.agg #[.int .i64 k, .slice a n c, .slice bb n9 c9, .int .i64 fr, .int .i64 tt]] w fun e w' => e = .returned (.tuple #[.string (mkS (encC k sm ms fr tt).1), .int .i64 ((encC k sm ms fr tt).2 : Nat)]) ∧ Below w.heap.size w w' := by
  obtain ⟨E, hE⟩ : ∃ E, Hid (chkR k sm ms fr tt = E) := ⟨_, Lib.hid rfl⟩
  obtain ⟨F, hF⟩ : ∃ F, Hid (encC k sm ms fr tt = F) := ⟨_, Lib.hid rfl⟩
  have CK := fun W h => rrchk_any k sm ms fr tt a n c bb n9 c9 W h
  rw [hE.out] at CK
  rw [hF.out]
  have R1 := RowV.new w [.int .i64 k, .slice a n c, .slice bb n9 c9, .int .i64 fr, .int .i64 tt] 25
  have B1 : Below w.heap.size w (w.alloc (.cells #[.int .i64 k, .slice a n c, .slice bb n9 c9, .int .i64 fr, .int .i64 tt] 25)) := (Below.refl _ _).alloc (Nat.le_refl _) _
  go_enter Tryd.func11, Tryd.ntmps11
  go_upto_region 1 with (fail)
  generalize w.alloc (.cells #[.int .i64 k, .slice a n c, .slice bb n9 c9, .int .i64 fr, .int .i64 tt] 25) = w1 at R1 B1 ⊢
  generalize w.heap.size = p at R1 ⊢
  have k0 := (R1 0 _ rfl).1
  have k1 := (R1 1 _ rfl).1
  have k2 := (R1 2 _ rfl).1
  have k3 := (R1 3 _ rfl).1
  have k4 := (R1 4 _ rfl).1
  have hr1 := hr.below B1
  obtain ⟨_, hn, _, hn9, hle, hle9, hrf, hrt⟩ := hr
  by_cases hE0 : E = 0
  · have hEi : (E : Int) = 0 := by omega
    have hsh := chkR_one (hE.out.trans hE0)
    have hen : Hid (F = (numB k.toNat ++ (if k = 2 then (encM ms).1 ++ (numB (zig fr) ++ numB (zig tt)) else numB sm.length ++ smsB sm), 0)) := Lib.hid (by rw [← hF.out]; unfold encC; rw [hE.out, if_neg (by omega)])
    clear hF hE
    go_upto_region 4 with (go_at_call 15; refine (CK _ hr1).mono ?_; rintro y w2 ⟨rfl, hb2⟩; clear CK)
    have R2 := R1.below hb2
    have hr2 := hr1.below hb2
    have b02 := below_tr B1 hb2
    have k0 := (R2 0 _ rfl).1
    clear R1 hr1 B1
    rcases hsh with ⟨rfl, rfl, rfl, rfl, s1, s32, hbad⟩ | ⟨rfl, rfl, hm0, hft⟩
    · have hni : (n : Int) < 18446744073709551616 := by omega
      have hni2 : IntKind.u64.wrap (n : Int) = (n : Int) := wrap_u64_id _ (by omega) (by omega)
      have hen2 : Hid (F = (numB 1 ++ (numB n ++ smsB sm), 0)) := Lib.hid (by rw [hen.out, if_neg (by decide), hn]; rfl)
      have hmem := Lib.hid (RowSm.mem hr2.sam)
      have hnl : (numB n).length ≤ 9 := numB_le n (by omega)
      have hn1 : (numB 1).length ≤ 9 := numB_le 1 (by decide)
      clear hen
      have hcat1 : mkS (numB 1) ++ mkS (numB n) = mkS (numB 1 ++ (numB n ++ smsB (sm.take 0))) := by rw [mkS_append, List.take_zero]; simp [smsB]
      have hcl1 : (mkS (numB 1)).size + (mkS (numB n)).size ≤ 9223372036854775807 := by rw [mkS_size, mkS_size]; omega
      go_upto_region 8 with (go_at_call 27; refine (refnum_any 1 (by omega) _).mono ?_; rintro y w4 ⟨rfl, hb4⟩; have R4 := R2.below hb4; have k0 := (R4 0 _ rfl).1; have k1 := (R4 1 _ rfl).1)
      have hr4 := hr2.below hb4
      have b04 := below_tr b02 hb4
      clear R2 hr2 b02 hb4
      go_upto_region 10 with (go_at_call 27; refine (refnum_any n (by omega) _).mono ?_; rintro y w6 ⟨rfl, hb6⟩)
      have R6 := R4.below hb6
      have hr6 := hr4.below hb6
      have b06 := below_tr b04 hb6
      clear R4 hr4 b04 hb6
      go_loopw [5, 8] (fun v5 v8 wt => ∃ (j : Nat), j ≤ n ∧ v8 = .int .i64 j ∧ v5 = .string (mkS (numB 1 ++ (numB n ++ smsB (sm.take j)))) ∧ Below w6.heap.size w6 wt) (fun _ v8 _ => n - (intOf v8).toNat)
      case atStart => exact ⟨0, by omega, rfl, by rw [List.take_zero], Below.refl _ _⟩
      case round =>
        clear k0 k1 k2 k3 k4 hcat1 hcl1
        obtain ⟨j, hj, rfl, rfl, hbel⟩ := hrel
        have RW := R6.below hbel
        have k1 := (RW 1 _ rfl).1
        have hrw := RowSm.below hr6.sam hbel
        by_cases hlt : j < n
        · have hji : (j : Int) < (n : Int) := by omega
          obtain ⟨⟨ls, t, v⟩, hp⟩ : ∃ p, sm[j]? = some p := ⟨_, List.getElem?_eq_getElem (by omega)⟩
          obtain ⟨x, rfl⟩ := RowG.some_ hrw hp
          obtain ⟨la, ln, lc, c0, c1, c2, hq, hln, _, hb32, hsz, hrt2, hv64⟩ := RowSm.at3 hrw hp
          simp only at c1 c2 hq hln hsz hrt2 hv64
          have hsml := smB_len (ls, t, v) hrt2 hv64
          have LE := fun W h => rlencode_any ls la ln lc hln (by omega) (fun p hp => by have := hsz p hp; omega) W h
          have hEL := encL_le ls
          have hck : chkL ls = 0 := bad_ok hbad _ (List.mem_of_getElem? hp)
          have hE2 : (encL ls).2 = 0 := by unfold encL; rw [hck, if_neg (by omega)]
          obtain ⟨LB, hLB⟩ : ∃ LB, Hid (encL ls = (LB, 0)) := ⟨(encL ls).1, Lib.hid (Prod.ext rfl hE2)⟩
          have hLB1 : (encL ls).1 = LB := by rw [hLB.out]
          rw [hLB.out] at LE
          rw [hLB1] at hEL
          obtain ⟨SB, hSB⟩ : ∃ SB, Hid (smB (ls, t, v) = SB) := ⟨_, Lib.hid rfl⟩
          rw [hSB.out] at hsml
          obtain ⟨SS, hSS⟩ : ∃ S, Hid (mkS (numB 1 ++ (numB n ++ smsB (sm.take j))) = S) := ⟨_, Lib.hid rfl⟩
          obtain ⟨LS, hLS⟩ : ∃ LS, Hid (mkS LB = LS) := ⟨_, Lib.hid rfl⟩
          have TXL := fun W => dreftext_any LS (by rw [← hLS.out, mkS_size]; omega) W
          have SGT := fun W => refsigned_any t hrt2.1 hrt2.2 W
          have NUMV := fun W => refnum_any v hv64 W
          obtain ⟨TL, hTL⟩ : ∃ S, Hid (mkS (textB LS.data.toList) = S) := ⟨_, Lib.hid rfl⟩
          obtain ⟨ST, hST⟩ : ∃ S, Hid (mkS (numB (zig t)) = S) := ⟨_, Lib.hid rfl⟩
          obtain ⟨NV, hNV⟩ : ∃ S, Hid (mkS (numB v) = S) := ⟨_, Lib.hid rfl⟩
          rw [hTL.out] at TXL
          rw [hST.out] at SGT
          rw [hNV.out] at NUMV
          have hcat : Hid (SS ++ TL ++ ST ++ NV = mkS (numB 1 ++ (numB n ++ smsB (sm.take (j + 1))))) := Lib.hid (by
            rw [← hSS.out, ← hTL.out, ← hST.out, ← hNV.out, mkS_append, mkS_append, mkS_append, List.take_add_one, hp, ← hLS.out, mkS_data]
            show _ = mkS (numB 1 ++ (numB n ++ smsB (sm.take j ++ [(ls, t, v)])))
            rw [smsB_snoc]; unfold smB; simp only [hLB1, List.append_assoc])
          have hlen3 : SS.size + TL.size + ST.size + NV.size ≤ 9223372036854775807 := by
            have h0 := congrArg ByteArray.size hcat.out
            rw [ByteArray.size_append, ByteArray.size_append, ByteArray.size_append, mkS_size, List.length_append, List.length_append] at h0
            have h1 := smsB_len (sm.take (j + 1)) (fun p hp => hmem.out p (List.mem_of_mem_take hp))
            rw [List.length_take] at h1
            omega
          have hlen2 : SS.size + TL.size + ST.size ≤ 9223372036854775807 := by omega
          have hlen1 : SS.size + TL.size ≤ 9223372036854775807 := by omega
          have R4 := RowV.new wr [.slice la ln lc, .int .i64 t, .int .u64 (v : Nat)] 43
          have B4 : Below wr.heap.size wr (wr.alloc (.cells #[.slice la ln lc, .int .i64 t, .int .u64 (v : Nat)] 43)) := (Below.refl _ _).alloc (Nat.le_refl _) _
          clear hp hsz hrw hsml hE2 hck hLB1 hrt2
          go_upto_region 13 with (fail)
          generalize wr.alloc (.cells #[.slice la ln lc, .int .i64 t, .int .u64 (v : Nat)] 43) = w8 at R4 B4 ⊢
          generalize wr.heap.size = q at R4 ⊢
          have r0 := (R4 0 _ rfl).1
          have hbel8 := below_tr hbel B4
          have hq8 := hq.below B4
          clear c0 c1 c2 hq hbel B4
          rw [hLS.out] at LE
          go_upto_region 14 with (go_at_call 30; refine (LE _ hq8).mono ?_; rintro y w9 ⟨rfl, hb9⟩; clear LE)
          rw [hSS.out]
          have R9 := R4.below hb9
          have hbel9 := below_tr hbel8 hb9
          have r1 := (R9 1 _ rfl).1
          have r2 := (R9 2 _ rfl).1
          have HB0 := Below.refl w9.heap.size w9
          clear R4 hbel8 hb9 hq8 r0 R9
          refine wp_region_det_list (by kernel_rfl) (by kernel_rfl) (SL [eqv (.string SS), eqv (.string LS), eqv (.string TL), eqv (.string (SS ++ TL)), eqv (.pointer (some ⟨q, 1, none⟩)), eqv (.int .i64 t), eqv (.string ST), eqv (.string (SS ++ TL ++ ST)), eqv (.pointer (some ⟨q, 2, none⟩)), eqv (.int .u64 v), eqv (.string NV), eqv (.string (SS ++ TL ++ ST ++ NV)), eqv (.string (SS ++ TL ++ ST ++ NV))]) (fun W => Below w9.heap.size w9 W) Grow ?hJ ?hX ?hop ?hend
          case hJ => exact HB0.drew
          case hX => exact SL_mono _ ⟨mono_eqv _, mono_eqv _, mono_eqv _, mono_eqv _, mono_eqv _, mono_eqv _, mono_eqv _, mono_eqv _, mono_eqv _, mono_eqv _, mono_eqv _, mono_eqv _, mono_eqv _, trivial⟩
          case hop =>
            refine OpsGoal.more 0 1 rfl (fun vals W hJ hS => ?_) ?_
            · clear hS
              simp only [fillTo]
              go_wp2
              exact ⟨rfl, SL_eq rfl rfl, hJ, Below.refl _ _⟩
            refine OpsGoal.more 1 2 rfl (fun vals W hJ hS => ?_) ?_
            · clear hS
              simp only [fillTo]
              go_simp
              go_wp2
              exact ⟨rfl, SL_eq rfl rfl, hJ, Below.refl _ _⟩
            refine OpsGoal.more 2 3 rfl (fun vals W hJ hS => ?_) ?_
            · have h1 := SL_val rfl (hS 1 (by kernel_rfl))
              clear hS
              simp only [fillTo]
              go_simp
              generalize vals 1 = v1 at h1 ⊢
              subst h1
              go_wp2_with (go_at_call 31; refine (TXL _).mono ?_; rintro e w' ⟨rfl, hb⟩)
              exact ⟨rfl, SL_eq rfl rfl, hJ.trans (hb.mono hJ.size), hb⟩
            refine OpsGoal.more 3 4 rfl (fun vals W hJ hS => ?_) ?_
            · have h0 := SL_val rfl (hS 0 (by kernel_rfl))
              have h2 := SL_val rfl (hS 2 (by kernel_rfl))
              clear hS
              simp only [fillTo]
              go_simp
              generalize vals 0 = v0 at h0 ⊢
              subst h0
              generalize vals 2 = v2 at h2 ⊢
              subst h2
              go_wp2
              exact ⟨rfl, SL_eq rfl rfl, hJ, Below.refl _ _⟩
            refine OpsGoal.more 4 5 rfl (fun vals W hJ hS => ?_) ?_
            · clear hS
              simp only [fillTo]
              go_simp
              go_wp2
              exact ⟨rfl, SL_eq rfl rfl, hJ, Below.refl _ _⟩
            refine OpsGoal.more 5 6 rfl (fun vals W hJ hS => ?_) ?_
            · have h4 := SL_val rfl (hS 4 (by kernel_rfl))
              have hkc0 := (Chg.of_below (fun _ => False) hJ).cell r1 (fun x => x)
              clear hS
              simp only [fillTo]
              go_simp
              generalize vals 4 = v4 at h4 ⊢
              subst h4
              go_wp2
              exact ⟨rfl, SL_eq rfl rfl, hJ, Below.refl _ _⟩
            refine OpsGoal.more 6 7 rfl (fun vals W hJ hS => ?_) ?_
            · have h5 := SL_val rfl (hS 5 (by kernel_rfl))
              clear hS
              simp only [fillTo]
              go_simp
              generalize vals 5 = v5 at h5 ⊢
              subst h5
              go_wp2_with (go_at_call 29; refine (SGT _).mono ?_; rintro e w' ⟨rfl, hb⟩)
              exact ⟨rfl, SL_eq rfl rfl, hJ.trans (hb.mono hJ.size), hb⟩
            refine OpsGoal.more 7 8 rfl (fun vals W hJ hS => ?_) ?_
            · have h3 := SL_val rfl (hS 3 (by kernel_rfl))
              have h6 := SL_val rfl (hS 6 (by kernel_rfl))
              clear hS
              simp only [fillTo]
              go_simp
              generalize vals 3 = v3 at h3 ⊢
              subst h3
              generalize vals 6 = v6 at h6 ⊢
              subst h6
              go_wp2
              exact ⟨rfl, SL_eq rfl rfl, hJ, Below.refl _ _⟩
            refine OpsGoal.more 8 9 rfl (fun vals W hJ hS => ?_) ?_
            · clear hS
              simp only [fillTo]
              go_simp
              go_wp2
              exact ⟨rfl, SL_eq rfl rfl, hJ, Below.refl _ _⟩
            refine OpsGoal.more 9 10 rfl (fun vals W hJ hS => ?_) ?_
            · have h8 := SL_val rfl (hS 8 (by kernel_rfl))
              have hkc0 := (Chg.of_below (fun _ => False) hJ).cell r2 (fun x => x)
              clear hS
              simp only [fillTo]
              go_simp
              generalize vals 8 = v8 at h8 ⊢
              subst h8
              go_wp2
              exact ⟨rfl, SL_eq rfl rfl, hJ, Below.refl _ _⟩
            refine OpsGoal.more 10 11 rfl (fun vals W hJ hS => ?_) ?_
            · have h9 := SL_val rfl (hS 9 (by kernel_rfl))
              clear hS
              simp only [fillTo]
              go_simp
              generalize vals 9 = v9 at h9 ⊢
              subst h9
              go_wp2_with (go_at_call 27; refine (NUMV _).mono ?_; rintro e w' ⟨rfl, hb⟩)
              exact ⟨rfl, SL_eq rfl rfl, hJ.trans (hb.mono hJ.size), hb⟩
            refine OpsGoal.more 11 12 rfl (fun vals W hJ hS => ?_) ?_
            · have h7 := SL_val rfl (hS 7 (by kernel_rfl))
              have h10 := SL_val rfl (hS 10 (by kernel_rfl))
              clear hS
              simp only [fillTo]
              go_simp
              generalize vals 7 = v7 at h7 ⊢
              subst h7
              generalize vals 10 = v10 at h10 ⊢
              subst h10
              go_wp2
              exact ⟨rfl, SL_eq rfl rfl, hJ, Below.refl _ _⟩
            refine OpsGoal.more 12 13 rfl (fun vals W hJ hS => ?_) ?_
            · have h11 := SL_val rfl (hS 11 (by kernel_rfl))
              clear hS
              simp only [fillTo]
              go_simp
              generalize vals 11 = v11 at h11 ⊢
              subst h11
              go_wp2
              exact ⟨rfl, SL_eq rfl rfl, hJ, Below.refl _ _⟩
            exact trivial
          case hend =>
            intro vals W hJ hS
            have h12 := SL_val rfl (hS 12 (by decide))
            clear hS
            simp only [List.size_toArray, List.length_cons, List.length_nil, Nat.reduceAdd, fillTo]
            go_simp
            generalize vals 12 = v12 at h12 ⊢
            subst h12
            rw [hcat.out]
            go_wp2
            go_roundw
            case rel => exact ⟨j + 1, by omega, by go_num, rfl, below_tr hbel9 hJ⟩
            case measure => simp [intOf]; omega
        · obtain rfl : j = n := by omega
          have hji : ¬ (j : Int) < (j : Int) := by omega
          rw [List.take_of_length_le (by omega)]
          have hF2 := hen2.out
          subst hF2
          go_wp2
          go_ret2
          exact ⟨rfl, below_tr b06 hbel⟩
    · have hen2 : Hid (F = (numB 2 ++ ((encM ms).1 ++ (numB (zig fr) ++ numB (zig tt))), 0)) := Lib.hid (by rw [hen.out, if_pos rfl]; rfl)
      have hn1 : (numB 2).length ≤ 9 := numB_le 2 (by decide)
      clear hen
      go_upto_region 6 with (go_at_call 27; refine (refnum_any 2 (by omega) _).mono ?_; rintro y w4 ⟨rfl, hb4⟩; have R4 := R2.below hb4; have k0 := (R4 0 _ rfl).1; have k2 := (R4 2 _ rfl).1)
      have hr4 := hr2.below hb4
      have b04 := below_tr b02 hb4
      clear R2 hr2 b02 hb4
      have ME := fun W h => rmencode_any ms bb n9 c9 hn9 hle9 W h
      have hML := encM_len ms
      have hM2 : (encM ms).2 = 0 := by rw [encM_err]; exact hm0
      obtain ⟨MB, hMB⟩ : ∃ MB, Hid (encM ms = (MB, 0)) := ⟨(encM ms).1, Lib.hid (Prod.ext rfl hM2)⟩
      rw [hMB.out] at ME hML
      simp only at hML
      have hmat5 := hr4.mat
      obtain ⟨M, hM⟩ : ∃ M, Hid (mkS MB = M) := ⟨_, Lib.hid rfl⟩
      rw [hM.out] at ME
      have SGF := fun W => refsigned_any fr hrf.1 hrf.2 W
      have SGT := fun W => refsigned_any tt hrt.1 hrt.2 W
      have z1 := numB_le (zig fr) (zig_lt _ hrf.1 hrf.2)
      have z2 := numB_le (zig tt) (zig_lt _ hrt.1 hrt.2)
      obtain ⟨N2, hN2⟩ : ∃ S, Hid (mkS (numB 2) = S) := ⟨_, Lib.hid rfl⟩
      obtain ⟨SF, hSF⟩ : ∃ S, Hid (mkS (numB (zig fr)) = S) := ⟨_, Lib.hid rfl⟩
      obtain ⟨ST, hST⟩ : ∃ S, Hid (mkS (numB (zig tt)) = S) := ⟨_, Lib.hid rfl⟩
      rw [hSF.out] at SGF
      rw [hST.out] at SGT
      have hcat : Hid (N2 ++ M ++ SF ++ ST = mkS (numB 2 ++ (MB ++ (numB (zig fr) ++ numB (zig tt))))) := Lib.hid (by
        rw [← hN2.out, ← hM.out, ← hSF.out, ← hST.out, mkS_append, mkS_append, mkS_append]; simp only [List.append_assoc])
      have hlen3 : N2.size + M.size + SF.size + ST.size ≤ 9223372036854775807 := by
        rw [← hN2.out, ← hM.out, ← hSF.out, ← hST.out, mkS_size, mkS_size, mkS_size, mkS_size]; omega
      have hlen2 : N2.size + M.size + SF.size ≤ 9223372036854775807 := by omega
      have hlen1 : N2.size + M.size ≤ 9223372036854775807 := by omega
      have hF2 : F = (numB 2 ++ (MB ++ (numB (zig fr) ++ numB (zig tt))), 0) := by rw [hen2.out, hMB.out]
      subst hF2
      clear hM2 hm0 hML hrf hrt
      rw [show mkS (numB 2) = N2 from hN2.out]
      go_upto_region 7 with (go_at_call 28; refine (ME _ hmat5).mono ?_; rintro y w9 ⟨rfl, hb9⟩; clear ME)
      have R9 := R4.below hb9
      have b09 := below_tr b04 hb9
      have k3 := (R9 3 _ rfl).1
      have k4 := (R9 4 _ rfl).1
      have HB0 := Below.refl w9.heap.size w9
      clear R4 hr4 b04 hb9 R9 k0 k2 hmat5
      refine wp_region_det_list (by kernel_rfl) (by kernel_rfl) (SL [eqv (.string N2), eqv (.string M), eqv (.string (N2 ++ M)), eqv (.pointer (some ⟨p, 3, none⟩)), eqv (.int .i64 fr), eqv (.string SF), eqv (.string (N2 ++ M ++ SF)), eqv (.pointer (some ⟨p, 4, none⟩)), eqv (.int .i64 tt), eqv (.string ST), eqv (.string (N2 ++ M ++ SF ++ ST)), eqv (.string (N2 ++ M ++ SF ++ ST)), eqv (.int .i64 0)]) (fun W => Below w9.heap.size w9 W) Grow ?hJ ?hX ?hop ?hend
      case hJ => exact HB0.drew
      case hX => exact SL_mono _ ⟨mono_eqv _, mono_eqv _, mono_eqv _, mono_eqv _, mono_eqv _, mono_eqv _, mono_eqv _, mono_eqv _, mono_eqv _, mono_eqv _, mono_eqv _, mono_eqv _, mono_eqv _, trivial⟩
      case hop =>
        refine OpsGoal.more 0 1 rfl (fun vals W hJ hS => ?_) ?_
        · clear hS
          simp only [fillTo]
          go_wp2
          exact ⟨rfl, SL_eq rfl rfl, hJ, Below.refl _ _⟩
        refine OpsGoal.more 1 2 rfl (fun vals W hJ hS => ?_) ?_
        · clear hS
          simp only [fillTo]
          go_simp
          go_wp2
          exact ⟨rfl, SL_eq rfl rfl, hJ, Below.refl _ _⟩
        refine OpsGoal.more 2 3 rfl (fun vals W hJ hS => ?_) ?_
        · have h0 := SL_val rfl (hS 0 (by kernel_rfl))
          have h1 := SL_val rfl (hS 1 (by kernel_rfl))
          clear hS
          simp only [fillTo]
          go_simp
          generalize vals 0 = v0 at h0 ⊢
          subst h0
          generalize vals 1 = v1 at h1 ⊢
          subst h1
          go_wp2
          exact ⟨rfl, SL_eq rfl rfl, hJ, Below.refl _ _⟩
        refine OpsGoal.more 3 4 rfl (fun vals W hJ hS => ?_) ?_
        · clear hS
          simp only [fillTo]
          go_simp
          go_wp2
          exact ⟨rfl, SL_eq rfl rfl, hJ, Below.refl _ _⟩
        refine OpsGoal.more 4 5 rfl (fun vals W hJ hS => ?_) ?_
        · have h3 := SL_val rfl (hS 3 (by kernel_rfl))
          have hkc0 := (Chg.of_below (fun _ => False) hJ).cell k3 (fun x => x)
          clear hS
          simp only [fillTo]
          go_simp
          generalize vals 3 = v3 at h3 ⊢
          subst h3
          go_wp2
          exact ⟨rfl, SL_eq rfl rfl, hJ, Below.refl _ _⟩
        refine OpsGoal.more 5 6 rfl (fun vals W hJ hS => ?_) ?_
        · have h4 := SL_val rfl (hS 4 (by kernel_rfl))
          clear hS
          simp only [fillTo]
          go_simp
          generalize vals 4 = v4 at h4 ⊢
          subst h4
          go_wp2_with (go_at_call 29; refine (SGF _).mono ?_; rintro e w' ⟨rfl, hb⟩)
          exact ⟨rfl, SL_eq rfl rfl, hJ.trans (hb.mono hJ.size), hb⟩
        refine OpsGoal.more 6 7 rfl (fun vals W hJ hS => ?_) ?_
        · have h2 := SL_val rfl (hS 2 (by kernel_rfl))
          have h5 := SL_val rfl (hS 5 (by kernel_rfl))
          clear hS
          simp only [fillTo]
          go_simp
          generalize vals 2 = v2 at h2 ⊢
          subst h2
          generalize vals 5 = v5 at h5 ⊢
          subst h5
          go_wp2
          exact ⟨rfl, SL_eq rfl rfl, hJ, Below.refl _ _⟩
        refine OpsGoal.more 7 8 rfl (fun vals W hJ hS => ?_) ?_
        · clear hS
          simp only [fillTo]
          go_simp
          go_wp2
          exact ⟨rfl, SL_eq rfl rfl, hJ, Below.refl _ _⟩
        refine OpsGoal.more 8 9 rfl (fun vals W hJ hS => ?_) ?_
        · have h7 := SL_val rfl (hS 7 (by kernel_rfl))
          have hkc0 := (Chg.of_below (fun _ => False) hJ).cell k4 (fun x => x)
          clear hS
          simp only [fillTo]
          go_simp
          generalize vals 7 = v7 at h7 ⊢
          subst h7
          go_wp2
          exact ⟨rfl, SL_eq rfl rfl, hJ, Below.refl _ _⟩
        refine OpsGoal.more 9 10 rfl (fun vals W hJ hS => ?_) ?_
        · have h8 := SL_val rfl (hS 8 (by kernel_rfl))
          clear hS
          simp only [fillTo]
          go_simp
          generalize vals 8 = v8 at h8 ⊢
          subst h8
          go_wp2_with (go_at_call 29; refine (SGT _).mono ?_; rintro e w' ⟨rfl, hb⟩)
          exact ⟨rfl, SL_eq rfl rfl, hJ.trans (hb.mono hJ.size), hb⟩
        refine OpsGoal.more 10 11 rfl (fun vals W hJ hS => ?_) ?_
        · have h6 := SL_val rfl (hS 6 (by kernel_rfl))
          have h9 := SL_val rfl (hS 9 (by kernel_rfl))
          clear hS
          simp only [fillTo]
          go_simp
          generalize vals 6 = v6 at h6 ⊢
          subst h6
          generalize vals 9 = v9 at h9 ⊢
          subst h9
          go_wp2
          exact ⟨rfl, SL_eq rfl rfl, hJ, Below.refl _ _⟩
        refine OpsGoal.more 11 12 rfl (fun vals W hJ hS => ?_) ?_
        · have h10 := SL_val rfl (hS 10 (by kernel_rfl))
          clear hS
          simp only [fillTo]
          go_simp
          generalize vals 10 = v10 at h10 ⊢
          subst h10
          go_wp2
          exact ⟨rfl, SL_eq rfl rfl, hJ, Below.refl _ _⟩
        refine OpsGoal.more 12 13 rfl (fun vals W hJ hS => ?_) ?_
        · clear hS
          simp only [fillTo]
          go_simp
          go_wp2
          exact ⟨rfl, SL_eq rfl rfl, hJ, Below.refl _ _⟩
        exact trivial
      case hend =>
        intro vals W hJ hS
        have h11 := SL_val rfl (hS 11 (by decide))
        have h12 := SL_val rfl (hS 12 (by decide))
        clear hS
        simp only [List.size_toArray, List.length_cons, List.length_nil, Nat.reduceAdd, fillTo]
        go_simp
        generalize vals 11 = v11 at h11 ⊢
        subst h11
        generalize vals 12 = v12 at h12 ⊢
        subst h12
        rw [hcat.out]
        go_wp2
        go_ret2
        exact ⟨rfl, below_tr b09 hJ⟩
  · have hEi : ¬ (E : Int) = 0 := by omega
    have hen : F = ([], E) := by rw [← hF.out]; unfold encC; rw [hE.out, if_pos hE0]
    subst hen
    go_wp2_with (go_at_call 15; refine (CK _ hr1).mono ?_; rintro y w2 ⟨rfl, hb2⟩)
    go_ret2
    exact ⟨rfl, below_tr B1 hb2⟩
end Go.Proofs.YtjmcpdhfefcdgaaDoor
