/- Matchers written by the document. -/
import Derived.Test.YtjmcpdhfefcdgaaDoorMp
import Derived.Test.YtjmcpdhfefcdgaaDoorDet
namespace Go.Proofs.YtjmcpdhfefcdgaaDoor
open Go.RowKit Lb Dig

set_option maxRecDepth 100000 in
set_option maxHeartbeats 4000000 in
theorem rmencode_any (l : List Mt) (a : Option Addr) (n c : Nat) (hn : l.length = n) (hb : n ≤ 4611686018427387904) (w : World) (hr : RowM w a l) :
    Calls Tryd.prog 28 #[.slice a n c] w fun e w' => e = .returned (.tuple #[.string (mkS (encM l).1), .int .i64 ((encM l).2 : Nat)]) ∧ Below w.heap.size w w' := by
  obtain ⟨E, hE⟩ : ∃ E, Hid (chkM l = E) := ⟨_, Lib.hid rfl⟩
  obtain ⟨F, hF⟩ : ∃ F, Hid (encM l = F) := ⟨_, Lib.hid rfl⟩
  have CK := fun W h => rmcheck_any l a n c hn hb W h
  rw [hE.out] at CK
  rw [hF.out]
  go_enter Tryd.func28, Tryd.ntmps28
  by_cases hE0 : E = 0
  · have hEi : (E : Int) = 0 := by omega
    obtain ⟨k8, kok⟩ := chkM_ok (l := l) (by rw [hE.out]; exact hE0)
    have hni : (n : Int) < 18446744073709551616 := by omega
    have hni2 : IntKind.u64.wrap (n : Int) = (n : Int) := wrap_u64_id _ (by omega) (by omega)
    go_upto_region 6 with (first
      | (go_at_call 37; refine (CK _ hr).mono ?_; rintro y w2 ⟨rfl, hb2⟩; clear CK)
      | (go_at_call 27; refine (refnum_any n (by omega) _).mono ?_; rintro y w4 ⟨rfl, hb4⟩))
    have hbw4 := below_tr hb2 hb4
    have hnl : (numB n).length ≤ 9 := by have := dig_len8 n (by omega); unfold numB; simp; omega
    clear hb2 hb4
    go_loopw [5, 6] (fun v5 v6 wt => ∃ (j : Nat), j ≤ n ∧ v6 = .int .i64 j ∧ v5 = .string (mkS (numB n ++ matsB (l.take j))) ∧ Below w.heap.size w wt) (fun _ v6 _ => n - (intOf v6).toNat)
    case atStart => exact ⟨0, by omega, rfl, by rw [List.take_zero]; simp [matsB], hbw4⟩
    case round =>
      clear hbw4
      obtain ⟨j, hj, rfl, rfl, hbel⟩ := hrel
      have hrw : RowM wr a l := RowM.below hr hbel
      by_cases hlt : j < n
      · have hji : (j : Int) < (n : Int) := by omega
        obtain ⟨⟨k, nm, v⟩, hp⟩ : ∃ p, l[j]? = some p := ⟨_, List.getElem?_eq_getElem (by omega)⟩
        have hpk := kok _ (List.mem_of_getElem? hp)
        have htl := mtB_len hpk
        obtain ⟨k1, k4, z1, z2⟩ := right_ok hpk
        simp only at k1 k4 z1 z2
        obtain ⟨kn, rfl⟩ : ∃ kn : Nat, k = kn := ⟨k.toNat, by omega⟩
        obtain ⟨x, rfl⟩ := RowG.some_ hrw hp
        obtain ⟨c0, c1, c2, _, _, _⟩ := RowM.at3 hrw hp
        have hkw : IntKind.u64.wrap (kn : Int) = (kn : Int) := wrap_u64_id _ (by omega) (by omega)
        have NUM := fun W => refnum_any kn (by omega) W
        have TXN := fun W => dreftext_any nm (by omega) W
        have TXV := fun W => dreftext_any v (by omega) W
        obtain ⟨SS, hSS⟩ : ∃ S, Hid (mkS (numB n ++ matsB (l.take j)) = S) := ⟨_, Lib.hid rfl⟩
        obtain ⟨NK, hNK⟩ : ∃ S, Hid (mkS (numB kn) = S) := ⟨_, Lib.hid rfl⟩
        obtain ⟨TN, hTN⟩ : ∃ S, Hid (mkS (textB nm.data.toList) = S) := ⟨_, Lib.hid rfl⟩
        obtain ⟨TV, hTV⟩ : ∃ S, Hid (mkS (textB v.data.toList) = S) := ⟨_, Lib.hid rfl⟩
        rw [hNK.out] at NUM
        rw [hTN.out] at TXN
        rw [hTV.out] at TXV
        have htk : Hid (SS ++ NK ++ TN ++ TV = mkS (numB n ++ matsB (l.take (j + 1)))) := Lib.hid (by
          rw [← hSS.out, ← hNK.out, ← hTN.out, ← hTV.out, mkS_append, mkS_append, mkS_append, List.take_add_one, hp]
          show _ = mkS (numB n ++ matsB (l.take j ++ [((kn : Int), nm, v)]))
          rw [matsB_snoc]; unfold mtB; simp only [List.append_assoc, Int.toNat_natCast])
        have hlen3 : SS.size + NK.size + TN.size + TV.size ≤ 9223372036854775807 := by
          have h0 := congrArg ByteArray.size htk.out
          rw [ByteArray.size_append, ByteArray.size_append, ByteArray.size_append, mkS_size, List.length_append] at h0
          have h1 := matsB_len (l.take (j + 1)) (fun p hp => kok p (List.mem_of_mem_take hp))
          rw [List.length_take] at h1
          omega
        have hlen2 : SS.size + NK.size + TN.size ≤ 9223372036854775807 := by omega
        have hlen1 : SS.size + NK.size ≤ 9223372036854775807 := by omega
        have hkn : kn < 18446744073709551616 := by omega
        clear hpk htl hp k1 k4 z1 z2 kok hrw
        go_upto_region 8 with (fail)
        rw [hSS.out]
        have HB0 := Below.refl wr.heap.size wr
        refine wp_region_det_list (by kernel_rfl) (by kernel_rfl) (SL [eqv (.string SS), eqv (.slice (some x) n c), eqv (.int .i64 j), eqv (.pointer (some (x.add (j * 3)))), eqv (.pointer (some (x.add (j * 3)))), eqv (.int .i64 kn), eqv (.int .u64 kn), eqv (.string NK), eqv (.string (SS ++ NK)), eqv (.slice (some x) n c), eqv (.int .i64 j), eqv (.pointer (some (x.add (j * 3)))), eqv (.pointer (some ⟨(x.add (j * 3)).block, (x.add (j * 3)).off + 1, none⟩)), eqv (.string nm), eqv (.string TN), eqv (.string (SS ++ NK ++ TN)), eqv (.slice (some x) n c), eqv (.int .i64 j), eqv (.pointer (some (x.add (j * 3)))), eqv (.pointer (some ⟨(x.add (j * 3)).block, (x.add (j * 3)).off + 2, none⟩)), eqv (.string v), eqv (.string TV), eqv (.string (SS ++ NK ++ TN ++ TV)), eqv (.string (SS ++ NK ++ TN ++ TV))]) (fun W => Below wr.heap.size wr W) Grow ?hJ ?hX ?hop ?hend
        case hJ => exact HB0.drew
        case hX => exact SL_mono _ ⟨mono_eqv _, mono_eqv _, mono_eqv _, mono_eqv _, mono_eqv _, mono_eqv _, mono_eqv _, mono_eqv _, mono_eqv _, mono_eqv _, mono_eqv _, mono_eqv _, mono_eqv _, mono_eqv _, mono_eqv _, mono_eqv _, mono_eqv _, mono_eqv _, mono_eqv _, mono_eqv _, mono_eqv _, mono_eqv _, mono_eqv _, mono_eqv _, trivial⟩
        case hop =>
          refine OpsGoal.more 0 1 rfl (fun vals W hJ hS => ?_) ?_
          · clear hS
            simp only [fillTo]
            go_wp2
            exact ⟨rfl, SL_eq rfl rfl, hJ, Below.refl _ _⟩
          refine OpsGoal.more 1 2 rfl (fun vals W hJ hS => ?_) ?_
          · clear hS
            simp only [fillTo]
            go_simp
            go_wp2
            exact ⟨rfl, SL_eq rfl rfl, hJ, Below.refl _ _⟩
          refine OpsGoal.more 2 3 rfl (fun vals W hJ hS => ?_) ?_
          · clear hS
            simp only [fillTo]
            go_simp
            go_wp2
            exact ⟨rfl, SL_eq rfl rfl, hJ, Below.refl _ _⟩
          refine OpsGoal.more 3 4 rfl (fun vals W hJ hS => ?_) ?_
          · have h1 := SL_val rfl (hS 1 (by kernel_rfl))
            have h2 := SL_val rfl (hS 2 (by kernel_rfl))
            clear hS
            simp only [fillTo]
            go_simp
            generalize vals 1 = v1 at h1 ⊢
            subst h1
            generalize vals 2 = v2 at h2 ⊢
            subst h2
            go_wp2
            exact ⟨rfl, SL_eq rfl rfl, hJ, Below.refl _ _⟩
          refine OpsGoal.more 4 5 rfl (fun vals W hJ hS => ?_) ?_
          · have h3 := SL_val rfl (hS 3 (by kernel_rfl))
            clear hS
            simp only [fillTo]
            go_simp
            generalize vals 3 = v3 at h3 ⊢
            subst h3
            go_wp2
            exact ⟨rfl, SL_eq rfl rfl, hJ, Below.refl _ _⟩
          refine OpsGoal.more 5 6 rfl (fun vals W hJ hS => ?_) ?_
          · have h4 := SL_val rfl (hS 4 (by kernel_rfl))
            have hkc0 := (Chg.of_below (fun _ => False) hJ).cell c0 (fun x => x)
            clear hS
            simp only [fillTo]
            go_simp
            generalize vals 4 = v4 at h4 ⊢
            subst h4
            go_wp2
            exact ⟨rfl, SL_eq rfl rfl, hJ, Below.refl _ _⟩
          refine OpsGoal.more 6 7 rfl (fun vals W hJ hS => ?_) ?_
          · have h5 := SL_val rfl (hS 5 (by kernel_rfl))
            clear hS
            simp only [fillTo]
            go_simp
            generalize vals 5 = v5 at h5 ⊢
            subst h5
            go_wp2
            exact ⟨rfl, SL_eq rfl rfl, hJ, Below.refl _ _⟩
          refine OpsGoal.more 7 8 rfl (fun vals W hJ hS => ?_) ?_
          · have h6 := SL_val rfl (hS 6 (by kernel_rfl))
            clear hS
            simp only [fillTo]
            go_simp
            generalize vals 6 = v6 at h6 ⊢
            subst h6
            go_wp2_with (go_at_call 27; refine (NUM _).mono ?_; rintro e w' ⟨rfl, hb⟩)
            exact ⟨rfl, SL_eq rfl rfl, hJ.trans (hb.mono hJ.size), hb⟩
          refine OpsGoal.more 8 9 rfl (fun vals W hJ hS => ?_) ?_
          · have h0 := SL_val rfl (hS 0 (by kernel_rfl))
            have h7 := SL_val rfl (hS 7 (by kernel_rfl))
            clear hS
            simp only [fillTo]
            go_simp
            generalize vals 0 = v0 at h0 ⊢
            subst h0
            generalize vals 7 = v7 at h7 ⊢
            subst h7
            go_wp2
            exact ⟨rfl, SL_eq rfl rfl, hJ, Below.refl _ _⟩
          refine OpsGoal.more 9 10 rfl (fun vals W hJ hS => ?_) ?_
          · clear hS
            simp only [fillTo]
            go_simp
            go_wp2
            exact ⟨rfl, SL_eq rfl rfl, hJ, Below.refl _ _⟩
          refine OpsGoal.more 10 11 rfl (fun vals W hJ hS => ?_) ?_
          · clear hS
            simp only [fillTo]
            go_simp
            go_wp2
            exact ⟨rfl, SL_eq rfl rfl, hJ, Below.refl _ _⟩
          refine OpsGoal.more 11 12 rfl (fun vals W hJ hS => ?_) ?_
          · have h9 := SL_val rfl (hS 9 (by kernel_rfl))
            have h10 := SL_val rfl (hS 10 (by kernel_rfl))
            clear hS
            simp only [fillTo]
            go_simp
            generalize vals 9 = v9 at h9 ⊢
            subst h9
            generalize vals 10 = v10 at h10 ⊢
            subst h10
            go_wp2
            exact ⟨rfl, SL_eq rfl rfl, hJ, Below.refl _ _⟩
          refine OpsGoal.more 12 13 rfl (fun vals W hJ hS => ?_) ?_
          · have h11 := SL_val rfl (hS 11 (by kernel_rfl))
            clear hS
            simp only [fillTo]
            go_simp
            generalize vals 11 = v11 at h11 ⊢
            subst h11
            go_wp2
            exact ⟨rfl, SL_eq rfl rfl, hJ, Below.refl _ _⟩
          refine OpsGoal.more 13 14 rfl (fun vals W hJ hS => ?_) ?_
          · have h12 := SL_val rfl (hS 12 (by kernel_rfl))
            have hkc0 := (Chg.of_below (fun _ => False) hJ).cell c1 (fun x => x)
            clear hS
            simp only [fillTo]
            go_simp
            generalize vals 12 = v12 at h12 ⊢
            subst h12
            go_wp2
            exact ⟨rfl, SL_eq rfl rfl, hJ, Below.refl _ _⟩
          refine OpsGoal.more 14 15 rfl (fun vals W hJ hS => ?_) ?_
          · have h13 := SL_val rfl (hS 13 (by kernel_rfl))
            clear hS
            simp only [fillTo]
            go_simp
            generalize vals 13 = v13 at h13 ⊢
            subst h13
            go_wp2_with (go_at_call 31; refine (TXN _).mono ?_; rintro e w' ⟨rfl, hb⟩)
            exact ⟨rfl, SL_eq rfl rfl, hJ.trans (hb.mono hJ.size), hb⟩
          refine OpsGoal.more 15 16 rfl (fun vals W hJ hS => ?_) ?_
          · have h8 := SL_val rfl (hS 8 (by kernel_rfl))
            have h14 := SL_val rfl (hS 14 (by kernel_rfl))
            clear hS
            simp only [fillTo]
            go_simp
            generalize vals 8 = v8 at h8 ⊢
            subst h8
            generalize vals 14 = v14 at h14 ⊢
            subst h14
            go_wp2
            exact ⟨rfl, SL_eq rfl rfl, hJ, Below.refl _ _⟩
          refine OpsGoal.more 16 17 rfl (fun vals W hJ hS => ?_) ?_
          · clear hS
            simp only [fillTo]
            go_simp
            go_wp2
            exact ⟨rfl, SL_eq rfl rfl, hJ, Below.refl _ _⟩
          refine OpsGoal.more 17 18 rfl (fun vals W hJ hS => ?_) ?_
          · clear hS
            simp only [fillTo]
            go_simp
            go_wp2
            exact ⟨rfl, SL_eq rfl rfl, hJ, Below.refl _ _⟩
          refine OpsGoal.more 18 19 rfl (fun vals W hJ hS => ?_) ?_
          · have h16 := SL_val rfl (hS 16 (by kernel_rfl))
            have h17 := SL_val rfl (hS 17 (by kernel_rfl))
            clear hS
            simp only [fillTo]
            go_simp
            generalize vals 16 = v16 at h16 ⊢
            subst h16
            generalize vals 17 = v17 at h17 ⊢
            subst h17
            go_wp2
            exact ⟨rfl, SL_eq rfl rfl, hJ, Below.refl _ _⟩
          refine OpsGoal.more 19 20 rfl (fun vals W hJ hS => ?_) ?_
          · have h18 := SL_val rfl (hS 18 (by kernel_rfl))
            clear hS
            simp only [fillTo]
            go_simp
            generalize vals 18 = v18 at h18 ⊢
            subst h18
            go_wp2
            exact ⟨rfl, SL_eq rfl rfl, hJ, Below.refl _ _⟩
          refine OpsGoal.more 20 21 rfl (fun vals W hJ hS => ?_) ?_
          · have h19 := SL_val rfl (hS 19 (by kernel_rfl))
            have hkc0 := (Chg.of_below (fun _ => False) hJ).cell c2 (fun x => x)
            clear hS
            simp only [fillTo]
            go_simp
            generalize vals 19 = v19 at h19 ⊢
            subst h19
            go_wp2
            exact ⟨rfl, SL_eq rfl rfl, hJ, Below.refl _ _⟩
          refine OpsGoal.more 21 22 rfl (fun vals W hJ hS => ?_) ?_
          · have h20 := SL_val rfl (hS 20 (by kernel_rfl))
            clear hS
            simp only [fillTo]
            go_simp
            generalize vals 20 = v20 at h20 ⊢
            subst h20
            go_wp2_with (go_at_call 31; refine (TXV _).mono ?_; rintro e w' ⟨rfl, hb⟩)
            exact ⟨rfl, SL_eq rfl rfl, hJ.trans (hb.mono hJ.size), hb⟩
          refine OpsGoal.more 22 23 rfl (fun vals W hJ hS => ?_) ?_
          · have h15 := SL_val rfl (hS 15 (by kernel_rfl))
            have h21 := SL_val rfl (hS 21 (by kernel_rfl))
            clear hS
            simp only [fillTo]
            go_simp
            generalize vals 15 = v15 at h15 ⊢
            subst h15
            generalize vals 21 = v21 at h21 ⊢
            subst h21
            go_wp2
            exact ⟨rfl, SL_eq rfl rfl, hJ, Below.refl _ _⟩
          refine OpsGoal.more 23 24 rfl (fun vals W hJ hS => ?_) ?_
          · have h22 := SL_val rfl (hS 22 (by kernel_rfl))
            clear hS
            simp only [fillTo]
            go_simp
            generalize vals 22 = v22 at h22 ⊢
            subst h22
            go_wp2
            exact ⟨rfl, SL_eq rfl rfl, hJ, Below.refl _ _⟩
          exact trivial
        case hend =>
          intro vals W hJ hS
          have h23 := SL_val rfl (hS 23 (by decide))
          clear hS
          simp only [List.size_toArray, List.length_cons, List.length_nil, Nat.reduceAdd, fillTo]
          go_simp
          generalize vals 23 = v23 at h23 ⊢
          subst h23
          rw [htk.out]
          go_wp2
          go_roundw
          case rel => exact ⟨j + 1, by omega, by go_num, rfl, below_tr hbel hJ⟩
          case measure => simp [intOf]; omega
      · obtain rfl : j = n := by omega
        have hji : ¬ (j : Int) < (j : Int) := by omega
        rw [List.take_of_length_le (by omega)]
        have hen : F = (numB j ++ matsB l, 0) := by rw [← hF.out]; unfold encM; rw [hE.out, hn, if_neg (by omega)]
        subst hen
        go_wp2
        go_ret2
        exact ⟨rfl, hbel⟩
  · have hEi : ¬ (E : Int) = 0 := by omega
    have hen : F = ([], E) := by rw [← hF.out]; unfold encM; rw [hE.out, if_pos hE0]
    subst hen
    go_wp2_with (go_at_call 37; refine (CK _ hr).mono ?_; rintro y w2 ⟨rfl, hb2⟩)
    go_ret2
    exact ⟨rfl, hb2⟩
end Go.Proofs.YtjmcpdhfefcdgaaDoor
