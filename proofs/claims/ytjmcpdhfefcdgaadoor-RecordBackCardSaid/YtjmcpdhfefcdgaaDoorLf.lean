/- Labels written by the document. -/
import Derived.Test.YtjmcpdhfefcdgaaDoorLe
import Derived.Test.YtjmcpdhfefcdgaaDoorDet
namespace Go.Proofs.YtjmcpdhfefcdgaaDoor
open Go.RowKit Lb Dig

set_option maxRecDepth 100000 in
set_option maxHeartbeats 4000000 in
theorem rlencode_any (l : List Pr) (a : Option Addr) (n c : Nat) (hn : l.length = n) (hb : n ≤ 4611686018427387904) (hsz : ∀ p ∈ l, p.1.size ≤ 4611686018427387904 ∧ p.2.size ≤ 4611686018427387904) (w : World) (hr : RowQ w a l) :
    Calls Tryd.prog 30 #[.slice a n c] w fun e w' => e = .returned (.tuple #[.string (mkS (encL l).1), .int .i64 ((encL l).2 : Nat)]) ∧ Below w.heap.size w w' := by
  obtain ⟨E, hE⟩ : ∃ E, Hid (chkL l = E) := ⟨_, Lib.hid rfl⟩
  obtain ⟨F, hF⟩ : ∃ F, Hid (encL l = F) := ⟨_, Lib.hid rfl⟩
  have CK := fun W h => rlcheck_any l a n c hn hb hsz W h
  rw [hE.out] at CK
  rw [hF.out]
  go_enter Tryd.func30, Tryd.ntmps30
  by_cases hE0 : E = 0
  · have hEi : (E : Int) = 0 := by omega
    obtain ⟨k1, k8, kok⟩ := chkL_ok (l := l) (by rw [hE.out]; exact hE0)
    have hni : (n : Int) < 18446744073709551616 := by omega
    have hni2 : IntKind.u64.wrap (n : Int) = (n : Int) := wrap_u64_id _ (by omega) (by omega)
    go_upto_region 6 with (first
      | (go_at_call 36; refine (CK _ hr).mono ?_; rintro y w2 ⟨rfl, hb2⟩; clear CK)
      | (go_at_call 27; refine (refnum_any n (by omega) _).mono ?_; rintro y w4 ⟨rfl, hb4⟩))
    have hbw4 := below_tr hb2 hb4
    have hnl : (numB n).length ≤ 9 := by have := dig_len8 n (by omega); unfold numB; simp; omega
    clear hb2 hb4
    go_loopw [5, 6] (fun v5 v6 wt => ∃ (j : Nat), j ≤ n ∧ v6 = .int .i64 j ∧ v5 = .string (mkS (numB n ++ pairsB (l.take j))) ∧ Below w.heap.size w wt) (fun _ v6 _ => n - (intOf v6).toNat)
    case atStart => exact ⟨0, by omega, rfl, by rw [List.take_zero]; simp [pairsB], hbw4⟩
    case round =>
      clear hbw4
      obtain ⟨j, hj, rfl, rfl, hbel⟩ := hrel
      have hrw : RowQ wr a l := hr.below hbel
      by_cases hlt : j < n
      · have hji : (j : Int) < (n : Int) := by omega
        obtain ⟨⟨pn, pv⟩, hp⟩ : ∃ p, l[j]? = some p := ⟨_, List.getElem?_eq_getElem (by omega)⟩
        rcases hrw.row with h0 | ⟨x, rfl, hc⟩
        · rw [h0] at hp; simp at hp
        obtain ⟨c0, c1⟩ := hc j _ hp
        simp only at c0 c1
        have hpk := kok _ (List.mem_of_getElem? hp)
        simp only at hpk
        have z1 := nameB_len hpk.1
        have z2 := valueB_len hpk.2
        rw [← size_toList] at z1 z2
        obtain ⟨SS, hSS⟩ : ∃ S, Hid (mkS (numB n ++ pairsB (l.take j)) = S) := ⟨_, Lib.hid rfl⟩
        obtain ⟨TN, hTN⟩ : ∃ S, Hid (mkS (textB pn.data.toList) = S) := ⟨_, Lib.hid rfl⟩
        obtain ⟨TV, hTV⟩ : ∃ S, Hid (mkS (textB pv.data.toList) = S) := ⟨_, Lib.hid rfl⟩
        have TXn := fun W => dreftext_any pn (by omega) W
        have TXv := fun W => dreftext_any pv (by omega) W
        rw [hTN.out] at TXn
        rw [hTV.out] at TXv
        have htk : Hid (SS ++ TN ++ TV = mkS (numB n ++ pairsB (l.take (j + 1)))) := Lib.hid (by
          rw [← hSS.out, ← hTN.out, ← hTV.out, mkS_append, mkS_append, List.take_add_one, hp, List.append_assoc, List.append_assoc]; congr 2; exact (pairsB_snoc (l.take j) (pn, pv)).symm)
        have t1 := textB_len' pn.data.toList (by rw [← size_toList]; omega)
        have t2 := textB_len' pv.data.toList (by rw [← size_toList]; omega)
        rw [← size_toList] at t1 t2
        have hlen : SS.size + TN.size + TV.size ≤ 9223372036854775807 := by
          have h1 := pairsB_len (l.take j) (fun p hp => kok p (List.mem_of_mem_take hp))
          rw [List.length_take] at h1
          rw [← hSS.out, ← hTN.out, ← hTV.out, mkS_size, mkS_size, mkS_size, List.length_append]
          omega
        have hlen1 : SS.size + TN.size ≤ 9223372036854775807 := by omega
        clear hc hp hpk t1 t2 z1 z2 kok
        go_upto_region 8 with (fail)
        rw [hSS.out]
        have HB0 := Below.refl wr.heap.size wr
        refine wp_region_det_list (by kernel_rfl) (by kernel_rfl) (SL [eqv (.string SS), eqv (.slice (some x) n c), eqv (.int .i64 j), eqv (.pointer (some (x.add (j * 2)))), eqv (.pointer (some (x.add (j * 2)))), eqv (.string pn), eqv (.string TN), eqv (.string (SS ++ TN)), eqv (.slice (some x) n c), eqv (.int .i64 j), eqv (.pointer (some (x.add (j * 2)))), eqv (.pointer (some ⟨(x.add (j * 2)).block, (x.add (j * 2)).off + 1, none⟩)), eqv (.string pv), eqv (.string TV), eqv (.string (SS ++ TN ++ TV)), eqv (.string (SS ++ TN ++ TV))]) (fun W => Below wr.heap.size wr W) Grow ?hJ ?hX ?hop ?hend
        case hJ => exact HB0.drew
        case hX => exact SL_mono _ ⟨mono_eqv _, mono_eqv _, mono_eqv _, mono_eqv _, mono_eqv _, mono_eqv _, mono_eqv _, mono_eqv _, mono_eqv _, mono_eqv _, mono_eqv _, mono_eqv _, mono_eqv _, mono_eqv _, mono_eqv _, mono_eqv _, trivial⟩
        case hop =>
          refine ⟨fun vals W hJ hS => ?_, fun vals W hJ hS => ?_, fun vals W hJ hS => ?_, fun vals W hJ hS => ?_, fun vals W hJ hS => ?_, fun vals W hJ hS => ?_, fun vals W hJ hS => ?_, fun vals W hJ hS => ?_, fun vals W hJ hS => ?_, fun vals W hJ hS => ?_, fun vals W hJ hS => ?_, fun vals W hJ hS => ?_, fun vals W hJ hS => ?_, fun vals W hJ hS => ?_, fun vals W hJ hS => ?_, fun vals W hJ hS => ?_, trivial⟩
          · clear hS
            simp only [fillTo]
            go_wp2
            exact ⟨rfl, SL_eq rfl rfl, hJ, Below.refl _ _⟩
          · clear hS
            simp only [fillTo]
            go_simp
            go_wp2
            exact ⟨rfl, SL_eq rfl rfl, hJ, Below.refl _ _⟩
          · clear hS
            simp only [fillTo]
            go_simp
            go_wp2
            exact ⟨rfl, SL_eq rfl rfl, hJ, Below.refl _ _⟩
          · have h1 := SL_val rfl (hS 1 (by kernel_rfl))
            have h2 := SL_val rfl (hS 2 (by kernel_rfl))
            clear hS
            simp only [fillTo]
            go_simp
            generalize vals 1 = v1 at h1 ⊢
            subst h1
            generalize vals 2 = v2 at h2 ⊢
            subst h2
            go_wp2
            exact ⟨rfl, SL_eq rfl rfl, hJ, Below.refl _ _⟩
          · have h3 := SL_val rfl (hS 3 (by kernel_rfl))
            clear hS
            simp only [fillTo]
            go_simp
            generalize vals 3 = v3 at h3 ⊢
            subst h3
            go_wp2
            exact ⟨rfl, SL_eq rfl rfl, hJ, Below.refl _ _⟩
          · have h4 := SL_val rfl (hS 4 (by kernel_rfl))
            have hkc := (Chg.of_below (fun _ => False) hJ).cell c0 (fun x => x)
            clear hS
            simp only [fillTo]
            go_simp
            generalize vals 4 = v4 at h4 ⊢
            subst h4
            go_wp2
            exact ⟨rfl, SL_eq rfl rfl, hJ, Below.refl _ _⟩
          · have h5 := SL_val rfl (hS 5 (by kernel_rfl))
            clear hS
            simp only [fillTo]
            go_simp
            generalize vals 5 = v5 at h5 ⊢
            subst h5
            go_wp2_with (go_at_call 31; refine (TXn _).mono ?_; rintro e w' ⟨rfl, hb⟩)
            exact ⟨rfl, SL_eq rfl rfl, hJ.trans (hb.mono hJ.size), hb⟩
          · have h0 := SL_val rfl (hS 0 (by kernel_rfl))
            have h6 := SL_val rfl (hS 6 (by kernel_rfl))
            clear hS
            simp only [fillTo]
            go_simp
            generalize vals 0 = v0 at h0 ⊢
            subst h0
            generalize vals 6 = v6 at h6 ⊢
            subst h6
            go_wp2
            exact ⟨rfl, SL_eq rfl rfl, hJ, Below.refl _ _⟩
          · clear hS
            simp only [fillTo]
            go_simp
            go_wp2
            exact ⟨rfl, SL_eq rfl rfl, hJ, Below.refl _ _⟩
          · clear hS
            simp only [fillTo]
            go_simp
            go_wp2
            exact ⟨rfl, SL_eq rfl rfl, hJ, Below.refl _ _⟩
          · have h8 := SL_val rfl (hS 8 (by kernel_rfl))
            have h9 := SL_val rfl (hS 9 (by kernel_rfl))
            clear hS
            simp only [fillTo]
            go_simp
            generalize vals 8 = v8 at h8 ⊢
            subst h8
            generalize vals 9 = v9 at h9 ⊢
            subst h9
            go_wp2
            exact ⟨rfl, SL_eq rfl rfl, hJ, Below.refl _ _⟩
          · have h10 := SL_val rfl (hS 10 (by kernel_rfl))
            clear hS
            simp only [fillTo]
            go_simp
            generalize vals 10 = v10 at h10 ⊢
            subst h10
            go_wp2
            exact ⟨rfl, SL_eq rfl rfl, hJ, Below.refl _ _⟩
          · have h11 := SL_val rfl (hS 11 (by kernel_rfl))
            have hkc := (Chg.of_below (fun _ => False) hJ).cell c1 (fun x => x)
            clear hS
            simp only [fillTo]
            go_simp
            generalize vals 11 = v11 at h11 ⊢
            subst h11
            go_wp2
            exact ⟨rfl, SL_eq rfl rfl, hJ, Below.refl _ _⟩
          · have h12 := SL_val rfl (hS 12 (by kernel_rfl))
            clear hS
            simp only [fillTo]
            go_simp
            generalize vals 12 = v12 at h12 ⊢
            subst h12
            go_wp2_with (go_at_call 31; refine (TXv _).mono ?_; rintro e w' ⟨rfl, hb⟩)
            exact ⟨rfl, SL_eq rfl rfl, hJ.trans (hb.mono hJ.size), hb⟩
          · have h7 := SL_val rfl (hS 7 (by kernel_rfl))
            have h13 := SL_val rfl (hS 13 (by kernel_rfl))
            clear hS
            simp only [fillTo]
            go_simp
            generalize vals 7 = v7 at h7 ⊢
            subst h7
            generalize vals 13 = v13 at h13 ⊢
            subst h13
            go_wp2
            exact ⟨rfl, SL_eq rfl rfl, hJ, Below.refl _ _⟩
          · have h14 := SL_val rfl (hS 14 (by kernel_rfl))
            clear hS
            simp only [fillTo]
            go_simp
            generalize vals 14 = v14 at h14 ⊢
            subst h14
            go_wp2
            exact ⟨rfl, SL_eq rfl rfl, hJ, Below.refl _ _⟩
        case hend =>
          intro vals W hJ hS
          have h15 := SL_val rfl (hS 15 (by decide))
          clear hS
          simp only [List.size_toArray, List.length_cons, List.length_nil, Nat.reduceAdd, fillTo]
          go_simp
          generalize vals 15 = v15 at h15 ⊢
          subst h15
          rw [htk.out]
          go_wp2
          go_roundw
          case rel => exact ⟨j + 1, by omega, by go_num, rfl, below_tr hbel hJ⟩
          case measure => simp [intOf]; omega
      · obtain rfl : j = n := by omega
        have hji : ¬ (j : Int) < (j : Int) := by omega
        rw [List.take_of_length_le (by omega)]
        have hen : F = (numB j ++ pairsB l, 0) := by rw [← hF.out]; unfold encL; rw [hE.out, hn, if_neg (by omega)]
        subst hen
        go_wp2
        go_ret2
        exact ⟨rfl, hbel⟩
  · have hEi : ¬ (E : Int) = 0 := by omega
    have hen : F = ([], E) := by rw [← hF.out]; unfold encL; rw [hE.out, if_pos hE0]
    subst hen
    go_wp2_with (go_at_call 36; refine (CK _ hr).mono ?_; rintro y w2 ⟨rfl, hb2⟩)
    go_ret2
    exact ⟨rfl, hb2⟩
end Go.Proofs.YtjmcpdhfefcdgaaDoor
