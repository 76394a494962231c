/- The law DigitsBack, walked. -/
import Derived.Test.YtoihalkbampdnaaDigLaws
namespace Go.Proofs.Ytoihalkbampdnaa
open Go.RowKit Dig

set_option maxRecDepth 100000 in
set_option maxHeartbeats 1000000 in
theorem digitsBack_walk (n0 m : Int) (s : ByteArray) (hn : (Lit.int .u64 n0).wf = true) (hm : (Lit.int .i64 m).wf = true) (hs : s.size ≤ 140737488351232) (w : World) :
    Calls Try.prog 11 #[.int .u64 n0, .int .i64 m, .string s] w fun e w' => e = .returned (.bool true) ∧ Below w.heap.size w w' := by
  obtain ⟨h0, h1⟩ := wf_u64 hn
  obtain ⟨m0, m1⟩ := wf_i64 hm
  obtain ⟨N, rfl⟩ := Int.eq_ofNat_of_zero_le h0
  have hN : N < 18446744073709551616 := by omega
  have hZ := zig_lt m m0 m1
  have hl1 := dig_len8 N hN
  have hl2 := dig_len8 (zig m) hZ
  have hz1 : ¬ 9223372036854775807 < (mkS (numB N)).size + s.size := by rw [mkS_size, numB_len]; omega
  have hz2 : ¬ 9223372036854775807 < (mkS (numB (zig m))).size + s.size := by rw [mkS_size, numB_len]; omega
  have hL : ∀ l : List UInt8, (mkS l ++ s).data.toList = l ++ s.data.toList := fun l => by simp [mkS]
  have c1 : ∀ w, Calls Try.prog 22 #[.string (mkS (numB N) ++ s)] w fun r w' => r = .returned (.tuple #[.int .u64 N, .int .i64 (numB N).length, .int .i64 0]) ∧ Below w.heap.size w w' := fun w =>
    getnum_eq (n := N) (k := (numB N).length) (e := 0) _ (by rw [ByteArray.size_append]; omega) (Lib.hid (by rw [hL, getNum_numB N hN])) w
  have c2 : ∀ w, Calls Try.prog 28 #[.string (mkS (numB (zig m)) ++ s)] w fun r w' => r = .returned (.tuple #[.int .i64 m, .int .i64 (numB (zig m)).length, .int .i64 0]) ∧ Below w.heap.size w w' := fun w => by
    have h := getsigned_any (n := zig m) (k := (numB (zig m)).length) (e := 0) (mkS (numB (zig m)) ++ s) (by rw [ByteArray.size_append]; omega) (Lib.hid (by rw [hL, getNum_numB _ hZ])) w
    rw [zag_zig] at h
    exact h
  have hsn : (mkS (numB N)).size = (numB N).length := mkS_size _
  have hsz : (mkS (numB (zig m))).size = (numB (zig m)).length := mkS_size _
  obtain ⟨c, k, g, hg⟩ : ∃ c k g, Hid (getNum s.data.toList = (c, k, g)) := ⟨_, _, _, Lib.hid rfl⟩
  obtain ⟨hcn, hk, hk9, hg3⟩ := getNum_facts hg.out
  have hks : k ≤ s.size := by rw [size_toList]; exact hk
  have C1 := Lib.hid c1
  have C2 := Lib.hid c2
  have HB := Below.refl w.heap.size w
  clear hn hm h0 h1 hl1 hl2 c1 c2 hL hk hg3
  by_cases hg0 : g = 0
  · subst hg0
    have hb := numB_getNum s.data.toList (by rw [hg.out])
    rw [hg.out] at hb
    obtain ⟨hb1, hb2⟩ := hb
    simp only at hb1 hb2
    have hE : s.extract 0 k = mkS (numB c) := by
      apply ByteArray.ext; apply Array.toList_inj.mp
      rw [extract_toList, mkS_data, hb1]; simp
    have hb2i : (0 : Int) < k := by omega
    have hksi : (k : Int) ≤ s.size := by omega
    clear hb1
    go_enter Try.func11, Try.ntmps11
    go_upto_region 8 with (first
      | (go_at_call 26; refine (works01_any _).mono ?_; rintro e w' ⟨rfl, hb⟩; replace HB := below_tr HB hb; clear hb)
      | (go_at_call 22; (with_reducible refine (C1.out _).mono ?_); rintro e w' ⟨rfl, hb⟩; replace HB := below_tr HB hb; clear hb)
      | (go_at_call 22; (with_reducible refine (getnum_eq s (by omega) hg _).mono ?_); rintro e w' ⟨rfl, hb⟩; replace HB := below_tr HB hb; clear hb)
      | (go_at_call 28; (with_reducible refine (C2.out _).mono ?_); rintro e w' ⟨rfl, hb⟩; replace HB := below_tr HB hb; clear hb)
      | (go_at_call 24; refine (num_any N hN _).mono ?_; rintro e w' ⟨rfl, hb⟩; replace HB := below_tr HB hb; clear hb)
      | (go_at_call 27; refine (signed_any m m0 m1 _).mono ?_; rintro e w' ⟨rfl, hb⟩; replace HB := below_tr HB hb; clear hb))
    refine wp_region_det_list (by kernel_rfl) (by kernel_rfl) (SL [eqv (.int .i64 0), eqv (.bool false), eqv (.bool false), eqv (.int .i64 (k : Nat)), eqv (.bool true), eqv (.bool true), eqv (.int .i64 (k : Nat)), eqv (.string s), eqv (.int .i64 (s.size : Nat)), eqv (.bool true), eqv (.bool true), eqv (.bool true), eqv (.int .u64 (c : Nat)), eqv (.string (mkS (numB c))), eqv (.string s), eqv (.int .i64 (k : Nat)), eqv (.string (mkS (numB c))), eqv (.bool true), eqv (.bool true), eqv (.bool true), eqv (.bool true)]) (fun W => Below w.heap.size w W) Grow ?hJ ?hX ?hop ?hend
    case hJ => exact HB.drew
    case hX => exact SL_mono _ ⟨mono_eqv _, mono_eqv _, mono_eqv _, mono_eqv _, mono_eqv _, mono_eqv _, mono_eqv _, mono_eqv _, mono_eqv _, mono_eqv _, mono_eqv _, mono_eqv _, mono_eqv _, mono_eqv _, mono_eqv _, mono_eqv _, mono_eqv _, mono_eqv _, mono_eqv _, mono_eqv _, mono_eqv _, trivial⟩
    case hop =>
      refine ⟨fun vals W hJ hS => ?_, fun vals W hJ hS => ?_, fun vals W hJ hS => ?_, fun vals W hJ hS => ?_, fun vals W hJ hS => ?_, fun vals W hJ hS => ?_, fun vals W hJ hS => ?_, fun vals W hJ hS => ?_, fun vals W hJ hS => ?_, fun vals W hJ hS => ?_, fun vals W hJ hS => ?_, fun vals W hJ hS => ?_, fun vals W hJ hS => ?_, fun vals W hJ hS => ?_, fun vals W hJ hS => ?_, fun vals W hJ hS => ?_, fun vals W hJ hS => ?_, fun vals W hJ hS => ?_, fun vals W hJ hS => ?_, fun vals W hJ hS => ?_, fun vals W hJ hS => ?_, trivial⟩
      · clear hS
        simp only [fillTo]
        go_wp2
        exact ⟨rfl, SL_eq rfl rfl, hJ, Below.refl _ _⟩
      · have h0 := SL_val rfl (hS 0 (by kernel_rfl))
        clear hS
        simp only [fillTo]
        go_simp
        generalize vals 0 = v0 at h0 ⊢
        subst h0
        go_wp2
        exact ⟨rfl, SL_eq rfl rfl, hJ, Below.refl _ _⟩
      · have h1 := SL_val rfl (hS 1 (by kernel_rfl))
        clear hS
        simp only [fillTo]
        go_simp
        generalize vals 1 = v1 at h1 ⊢
        subst h1
        go_wp2
        exact ⟨rfl, SL_eq rfl rfl, hJ, Below.refl _ _⟩
      · have h2 := SL_val rfl (hS 2 (by kernel_rfl))
        clear hS
        simp only [fillTo]
        go_simp
        generalize vals 2 = v2 at h2 ⊢
        subst h2
        go_wp2
        exact ⟨rfl, SL_eq rfl rfl, hJ, Below.refl _ _⟩
      · have h2 := SL_val rfl (hS 2 (by kernel_rfl))
        have h3 := SL_val rfl (hS 3 (by kernel_rfl))
        clear hS
        simp only [fillTo]
        go_simp
        generalize vals 2 = v2 at h2 ⊢
        subst h2
        generalize vals 3 = v3 at h3 ⊢
        subst h3
        go_wp2
        exact ⟨rfl, SL_eq rfl rfl, hJ, Below.refl _ _⟩
      · have h2 := SL_val rfl (hS 2 (by kernel_rfl))
        have h4 := SL_val rfl (hS 4 (by kernel_rfl))
        clear hS
        simp only [fillTo]
        go_simp
        generalize vals 2 = v2 at h2 ⊢
        subst h2
        generalize vals 4 = v4 at h4 ⊢
        subst h4
        go_wp2
        exact ⟨rfl, SL_eq rfl rfl, hJ, Below.refl _ _⟩
      · have h5 := SL_val rfl (hS 5 (by kernel_rfl))
        clear hS
        simp only [fillTo]
        go_simp
        generalize vals 5 = v5 at h5 ⊢
        subst h5
        go_wp2
        exact ⟨rfl, SL_eq rfl rfl, hJ, Below.refl _ _⟩
      · have h5 := SL_val rfl (hS 5 (by kernel_rfl))
        clear hS
        simp only [fillTo]
        go_simp
        generalize vals 5 = v5 at h5 ⊢
        subst h5
        go_wp2
        exact ⟨rfl, SL_eq rfl rfl, hJ, Below.refl _ _⟩
      · have h5 := SL_val rfl (hS 5 (by kernel_rfl))
        have h7 := SL_val rfl (hS 7 (by kernel_rfl))
        clear hS
        simp only [fillTo]
        go_simp
        generalize vals 5 = v5 at h5 ⊢
        subst h5
        generalize vals 7 = v7 at h7 ⊢
        subst h7
        go_wp2
        exact ⟨rfl, SL_eq rfl rfl, hJ, Below.refl _ _⟩
      · have h5 := SL_val rfl (hS 5 (by kernel_rfl))
        have h6 := SL_val rfl (hS 6 (by kernel_rfl))
        have h8 := SL_val rfl (hS 8 (by kernel_rfl))
        clear hS
        simp only [fillTo]
        go_simp
        generalize vals 5 = v5 at h5 ⊢
        subst h5
        generalize vals 6 = v6 at h6 ⊢
        subst h6
        generalize vals 8 = v8 at h8 ⊢
        subst h8
        go_wp2
        exact ⟨rfl, SL_eq rfl rfl, hJ, Below.refl _ _⟩
      · have h2 := SL_val rfl (hS 2 (by kernel_rfl))
        have h5 := SL_val rfl (hS 5 (by kernel_rfl))
        have h9 := SL_val rfl (hS 9 (by kernel_rfl))
        clear hS
        simp only [fillTo]
        go_simp
        generalize vals 2 = v2 at h2 ⊢
        subst h2
        generalize vals 5 = v5 at h5 ⊢
        subst h5
        generalize vals 9 = v9 at h9 ⊢
        subst h9
        go_wp2
        exact ⟨rfl, SL_eq rfl rfl, hJ, Below.refl _ _⟩
      · have h2 := SL_val rfl (hS 2 (by kernel_rfl))
        have h10 := SL_val rfl (hS 10 (by kernel_rfl))
        clear hS
        simp only [fillTo]
        go_simp
        generalize vals 2 = v2 at h2 ⊢
        subst h2
        generalize vals 10 = v10 at h10 ⊢
        subst h10
        go_wp2
        exact ⟨rfl, SL_eq rfl rfl, hJ, Below.refl _ _⟩
      · have h11 := SL_val rfl (hS 11 (by kernel_rfl))
        clear hS
        simp only [fillTo]
        go_simp
        generalize vals 11 = v11 at h11 ⊢
        subst h11
        go_wp2
        exact ⟨rfl, SL_eq rfl rfl, hJ, Below.refl _ _⟩
      · have h11 := SL_val rfl (hS 11 (by kernel_rfl))
        have h12 := SL_val rfl (hS 12 (by kernel_rfl))
        clear hS
        simp only [fillTo]
        go_simp
        generalize vals 11 = v11 at h11 ⊢
        subst h11
        generalize vals 12 = v12 at h12 ⊢
        subst h12
        go_wp2_with (go_at_call 24; refine (num_any c hcn _).mono ?_; rintro e w' ⟨rfl, hb⟩)
        exact ⟨rfl, SL_eq rfl rfl, hJ.trans (hb.mono hJ.size), hb⟩
      · have h11 := SL_val rfl (hS 11 (by kernel_rfl))
        clear hS
        simp only [fillTo]
        go_simp
        generalize vals 11 = v11 at h11 ⊢
        subst h11
        go_wp2
        exact ⟨rfl, SL_eq rfl rfl, hJ, Below.refl _ _⟩
      · have h11 := SL_val rfl (hS 11 (by kernel_rfl))
        clear hS
        simp only [fillTo]
        go_simp
        generalize vals 11 = v11 at h11 ⊢
        subst h11
        go_wp2
        exact ⟨rfl, SL_eq rfl rfl, hJ, Below.refl _ _⟩
      · have h11 := SL_val rfl (hS 11 (by kernel_rfl))
        have h14 := SL_val rfl (hS 14 (by kernel_rfl))
        have h15 := SL_val rfl (hS 15 (by kernel_rfl))
        clear hS
        simp only [fillTo]
        go_simp
        generalize vals 11 = v11 at h11 ⊢
        subst h11
        generalize vals 14 = v14 at h14 ⊢
        subst h14
        generalize vals 15 = v15 at h15 ⊢
        subst h15
        go_wp2
        exact ⟨rfl, SL_eq rfl rfl, hJ, Below.refl _ _⟩
      · have h11 := SL_val rfl (hS 11 (by kernel_rfl))
        have h13 := SL_val rfl (hS 13 (by kernel_rfl))
        have h16 := SL_val rfl (hS 16 (by kernel_rfl))
        clear hS
        simp only [fillTo]
        go_simp
        generalize vals 11 = v11 at h11 ⊢
        subst h11
        generalize vals 13 = v13 at h13 ⊢
        subst h13
        generalize vals 16 = v16 at h16 ⊢
        subst h16
        go_wp2
        exact ⟨rfl, SL_eq rfl rfl, hJ, Below.refl _ _⟩
      · have h2 := SL_val rfl (hS 2 (by kernel_rfl))
        have h11 := SL_val rfl (hS 11 (by kernel_rfl))
        have h17 := SL_val rfl (hS 17 (by kernel_rfl))
        clear hS
        simp only [fillTo]
        go_simp
        generalize vals 2 = v2 at h2 ⊢
        subst h2
        generalize vals 11 = v11 at h11 ⊢
        subst h11
        generalize vals 17 = v17 at h17 ⊢
        subst h17
        go_wp2
        exact ⟨rfl, SL_eq rfl rfl, hJ, Below.refl _ _⟩
      · have h2 := SL_val rfl (hS 2 (by kernel_rfl))
        have h18 := SL_val rfl (hS 18 (by kernel_rfl))
        clear hS
        simp only [fillTo]
        go_simp
        generalize vals 2 = v2 at h2 ⊢
        subst h2
        generalize vals 18 = v18 at h18 ⊢
        subst h18
        go_wp2
        exact ⟨rfl, SL_eq rfl rfl, hJ, Below.refl _ _⟩
      · have h19 := SL_val rfl (hS 19 (by kernel_rfl))
        clear hS
        simp only [fillTo]
        go_simp
        generalize vals 19 = v19 at h19 ⊢
        subst h19
        go_wp2
        exact ⟨rfl, SL_eq rfl rfl, hJ, Below.refl _ _⟩
    case hend =>
      intro vals W hJ hS
      have h20 := SL_val rfl (hS 20 (by decide))
      clear hS
      simp only [List.size_toArray, List.length_cons, List.length_nil, Nat.reduceAdd, fillTo]
      go_simp
      generalize vals 20 = v20 at h20 ⊢
      subst h20
      go_wp2
      go_ret
      exact ⟨rfl, hJ⟩
  · have hgi : ((g : Int) != 0) = true := by rw [bne_iff_ne]; omega
    go_enter Try.func11, Try.ntmps11
    go_upto_region 8 with (first
      | (go_at_call 26; refine (works01_any _).mono ?_; rintro e w' ⟨rfl, hb⟩; replace HB := below_tr HB hb; clear hb)
      | (go_at_call 22; (with_reducible refine (C1.out _).mono ?_); rintro e w' ⟨rfl, hb⟩; replace HB := below_tr HB hb; clear hb)
      | (go_at_call 22; (with_reducible refine (getnum_eq s (by omega) hg _).mono ?_); rintro e w' ⟨rfl, hb⟩; replace HB := below_tr HB hb; clear hb)
      | (go_at_call 28; (with_reducible refine (C2.out _).mono ?_); rintro e w' ⟨rfl, hb⟩; replace HB := below_tr HB hb; clear hb)
      | (go_at_call 24; refine (num_any N hN _).mono ?_; rintro e w' ⟨rfl, hb⟩; replace HB := below_tr HB hb; clear hb)
      | (go_at_call 27; refine (signed_any m m0 m1 _).mono ?_; rintro e w' ⟨rfl, hb⟩; replace HB := below_tr HB hb; clear hb))
    go_quiet (fail)
    go_wp2
    go_ret
    exact ⟨rfl, below_drewN HB _⟩
end Go.Proofs.Ytoihalkbampdnaa
