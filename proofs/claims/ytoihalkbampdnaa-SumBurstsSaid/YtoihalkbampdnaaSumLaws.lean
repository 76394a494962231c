/- The laws of the check sum, walked. -/
import Derived.Test.YtoihalkbampdnaaSum
import Derived.Test.YtoihalkbampdnaaCrcLin
import Derived.Test.YtoihalkbampdnaaDet
import Derived.Deep.RegionWith
import Derived.Deep.QuietTactic
import Derived.BigQuiet
import Derived.BigRegion
import Derived.Deep.DeepCutAuto
namespace Go.Proofs.Ytoihalkbampdnaa
open Go.RowKit Crc

theorem sumTells_walk (c0 : Int) (s : ByteArray) (hc : (Lit.int .u32 c0).wf = true) (hs : s.size ≤ 140737488351232) (w : World) :
    Calls Try.prog 3 #[.int .u32 c0, .string s] w fun e w' => e = .returned (.bool true) ∧ Below w.heap.size w w' := by
  obtain ⟨h0, h1⟩ := wf_u32 hc
  obtain ⟨c, rfl⟩ := Int.eq_ofNat_of_zero_le h0
  have hc' : c < 4294967296 := by omega
  have hs' : s.size ≤ 9223372036854775807 := by omega
  clear hc h0 h1
  have HB := Below.refl w.heap.size w
  by_cases hlt : 5000 < s.size
  · go_enter Try.func3, Try.ntmps3
    go_wp2
    go_ret
    exact ⟨rfl, HB⟩
  · go_enter Try.func3, Try.ntmps3
    go_wp2_with (first
      | (go_at_call 15; refine (of_any s hs' _).mono ?_; rintro e w' ⟨rfl, hb⟩; replace HB := below_tr HB hb; clear hb)
      | (go_at_call 16; refine (refof_any s hs' _).mono ?_; rintro e w' ⟨rfl, rfl⟩)
      | (go_at_call 17; refine (more_any c hc' s hs' _).mono ?_; rintro e w' ⟨rfl, hb⟩; replace HB := below_tr HB hb; clear hb)
      | (go_at_call 18; refine (refmore_any c hc' s hs' _).mono ?_; rintro e w' ⟨rfl, rfl⟩)
      | (go_at_call 19; refine (bytes_any c hc' _).mono ?_; rintro e w' ⟨rfl, hb⟩; replace HB := below_tr HB hb; clear hb)
      | (go_at_call 20; refine (refbytes_any c hc' _).mono ?_; rintro e w' ⟨rfl, hb⟩; replace HB := below_tr HB hb; clear hb))
    go_ret
    exact ⟨rfl, HB⟩

theorem of_nine (w : World) : Calls Try.prog 15 #[.string ⟨#[49, 50, 51, 52, 53, 54, 55, 56, 57]⟩] w fun e w' => e = .returned (.int .u32 3808858755) ∧ Below w.heap.size w w' := by
  refine (of_any _ (by decide) w).mono ?_
  rintro e w' ⟨rfl, hb⟩
  exact ⟨ret_int (by decide +kernel), hb⟩
theorem of_empty (w : World) : Calls Try.prog 15 #[.string ⟨#[]⟩] w fun e w' => e = .returned (.int .u32 0) ∧ Below w.heap.size w w' := by
  refine (of_any _ (by decide) w).mono ?_
  rintro e w' ⟨rfl, hb⟩
  exact ⟨ret_int (by decide +kernel), hb⟩
theorem bytes_1234 (w : World) : Calls Try.prog 19 #[.int .u32 16909060] w fun e w' => e = .returned (.string ⟨#[1, 2, 3, 4]⟩) ∧ Below w.heap.size w w' := by
  refine (bytes_any 16909060 (by decide) w).mono ?_
  rintro e w' ⟨rfl, hb⟩
  exact ⟨ret_str (by decide +kernel), hb⟩

theorem works02_any (w : World) : Calls Try.prog 21 #[] w fun e w' => e = .returned (.bool true) ∧ Below w.heap.size w w' := by
  have HB := Below.refl w.heap.size w
  go_enter Try.func21, Try.ntmps21
  go_wp2_with (first
      | (go_at_call 15; (with_reducible refine (of_nine _).mono ?_); rintro e w' ⟨rfl, hb⟩; replace HB := below_tr HB hb; clear hb)
      | (go_at_call 15; (with_reducible refine (of_empty _).mono ?_); rintro e w' ⟨rfl, hb⟩; replace HB := below_tr HB hb; clear hb)
      | (go_at_call 19; (with_reducible refine (bytes_1234 _).mono ?_); rintro e w' ⟨rfl, hb⟩; replace HB := below_tr HB hb; clear hb))
  go_ret
  exact ⟨rfl, HB⟩

theorem sumParts_walk (a b : ByteArray) (ha : a.size ≤ 140737488351232) (hb0 : b.size ≤ 140737488351232) (w : World) :
    Calls Try.prog 4 #[.string a, .string b] w fun e w' => e = .returned (.bool true) ∧ Below w.heap.size w w' := by
  have HB := Below.refl w.heap.size w
  by_cases hlt : 5000 < a.size + b.size
  · have hlt' : (5000 : Int) < a.size + b.size := by omega
    go_enter Try.func4, Try.ntmps4
    go_wp2_with (first
      | (go_at_call 21; refine (works02_any _).mono ?_; rintro e w' ⟨rfl, hb⟩; replace HB := below_tr HB hb; clear hb))
    go_ret
    exact ⟨rfl, HB⟩
  · have hab : (a ++ b).size ≤ 9223372036854775807 := by rw [ByteArray.size_append]; omega
    have hf := moreN_lt 0 a.data.toList
    have hm : Hid (moreN (moreN 0 a.data.toList) b.data.toList = moreN 0 (a ++ b).data.toList) := Lib.hid (by rw [moreN_append _ _ _ (by omega)]; simp)
    go_enter Try.func4, Try.ntmps4
    go_wp2_with (first
      | (go_at_call 21; refine (works02_any _).mono ?_; rintro e w' ⟨rfl, hb⟩; replace HB := below_tr HB hb; clear hb)
      | (go_at_call 15; refine (of_any _ (by omega) _).mono ?_; rintro e w' ⟨rfl, hb⟩; replace HB := below_tr HB hb; clear hb)
      | (go_at_call 17; refine (more_any _ hf _ (by omega) _).mono ?_; rintro e w' ⟨rfl, hb⟩; replace HB := below_tr HB hb; clear hb))
    go_ret
    exact ⟨ret_bool (by simp [hm.out]), HB⟩

set_option maxHeartbeats 4000000 in
theorem sumBytes_walk (s : ByteArray) (a b : Int) (hs : s.size ≤ 140737488351232) (ha : (Lit.int .u8 a).wf = true) (hb : (Lit.int .u8 b).wf = true) (w : World) :
    Calls Try.prog 6 #[.string s, .int .u8 a, .int .u8 b] w fun e w' => e = .returned (.bool true) ∧ Below w.heap.size w w' := by
  have HB := Below.refl w.heap.size w
  obtain ⟨ha0, ha1⟩ := wf_u8 ha
  obtain ⟨hb0, hb1⟩ := wf_u8 hb
  obtain ⟨u, rfl⟩ := u8_of ha0 ha1
  obtain ⟨v, rfl⟩ := u8_of hb0 hb1
  clear ha hb ha0 ha1 hb0 hb1
  by_cases hlt : 3000 < s.size
  · go_enter Try.func6, Try.ntmps6
    go_wp2_with (first
      | (go_at_call 21; refine (works02_any _).mono ?_; rintro e w' ⟨rfl, hb⟩; replace HB := below_tr HB hb; clear hb))
    go_ret
    exact ⟨rfl, HB⟩
  · have hf1 := moreN_lt 0 (s.data.toList ++ [u])
    have kc1 := run_byte_string (P := Try.prog) 29 9 5 u (by kernel_rfl) (by kernel_rfl) (by kernel_rfl)
    have kc2 := run_byte_string (P := Try.prog) 29 9 5 v (by kernel_rfl) (by kernel_rfl) (by kernel_rfl)
    have hz1 : ¬ 9223372036854775807 < s.size + (mkS [u]).size := by rw [mkS_size]; simp; omega
    have hz2 : ¬ 9223372036854775807 < s.size + (mkS [v]).size := by rw [mkS_size]; simp; omega
    go_enter Try.func6, Try.ntmps6
    go_upto_region 5 with (first
      | (go_at_call 21; refine (works02_any _).mono ?_; rintro e w' ⟨rfl, hb⟩; replace HB := below_tr HB hb; clear hb))
    go_cut [7, 8] from 16 to 27 (fun x y wc => x = .int .u32 (moreN 0 (s.data.toList ++ [u])) ∧ y = .int .u32 (moreN 0 (s.data.toList ++ [v])) ∧ Below w.heap.size w wc)
    case first =>
      refine wp_region_det_list (by kernel_rfl) (by kernel_rfl) (SL [eqv (.string s), eqv (.int .u8 (u.toNat : Nat)), cell0 1 1 (.int .u8 (u.toNat : Nat)), eqv (.string (mkS [u])), eqv (.string (s ++ mkS [u])), eqv (.int .u32 (moreN 0 (s ++ mkS [u]).data.toList : Nat)), eqv (.string s), eqv (.int .u8 (v.toNat : Nat)), cell0 1 1 (.int .u8 (v.toNat : Nat)), eqv (.string (mkS [v])), eqv (.string (s ++ mkS [v])), eqv (.int .u32 (moreN 0 (s ++ mkS [v]).data.toList : Nat)), eqv (.int .u32 (moreN 0 (s ++ mkS [u]).data.toList : Nat)), eqv (.int .u32 (moreN 0 (s ++ mkS [v]).data.toList : Nat))]) (fun W => Below w.heap.size w W) Grow ?hJ ?hX ?hop ?hend
      case hX =>
        exact SL_mono _ ⟨mono_eqv _, mono_eqv _, mono_cell0 _ _ _, mono_eqv _, mono_eqv _, mono_eqv _, mono_eqv _, mono_eqv _, mono_cell0 _ _ _, mono_eqv _, mono_eqv _, mono_eqv _, mono_eqv _, mono_eqv _, trivial⟩
      case hJ => exact HB.drew
      case hop =>
        refine ⟨fun vals W hJ hS => ?_, fun vals W hJ hS => ?_, fun vals W hJ hS => ?_, fun vals W hJ hS => ?_, fun vals W hJ hS => ?_, fun vals W hJ hS => ?_, fun vals W hJ hS => ?_, fun vals W hJ hS => ?_, fun vals W hJ hS => ?_, fun vals W hJ hS => ?_, fun vals W hJ hS => ?_, fun vals W hJ hS => ?_, fun vals W hJ hS => ?_, fun vals W hJ hS => ?_, trivial⟩
        · clear hS
          simp only [fillTo]
          go_simp
          go_wp2
          exact ⟨rfl, SL_eq rfl rfl, hJ, Below.refl _ _⟩
        · clear hS
          simp only [fillTo]
          go_simp
          go_wp2
          exact ⟨rfl, SL_eq rfl rfl, hJ, Below.refl _ _⟩
        · have h1 := SL_val rfl (hS 1 (by kernel_rfl))
          clear hS
          simp only [fillTo]
          go_simp
          generalize vals 1 = v1 at h1 ⊢
          subst h1
          go_wp2
          exact ⟨rfl, SL_at rfl ⟨_, rfl, by simp, by simp⟩, hJ.alloc hJ.size _, (Below.refl _ _).alloc (Nat.le_refl _) _⟩
        · obtain ⟨g, hv, hg, hcell⟩ := SL_get rfl (hS 2 (by kernel_rfl))
          have hkc := kc1 W g 1 hcell
          clear hS
          simp only [fillTo]
          go_simp
          go_wp2
          exact ⟨rfl, SL_eq rfl rfl, hJ, Below.refl _ _⟩
        · have h0 := SL_val rfl (hS 0 (by kernel_rfl))
          have h3 := SL_val rfl (hS 3 (by kernel_rfl))
          clear hS
          simp only [fillTo]
          go_simp
          generalize vals 0 = v0 at h0 ⊢
          subst h0
          generalize vals 3 = v3 at h3 ⊢
          subst h3
          go_wp2
          exact ⟨rfl, SL_eq rfl rfl, hJ, Below.refl _ _⟩
        · have h4 := SL_val rfl (hS 4 (by kernel_rfl))
          clear hS
          simp only [fillTo]
          go_simp
          generalize vals 4 = v4 at h4 ⊢
          subst h4
          go_wp2_with (go_at_call 15; refine (of_any _ (by rw [ByteArray.size_append]; omega) _).mono ?_; rintro e w' ⟨rfl, hb⟩)
          exact ⟨rfl, SL_eq rfl rfl, hJ.trans (hb.mono hJ.size), hb⟩
        · clear hS
          simp only [fillTo]
          go_simp
          go_wp2
          exact ⟨rfl, SL_eq rfl rfl, hJ, Below.refl _ _⟩
        · clear hS
          simp only [fillTo]
          go_simp
          go_wp2
          exact ⟨rfl, SL_eq rfl rfl, hJ, Below.refl _ _⟩
        · have h7 := SL_val rfl (hS 7 (by kernel_rfl))
          clear hS
          simp only [fillTo]
          go_simp
          generalize vals 7 = v7 at h7 ⊢
          subst h7
          go_wp2
          exact ⟨rfl, SL_at rfl ⟨_, rfl, by simp, by simp⟩, hJ.alloc hJ.size _, (Below.refl _ _).alloc (Nat.le_refl _) _⟩
        · obtain ⟨g, hv, hg, hcell⟩ := SL_get rfl (hS 8 (by kernel_rfl))
          have hkc := kc2 W g 1 hcell
          clear hS
          simp only [fillTo]
          go_simp
          go_wp2
          exact ⟨rfl, SL_eq rfl rfl, hJ, Below.refl _ _⟩
        · have h6 := SL_val rfl (hS 6 (by kernel_rfl))
          have h9 := SL_val rfl (hS 9 (by kernel_rfl))
          clear hS
          simp only [fillTo]
          go_simp
          generalize vals 6 = v6 at h6 ⊢
          subst h6
          generalize vals 9 = v9 at h9 ⊢
          subst h9
          go_wp2
          exact ⟨rfl, SL_eq rfl rfl, hJ, Below.refl _ _⟩
        · have h10 := SL_val rfl (hS 10 (by kernel_rfl))
          clear hS
          simp only [fillTo]
          go_simp
          generalize vals 10 = v10 at h10 ⊢
          subst h10
          go_wp2_with (go_at_call 15; refine (of_any _ (by rw [ByteArray.size_append]; omega) _).mono ?_; rintro e w' ⟨rfl, hb⟩)
          exact ⟨rfl, SL_eq rfl rfl, hJ.trans (hb.mono hJ.size), hb⟩
        · have h5 := SL_val rfl (hS 5 (by kernel_rfl))
          clear hS
          simp only [fillTo]
          go_simp
          generalize vals 5 = v5 at h5 ⊢
          subst h5
          go_wp2
          exact ⟨rfl, SL_eq rfl rfl, hJ, Below.refl _ _⟩
        · have h11 := SL_val rfl (hS 11 (by kernel_rfl))
          clear hS
          simp only [fillTo]
          go_simp
          generalize vals 11 = v11 at h11 ⊢
          subst h11
          go_wp2
          exact ⟨rfl, SL_eq rfl rfl, hJ, Below.refl _ _⟩
      case hend =>
        intro vals W hJ hS
        have h12 := SL_val rfl (hS 12 (by decide))
        have h13 := SL_val rfl (hS 13 (by decide))
        clear hS
        simp only [List.size_toArray, List.length_cons, List.length_nil, Nat.reduceAdd, fillTo]
        go_simp
        generalize vals 12 = v12 at h12 ⊢
        subst h12
        generalize vals 13 = v13 at h13 ⊢
        subst h13
        go_wp2
        go_meet
        case rel => exact ⟨by simp [mkS], by simp [mkS], hJ⟩
    case rest =>
      obtain ⟨rfl, rfl, HB⟩ := hcut
      have hsz : (mkS (sumB (moreN 0 (s.data.toList ++ [u])))).size = 4 := rfl
      go_upto_region 9 with (go_at_call 19; refine (bytes_any _ hf1 _).mono ?_; rintro e w' ⟨rfl, hb⟩; replace HB := below_tr HB hb; clear hb)
      have hk := sumB_back _ hf1
      go_quiet (fail)
      go_wp2
      go_ret
      exact ⟨ret_bool (beq_cast_iff (moreN_last 0 s.data.toList u v)), below_drewN HB _⟩
end Go.Proofs.Ytoihalkbampdnaa
