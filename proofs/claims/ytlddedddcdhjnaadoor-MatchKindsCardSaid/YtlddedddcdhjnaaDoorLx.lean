/- The law of checks of labels. -/
import Derived.Test.YtlddedddcdhjnaaDoorLw
import Derived.Test.YtlddedddcdhjnaaDoorLReadsW
namespace Go.Proofs.YtlddedddcdhjnaaDoor
open Go.RowKit Lb Dig

set_option maxRecDepth 100000 in
set_option maxHeartbeats 4000000 in
theorem rlget_any (l : List Pr) (a : Option Addr) (n c : Nat) (nm : ByteArray) (hn : l.length = n) (hb : n ≤ 4611686018427387904) (w : World) (hr : RowQ w a l) :
    Calls Tryd.prog 25 #[.slice a n c, .string nm] w fun e w' => e = .returned (.string (getL l nm)) ∧ w' = w := by
  obtain ⟨E, hE⟩ : ∃ E, Hid (getL l nm = E) := ⟨_, Lib.hid rfl⟩
  rw [hE.out]
  go_enter Tryd.func25, Tryd.ntmps25
  go_upto_region 2 with (fail)
  go_loop [5] (fun v5 => ∃ (j : Nat), j ≤ n ∧ v5 = .int .i64 j ∧ Hid (E = getL (l.drop j) nm)) (fun v5 => n - (intOf v5).toNat)
  case atStart => exact ⟨0, by omega, rfl, Lib.hid hE.out.symm⟩
  case round =>
    obtain ⟨j, hj, rfl, hok⟩ := hrel
    by_cases hlt : j < n
    · have hji : (j : Int) < (n : Int) := by omega
      obtain ⟨⟨pn, pv⟩, hp⟩ : ∃ p, l[j]? = some p := ⟨_, List.getElem?_eq_getElem (by omega)⟩
      rcases hr.row with h0 | ⟨x, rfl, hc⟩
      · rw [h0] at hp; simp at hp
      obtain ⟨c0, c1⟩ := hc j _ hp
      simp only at c0 c1
      have hstep := Lib.hid (get_drop (nm := nm) hp)
      clear hc hp
      by_cases hN : pn = nm
      · have eN : (pn.toList == nm.toList) = true := by rw [bs_eq, decide_eq_true hN]
        have hE2 : E = pv := by rw [hok.out, hstep.out, if_pos hN]
        subst hE2
        clear hN
        go_wp2
        go_ret
        exact ⟨rfl, rfl⟩
      · have eN : (pn.toList == nm.toList) = false := by rw [bs_eq, decide_eq_false hN]
        have hnext : Hid (E = getL (l.drop (j + 1)) nm) := Lib.hid (by rw [hok.out, hstep.out, if_neg hN])
        clear hN
        go_wp2
        go_round
        case rel => exact ⟨j + 1, by omega, by go_num, hnext⟩
        case measure => simp [intOf]; omega
    · obtain rfl : j = n := by omega
      have hji : ¬ (j : Int) < (j : Int) := by omega
      have hE2 : E = { data := #[] } := by
        rw [hok.out, show l.drop j = [] from List.drop_eq_nil_iff.mpr (by omega)]; rfl
      subst hE2
      go_wp2
      go_ret
      exact ⟨rfl, rfl⟩

theorem RowG.belowSS {w w' : World} {a : Option Addr} {l : List Pr} (h : RowG isSS 2 w a l) (hb : Below w.heap.size w w') : RowG isSS 2 w' a l :=
  h.keep (Chg.of_below (fun _ => False) hb) (fun _ _ x => x) (fun _ _ x => x)

set_option maxRecDepth 100000 in
set_option maxHeartbeats 4000000 in
theorem labelChecks_walk (a : Option Addr) (n c : Nat) (l : List Pr) (b : Option Addr) (n' c' : Nat) (l' : List Pr) (nm : ByteArray) (hn : l.length = n) (hs : n * 32 ≤ 140737488351232) (hn' : l'.length = n') (hs' : n' * 32 ≤ 140737488351232) (_hm : nm.size ≤ 140737488351232)
    (w : World) (hg : RowG isSS 2 w a l) (hc : (a = none → c = 0) ∧ n ≤ c) (hg' : RowG isSS 2 w b l') (hc' : (b = none → c' = 0) ∧ n' ≤ c') :
    Calls Tryd.prog 4 #[.slice a n c, .slice b n' c', .string nm] w fun e w' => e = .returned (.bool true) ∧ Below w.heap.size w w' := by
  obtain ⟨hq, hsz⟩ := RowQ.of_rowG hg
  obtain ⟨hq', hsz'⟩ := RowQ.of_rowG hg'
  have hsz2 : ∀ p ∈ l, p.1.size ≤ 4611686018427387904 ∧ p.2.size ≤ 4611686018427387904 := fun p hp => by have := hsz p hp; omega
  have O1 := fun W h => lown_any l a n c hn hs hc W h
  have O2 := fun W h => lown_any l' b n' c' hn' hs' hc' W h
  have EN := fun (x : Option Addr) k W h => lencode_any l x n k hn (by omega) hsz2 W h
  have REN := fun W h => rlencode_any l a n c hn (by omega) hsz2 W h
  obtain ⟨F, hF⟩ : ∃ F, Hid (encL l = F) := ⟨_, Lib.hid rfl⟩
  rw [hF.out] at EN REN
  have CK := fun (x : Option Addr) k W h => lcheck_any l x n k hn (by omega) hsz2 W h
  have RCK := fun W h => rlcheck_any l a n c hn (by omega) hsz2 W h
  obtain ⟨C, hC⟩ : ∃ C, Hid (chkL l = C) := ⟨_, Lib.hid rfl⟩
  rw [hC.out] at CK RCK
  have CM := fun (x y : Option Addr) k k' W h h' => lcompare_any l l' x y n k n' k' hn hn' (by omega) (by omega) W h h'
  have RCM := fun W h h' => rlcompare_any l l' a b n c n' c' hn hn' (by omega) (by omega) W h h'
  obtain ⟨M, hM⟩ : ∃ M, Hid (cmpL l l' = M) := ⟨_, Lib.hid rfl⟩
  rw [hM.out] at CM RCM
  have GT := fun (x : Option Addr) k W h => lget_any l x n k nm hn (by omega) W h
  have RGT := fun W h => rlget_any l a n c nm hn (by omega) W h
  obtain ⟨G, hG⟩ : ∃ G, Hid (getL l nm = G) := ⟨_, Lib.hid rfl⟩
  rw [hG.out] at GT RGT
  have SM := fun (x : Option Addr) k W h h' => rlsame_any l l x a n k n c hn hn (by omega) (by omega) W h h'
  rw [cmpL_self] at SM
  clear hg hg' hsz hsz' hsz2
  go_enter Tryd.func4, Tryd.ntmps4
  go_upto_region 2 with (go_at_call 17; refine (O1 _ hq).mono ?_; rintro y w1 ⟨v1, rfl, ⟨a1, n1, c1, rfl, hn1, hq1, _, _, _⟩, hb1⟩; clear O1)
  obtain rfl : n1 = n := by omega
  clear hn1
  have hqa := hq.below hb1
  have hqb := hq'.below hb1
  go_upto_region 4 with (first
    | (go_at_call 18; refine (EN _ _ _ hq1).mono ?_; rintro y w2 ⟨rfl, hb2⟩; have hq1 := hq1.below hb2; have hqa := hqa.below hb2; have hqb := hqb.below hb2; have hb12 := below_tr hb1 hb2; clear EN)
    | (go_at_call 19; refine (REN _ hqa).mono ?_; rintro y w3 ⟨rfl, hb3⟩; have hq1 := hq1.below hb3; have hqa := hqa.below hb3; have hqb := hqb.below hb3; have hb13 := below_tr hb12 hb3; clear REN))
  go_wp2_with (first
    | (go_at_call 20; refine (CK _ _ _ hq1).mono ?_; rintro y w4 ⟨rfl, hb4⟩; have hq1 := hq1.below hb4; have hqa := hqa.below hb4; have hqb := hqb.below hb4; have hb14 := below_tr hb13 hb4; clear CK)
    | (go_at_call 21; refine (RCK _ hqa).mono ?_; rintro y w5 ⟨rfl, hb5⟩; have hq1 := hq1.below hb5; have hqa := hqa.below hb5; have hqb := hqb.below hb5; have hb15 := below_tr hb14 hb5; clear RCK)
    | (go_at_call 17; refine (O2 _ hqb).mono ?_; rintro y w6 ⟨v2, rfl, ⟨a2, n2, c2, rfl, hn2, hq2, _, _, _⟩, hb6⟩; obtain rfl : n2 = n' := (by omega); have hq1 := hq1.below hb6; have hqa := hqa.below hb6; have hqb := hqb.below hb6; have hb16 := below_tr hb15 hb6; clear O2)
    | (go_at_call 22; refine (CM _ _ _ _ _ hq1 hq2).mono ?_; rintro y w7 ⟨rfl, hb7⟩; have hq1 := hq1.below hb7; have hqa := hqa.below hb7; have hqb := hqb.below hb7; have hb17 := below_tr hb16 hb7; clear CM)
    | (go_at_call 23; refine (RCM _ hqa hqb).mono ?_; rintro y w8 ⟨rfl, hb8⟩; have hq1 := hq1.below hb8; have hqa := hqa.below hb8; have hb18 := below_tr hb17 hb8; clear RCM)
    | (go_at_call 24; refine (GT _ _ _ hq1).mono ?_; rintro y w9 ⟨rfl, hb9⟩; have hq1 := hq1.below hb9; have hqa := hqa.below hb9; have hb19 := below_tr hb18 hb9; clear GT)
    | (go_at_call 25; refine (RGT _ hqa).mono ?_; rintro y w10 ⟨rfl, rfl⟩; clear RGT)
    | (go_at_call 16; refine (SM _ _ _ hq1 hqa).mono ?_; rintro y w11 ⟨rfl, hb11⟩; have hb21 := below_tr hb19 hb11; clear SM))
  go_ret
  exact ⟨rfl, hb21⟩
end Go.Proofs.YtlddedddcdhjnaaDoor
