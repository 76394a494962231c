/- Whether labels are asked for: both. -/
import Derived.Test.YtlddedddcdhjnaaDoorMd
import Derived.Test.YtlddedddcdhjnaaDoorDet
namespace Go.Proofs.YtlddedddcdhjnaaDoor
open Go.RowKit Lb Dig

theorem mono_isAsk (m : Mt) : Mono (IsAsk m) := fun _ _ _ h hg => h.below hg
namespace Lb
theorem all_drop {l : List Mt} {j : Nat} {m : Mt} {P : Mt → Bool} (h : l[j]? = some m) : (l.drop j).all P = (P m && (l.drop (j + 1)).all P) := by
  have h1 : j < l.length := by
    rcases Nat.lt_or_ge j l.length with h1 | h1
    · exact h1
    · rw [List.getElem?_eq_none h1] at h; cases h
  rw [List.getElem?_eq_getElem h1] at h
  rw [List.drop_eq_getElem_cons h1, Option.some.inj h]
  rfl
end Lb

set_option maxRecDepth 100000 in
set_option maxHeartbeats 4000000 in
theorem mis_any (l : List Mt) (a : Option Addr) (n c : Nat) (L : List Pr) (a' : Option Addr) (n' c' : Nat) (hn : l.length = n) (hb : n ≤ 4611686018427387904) (hn' : L.length = n') (hb' : n' ≤ 4611686018427387904) (w : World) (hr : RowM w a l) (hr' : RowQ w a' L) :
    Calls Tryd.prog 37 #[.slice a n c, .slice a' n' c'] w fun e w' => e = .returned (.bool (isM l L)) ∧ Below w.heap.size w w' := by
  obtain ⟨E, hE⟩ : ∃ E, Hid (isM l L = E) := ⟨_, Lib.hid rfl⟩
  rw [hE.out]
  have CK := fun W h => mcheck_any l a n c hn hb W h
  obtain ⟨C, hC⟩ : ∃ C, Hid (chkM l = C) := ⟨_, Lib.hid rfl⟩
  rw [hC.out] at CK
  go_enter Tryd.func37, Tryd.ntmps37
  by_cases hC0 : C = 0
  · have hCi : (C : Int) = 0 := by omega
    have hE2 : Hid (E = l.all fun m => holdsM m (getL L m.2.1)) := Lib.hid (by rw [← hE.out]; unfold isM; rw [hC.out, hC0]; rfl)
    go_upto_region 4 with (go_at_call 35; refine (CK _ hr).mono ?_; rintro y w2 ⟨rfl, hb2⟩; clear CK)
    go_loopw [12] (fun v12 wr => ∃ (j : Nat), j ≤ n ∧ v12 = .int .i64 j ∧ Hid (E = (l.drop j).all fun m => holdsM m (getL L m.2.1)) ∧ Below w.heap.size w wr) (fun v12 _ => n - (intOf v12).toNat)
    case atStart => exact ⟨0, by omega, rfl, hE2, hb2⟩
    case round =>
      clear hb2
      obtain ⟨j, hj, rfl, hok, hbw⟩ := hrel
      by_cases hlt : j < n
      · have hji : (j : Int) < (n : Int) := by omega
        obtain ⟨⟨k, nm, v⟩, hp⟩ : ∃ p, l[j]? = some p := ⟨_, List.getElem?_eq_getElem (by omega)⟩
        obtain ⟨x, rfl⟩ := RowG.some_ hr hp
        obtain ⟨c0, c1, c2, hw, hs1, hs2⟩ := RowM.at3 (RowM.below hr hbw) hp
        have hstep := Lib.hid (all_drop (P := fun m => holdsM m (getL L m.2.1)) hp)
        have LG := fun W h => lget_any L a' n' c' nm hn' hb' W h
        obtain ⟨G, hG⟩ : ∃ G, Hid (getL L nm = G) := ⟨_, Lib.hid rfl⟩
        rw [hG.out] at LG
        obtain ⟨H, hH⟩ : ∃ H, Hid (holdsM (k, nm, v) G = H) := ⟨_, Lib.hid rfl⟩
        have hres : Hid (E = (H && (l.drop (j + 1)).all fun m => holdsM m (getL L m.2.1))) := Lib.hid (by rw [hok.out, hstep.out]; simp only; rw [hG.out, hH.out])
        have hq := MtBox.new wr k nm v
        have hqr := hr'.below hbw
        clear hp hs1 hs2 hw hok hstep
        go_upto_region 6 with (fail)
        have hq1 := hqr.below hq.bel
        generalize wr.alloc (.cells #[.int .i64 k, .string nm, .string v] 51) = W1 at hq hq1 ⊢
        generalize hpp : wr.heap.size = p at hq ⊢
        have k0 := (hq.row 0 _ rfl).1
        have k1 := (hq.row 1 _ rfl).1
        have k2 := (hq.row 2 _ rfl).1
        have hbel := below_tr hbw hq.bel
        have HB0 := Below.refl W1.heap.size W1
        clear hq hqr c0 c1 c2
        refine wp_region_det_list (by kernel_rfl) (by kernel_rfl) (SL [eqv (.agg #[.int .i64 k, .string nm, .string v]), IsAsk (k, nm, v), eqv (.slice a' n' c'), eqv (.pointer (some ⟨p, 1, none⟩)), eqv (.string nm), eqv (.string G), eqv (.bool H), eqv (.bool (!H))]) (fun W => Below W1.heap.size W1 W) Grow ?hJ ?hX ?hop ?hend
        case hJ => exact HB0.drew
        case hX => exact SL_mono _ ⟨mono_eqv _, mono_isAsk _, mono_eqv _, mono_eqv _, mono_eqv _, mono_eqv _, mono_eqv _, mono_eqv _, trivial⟩
        case hop =>
          refine OpsGoal.more 0 1 rfl (fun vals W hJ hS => ?_) ?_
          · have hkc0 := (Chg.of_below (fun _ => False) hJ).cell k0 (fun x => x)
            have hkc1 := (Chg.of_below (fun _ => False) hJ).cell k1 (fun x => x)
            have hkc2 := (Chg.of_below (fun _ => False) hJ).cell k2 (fun x => x)
            clear hS
            simp only [fillTo]
            go_wp2
            exact ⟨rfl, SL_eq rfl rfl, hJ, Below.refl _ _⟩
          refine OpsGoal.more 1 2 rfl (fun vals W hJ hS => ?_) ?_
          · have h0 := SL_val rfl (hS 0 (by kernel_rfl))
            clear hS
            simp only [fillTo]
            go_simp
            generalize vals 0 = v0 at h0 ⊢
            subst h0
            go_wp2_with (go_at_call 58; refine (asks_any k nm v _).mono ?_; rintro e w' ⟨u, rfl, hu, hb⟩)
            exact ⟨rfl, SL_at (p := IsAsk (k, nm, v)) rfl hu, hJ.trans (hb.mono hJ.size), hb⟩
          refine OpsGoal.more 2 3 rfl (fun vals W hJ hS => ?_) ?_
          · clear hS
            simp only [fillTo]
            go_simp
            go_wp2
            exact ⟨rfl, SL_eq rfl rfl, hJ, Below.refl _ _⟩
          refine OpsGoal.more 3 4 rfl (fun vals W hJ hS => ?_) ?_
          · clear hS
            simp only [fillTo]
            go_simp
            go_wp2
            exact ⟨rfl, SL_eq rfl rfl, hJ, Below.refl _ _⟩
          refine OpsGoal.more 4 5 rfl (fun vals W hJ hS => ?_) ?_
          · have h3 := SL_val rfl (hS 3 (by kernel_rfl))
            have hkc0 := (Chg.of_below (fun _ => False) hJ).cell k1 (fun x => x)
            clear hS
            simp only [fillTo]
            go_simp
            generalize vals 3 = v3 at h3 ⊢
            subst h3
            go_wp2
            exact ⟨rfl, SL_eq rfl rfl, hJ, Below.refl _ _⟩
          refine OpsGoal.more 5 6 rfl (fun vals W hJ hS => ?_) ?_
          · have h2 := SL_val rfl (hS 2 (by kernel_rfl))
            have h4 := SL_val rfl (hS 4 (by kernel_rfl))
            clear hS
            simp only [fillTo]
            go_simp
            generalize vals 2 = v2 at h2 ⊢
            subst h2
            generalize vals 4 = v4 at h4 ⊢
            subst h4
            go_wp2_with (go_at_call 24; refine (LG _ (hq1.below hJ)).mono ?_; rintro e w' ⟨rfl, hb⟩)
            exact ⟨rfl, SL_eq rfl rfl, hJ.trans (hb.mono hJ.size), hb⟩
          refine OpsGoal.more 6 7 rfl (fun vals W hJ hS => ?_) ?_
          · have h5 := SL_val rfl (hS 5 (by kernel_rfl))
            have hA := SL_get rfl (hS 1 (by kernel_rfl))
            clear hS
            simp only [fillTo]
            go_simp
            generalize vals 5 = v5 at h5 ⊢
            subst h5
            generalize vals 1 = u at hA ⊢
            have hA2 : IsAsk (k, nm, v) u W := hA
            rw [← hH.out]
            rcases hA2 with ⟨p1, e1, rfl, e3⟩ | ⟨p1, e1, rfl, e3⟩ | ⟨p1, e1, rfl, e3⟩ | ⟨e1, rfl⟩
            · have H1 := Lib.hid e1
              clear e1 hA
              go_wp2_with (go_at_call 66; refine (ask1_any _ _ _ H1.out _ e3).mono ?_; rintro e w' ⟨rfl, rfl⟩)
              exact ⟨rfl, SL_eq rfl rfl, hJ, Below.refl _ _⟩
            · have H1 := Lib.hid e1
              clear e1 hA
              go_wp2_with (go_at_call 67; refine (ask2_any _ _ _ H1.out _ e3).mono ?_; rintro e w' ⟨rfl, rfl⟩)
              exact ⟨rfl, SL_eq rfl rfl, hJ, Below.refl _ _⟩
            · have H1 := Lib.hid e1
              clear e1 hA
              go_wp2_with (go_at_call 68; refine (ask3_any _ _ _ H1.out _ e3).mono ?_; rintro e w' ⟨rfl, rfl⟩)
              exact ⟨rfl, SL_eq rfl rfl, hJ, Below.refl _ _⟩
            · have H1 := Lib.hid e1
              clear e1 hA
              go_wp2_with (go_at_call 70; refine (ask4_any _ _ H1.out _).mono ?_; rintro e w' ⟨rfl, rfl⟩)
              exact ⟨rfl, SL_eq rfl rfl, hJ, Below.refl _ _⟩
          refine OpsGoal.more 7 8 rfl (fun vals W hJ hS => ?_) ?_
          · have h6 := SL_val rfl (hS 6 (by kernel_rfl))
            clear hS
            simp only [fillTo]
            go_simp
            generalize vals 6 = v6 at h6 ⊢
            subst h6
            go_wp2
            exact ⟨rfl, SL_eq rfl rfl, hJ, Below.refl _ _⟩
          exact trivial
        case hend =>
          intro vals W hJ hS
          have h7 := SL_val rfl (hS 7 (by decide))
          clear hS
          simp only [List.size_toArray, List.length_cons, List.length_nil, Nat.reduceAdd, fillTo]
          go_simp
          generalize vals 7 = v7 at h7 ⊢
          subst h7
          cases H
          · have hE3 : E = false := by rw [hres.out]; rfl
            subst hE3
            go_wp2
            go_ret
            exact ⟨rfl, below_tr hbel hJ⟩
          · have hnext : Hid (E = (l.drop (j + 1)).all fun m => holdsM m (getL L m.2.1)) := Lib.hid (by rw [hres.out]; rfl)
            go_wp2
            go_roundw
            case rel => exact ⟨j + 1, by omega, by go_num, hnext, below_tr hbel hJ⟩
            case measure => simp [intOf]; omega
      · obtain rfl : j = n := by omega
        have hji : ¬ (j : Int) < (j : Int) := by omega
        have hE3 : E = true := by rw [hok.out, show l.drop j = [] from List.drop_eq_nil_iff.mpr (by omega)]; rfl
        subst hE3
        go_wp2
        go_ret
        exact ⟨rfl, hbw⟩
  · have hCi : ¬ (C : Int) = 0 := by omega
    have hE2 : E = false := by rw [← hE.out]; unfold isM; rw [hC.out, decide_eq_false hC0]; rfl
    subst hE2
    go_wp2_with (go_at_call 35; refine (CK _ hr).mono ?_; rintro y w2 ⟨rfl, hb2⟩; clear CK)
    go_ret
    exact ⟨rfl, hb2⟩

set_option maxRecDepth 100000 in
set_option maxHeartbeats 4000000 in
theorem rmis_any (l : List Mt) (a : Option Addr) (n c : Nat) (L : List Pr) (a' : Option Addr) (n' c' : Nat) (hn : l.length = n) (hb : n ≤ 4611686018427387904) (hn' : L.length = n') (hb' : n' ≤ 4611686018427387904) (w : World) (hr : RowM w a l) (hr' : RowQ w a' L) :
    Calls Tryd.prog 38 #[.slice a n c, .slice a' n' c'] w fun e w' => e = .returned (.bool (isM l L)) ∧ Below w.heap.size w w' := by
  obtain ⟨E, hE⟩ : ∃ E, Hid (isM l L = E) := ⟨_, Lib.hid rfl⟩
  rw [hE.out]
  have CK := fun W h => rmcheck_any l a n c hn hb W h
  obtain ⟨C, hC⟩ : ∃ C, Hid (chkM l = C) := ⟨_, Lib.hid rfl⟩
  rw [hC.out] at CK
  obtain ⟨O, hO⟩ : ∃ O, (((C : Nat) : Int) == 0) = O := ⟨_, rfl⟩
  have hE2 : Hid (E = (O && (l.drop 0).all fun m => holdsM m (getL L m.2.1))) := Lib.hid (by
    rw [← hE.out, ← hO]; unfold isM; rw [hC.out, List.drop_zero]
    congr 1
    rw [Bool.eq_iff_iff]; simp)
  go_enter Tryd.func38, Tryd.ntmps38
  go_upto_region 3 with (go_at_call 36; refine (CK _ hr).mono ?_; rintro y w2 ⟨rfl, hb2⟩; clear CK)
  go_loopw [5, 6] (fun v5 v6 wr => ∃ (j : Nat) (B : Bool), j ≤ n ∧ v6 = .int .i64 j ∧ v5 = .bool B ∧ Hid (E = (B && (l.drop j).all fun m => holdsM m (getL L m.2.1))) ∧ Below w.heap.size w wr) (fun _ v6 _ => n - (intOf v6).toNat)
  case atStart => exact ⟨0, O, by omega, rfl, rfl, hE2, hb2⟩
  case round =>
    clear hb2 hO hE2
    obtain ⟨j, B, hj, rfl, rfl, hok, hbw⟩ := hrel
    by_cases hlt : j < n
    · have hji : (j : Int) < (n : Int) := by omega
      obtain ⟨⟨k, nm, v⟩, hp⟩ : ∃ p, l[j]? = some p := ⟨_, List.getElem?_eq_getElem (by omega)⟩
      obtain ⟨x, rfl⟩ := RowG.some_ hr hp
      obtain ⟨c0, c1, c2, hw, hs1, hs2⟩ := RowM.at3 (RowM.below hr hbw) hp
      have hstep := Lib.hid (all_drop (P := fun m => holdsM m (getL L m.2.1)) hp)
      have RH := fun W h => rholds_any k nm v L a' n' c' hn' hb' W h
      obtain ⟨H, hH⟩ : ∃ H, Hid (holdsM (k, nm, v) (getL L nm) = H) := ⟨_, Lib.hid rfl⟩
      rw [hH.out] at RH
      have hqr := hr'.below hbw
      cases B
      · have hE3 : E = false := by rw [hok.out]; rfl
        subst hE3
        clear hp hs1 hs2 hw
        go_wp2
        go_ret
        exact ⟨rfl, hbw⟩
      · have hres : Hid (E = (H && (l.drop (j + 1)).all fun m => holdsM m (getL L m.2.1))) := Lib.hid (by rw [hok.out, hstep.out]; simp only; rw [hH.out]; rfl)
        clear hp hs1 hs2 hw hok hstep
        go_wp2_with (go_at_call 59; refine (RH _ hqr).mono ?_; rintro y w3 ⟨rfl, hb3⟩; clear RH)
        go_roundw
        case rel => exact ⟨j + 1, H, by omega, by go_num, rfl, hres, below_tr hbw hb3⟩
        case measure => simp [intOf]; omega
    · obtain rfl : j = n := by omega
      have hji : ¬ (j : Int) < (j : Int) := by omega
      have hE3 : E = B := by rw [hok.out, show l.drop j = [] from List.drop_eq_nil_iff.mpr (by omega)]; simp
      subst hE3
      go_wp2
      go_ret
      exact ⟨rfl, hbw⟩
end Go.Proofs.YtlddedddcdhjnaaDoor
