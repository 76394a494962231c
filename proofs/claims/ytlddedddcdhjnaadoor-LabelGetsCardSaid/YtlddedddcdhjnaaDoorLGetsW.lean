/- The law of labels' values. -/
import Derived.Test.YtlddedddcdhjnaaDoorLGetsP
import Derived.Test.YtlddedddcdhjnaaDoorLNamesW
namespace Go.Proofs.YtlddedddcdhjnaaDoor
open Go.RowKit Lb Dig

theorem nD {D : Nat → Bool} {H : Nat → Nat → Bool} (hc : ∀ j k, D j = true → H j k = true → D k = true) (j k : Nat) (h : H j k = true) (hk : D k = false) : D j = false := by
  cases e : D j with
  | false => rfl
  | true => rw [hc j k e h] at hk; cases hk
theorem ownG {v v' : Value} {B : Nat} {W : World} (hbk : v'.ownBlock = v.ownBlock ∨ v'.ownBlock = some W.heap.size) (hg3 : ∀ g, v.ownBlock = some g → B ≤ g) (hs : B ≤ W.heap.size) : ∀ g, v'.ownBlock = some g → B ≤ g := by
  intro g hg
  rcases hbk with e | e
  · exact hg3 g (by rw [← e]; exact hg)
  · rw [e] at hg; have := Option.some.inj hg; omega
theorem encP_app (a b : List Pr) : encP (a ++ b) = encP a ++ encP b := by simp [encP]
set_option maxRecDepth 100000 in
set_option maxHeartbeats 40000000 in
theorem labelGets_walk (a : Option Addr) (n c : Nat) (l : List Pr) (nm v : ByteArray) (hn : l.length = n) (hs : n * 32 ≤ 140737488351232) (hnm : nm.size ≤ 140737488351232) (hv : v.size ≤ 140737488351232)
    (w : World) (hg : RowG isSS 2 w a l) (hc : (a = none → c = 0) ∧ n ≤ c) :
    Calls Tryd.prog 7 #[.slice a n c, .string nm, .string v] w fun e w' => e = .returned (.bool true) ∧ Below w.heap.size w w' := by
  obtain ⟨i0, hi0, hz0, hz1, hz2⟩ := pinfo_of prinfo
  obtain ⟨hq, hsz⟩ := RowQ.of_rowG hg
  have hsz2 : ∀ p ∈ l, p.1.size ≤ 4611686018427387904 ∧ p.2.size ≤ 4611686018427387904 := fun p hp => by have := hsz p hp; omega
  have O1 := fun W h => lown_any l a n c hn hs hc W h
  have W1 := fun W => lworks_any W
  have CK := fun (x : Option Addr) k W h => lcheck_any l x n k hn (by omega) hsz2 W h
  obtain ⟨C, hC⟩ : ∃ C, Hid (chkL l = C) := ⟨_, Lib.hid rfl⟩
  rw [hC.out] at CK
  have RN := fun W => rname_any nm (by omega) W
  have RV := fun W => rvalue_any v (by omega) W
  obtain ⟨N, hN⟩ : ∃ N, Hid (nameB nm.data.toList = N) := ⟨_, Lib.hid rfl⟩
  obtain ⟨V, hV⟩ : ∃ N, Hid (valueB v.data.toList = N) := ⟨_, Lib.hid rfl⟩
  rw [hN.out] at RN
  rw [hV.out] at RV
  clear hg
  have Hsz := Lib.hid hsz2
  clear hsz hsz2
  go_enter Tryd.func7, Tryd.ntmps7
  go_upto_region 3 with (go_at_call 26; refine (W1 _).mono ?_; rintro y w1 ⟨rfl, hb1⟩; clear W1)
  have q1 := hq.below hb1
  by_cases hall : C = 0 ∧ N = true ∧ V = true
  · obtain ⟨hC0, rfl, rfl⟩ := hall
    have hCi : (C : Int) = 0 := by omega
    have hck : chkL l = 0 := by rw [hC.out]; exact hC0
    obtain ⟨k1, k8, _⟩ := chkL_ok hck
    go_upto_region 7 with (first
      | (go_at_call 17; refine (O1 _ q1).mono ?_; rintro y w2 ⟨v1, rfl, ⟨a1, n1, c1, rfl, hn1, hq1, _, _, _⟩, hb2⟩; obtain rfl : n = n1 := (by omega); clear O1)
      | (go_at_call 20; refine (CK _ _ _ hq1).mono ?_; rintro y w3 ⟨rfl, hb3⟩; clear CK)
      | (go_at_call 27; refine (RN _).mono ?_; rintro y w4 ⟨rfl, rfl⟩; clear RN)
      | (go_at_call 28; refine (RV _).mono ?_; rintro y w5 ⟨rfl, rfl⟩; clear RV))
    have hbel3 := below_tr (below_tr hb1 hb2) hb3
    clear q1 hq1 hb1 hb2 hb3
    have hrb : RowQ w5 a l := hq.below hbel3
    have hok : okL [] l = true := by
      unfold chkL at hck
      split at hck
      · rename_i h4; exact h4.2.2
      · omega
    have Hok := Lib.hid hok
    clear hok hck
    go_loopw [7, 8] (fun v7 v8 wt => ∃ (j : Nat), j ≤ n ∧ v8 = .int .i64 j ∧ v7 = .bool ((l.take j).any fun p => decide (p.1 = nm)) ∧ Below w.heap.size w wt) (fun _ v8 _ => n - (intOf v8).toNat)
    case atStart => exact ⟨0, by omega, rfl, rfl, hbel3⟩
    case round =>
      clear hbel3 hrb
      obtain ⟨j, hj, rfl, rfl, hbel⟩ := hrel
      have hrw : RowQ wr a l := hq.below hbel
      by_cases hlt : j < n
      · have hji : (j : Int) < (n : Int) := by omega
        obtain ⟨⟨pn, pv⟩, hp⟩ : ∃ p, l[j]? = some p := ⟨_, List.getElem?_eq_getElem (by omega)⟩
        rcases hrw.row with h0 | ⟨x, rfl, hcl⟩
        · rw [h0] at hp; simp at hp
        obtain ⟨c0, c1⟩ := hcl j _ hp
        simp only at c0 c1
        have GT := fun W h => lget_any l (some x) n c pn hn (by omega) W h
        rw [get_own Hok.out j _ hp] at GT
        simp only at GT
        have hnext : Hid (((l.take (j + 1)).any fun p => decide (p.1 = nm)) = (((l.take j).any fun p => decide (p.1 = nm)) || decide (pn = nm))) := Lib.hid (by
          rw [List.take_add_one, hp, List.any_append]; simp)
        obtain ⟨B, hB⟩ : ∃ B, ((l.take j).any fun p => decide (p.1 = nm)) = B := ⟨_, rfl⟩
        rw [hB] at hnext ⊢
        have eN : (pn.toList == nm.toList) = decide (pn = nm) := bs_eq
        obtain ⟨EN, hEN⟩ : ∃ b, decide (pn = nm) = b := ⟨_, rfl⟩
        rw [hEN] at eN hnext
        have d0 : ∀ W, Below wr.heap.size wr W → W.cell? (x.add (j * 2)) = some (.string pn) := fun W h => (Chg.of_below (fun _ => False) h).cell c0 (fun x => x)
        clear hcl hp hB hEN
        go_upto_region 9 with (fail)
        have HB0 := Below.refl wr.heap.size wr
        refine wp_region_det_list (by kernel_rfl) (by kernel_rfl) (SL [eqv (.slice (some x) n c), eqv (.slice (some x) n c), eqv (.int .i64 j), eqv (.pointer (some (x.add (j * 2)))), eqv (.pointer (some (x.add (j * 2)))), eqv (.string pn), eqv (.string pv), eqv (.slice (some x) n c), eqv (.int .i64 j), eqv (.pointer (some (x.add (j * 2)))), eqv (.pointer (some ⟨(x.add (j * 2)).block, (x.add (j * 2)).off + 1, none⟩)), eqv (.string pv), eqv (.bool false)]) (fun W => Below wr.heap.size wr W) Grow ?hJ ?hX ?hop ?hend
        case hJ => exact HB0.drew
        case hX => exact SL_mono _ ⟨mono_eqv _, mono_eqv _, mono_eqv _, mono_eqv _, mono_eqv _, mono_eqv _, mono_eqv _, mono_eqv _, mono_eqv _, mono_eqv _, mono_eqv _, mono_eqv _, mono_eqv _, trivial⟩
        case hop =>
          refine OpsGoal.more 0 1 rfl (fun vals W hJ hS => ?_) ?_
          · clear hS
            simp only [fillTo]
            go_wp2
            exact ⟨rfl, SL_eq rfl rfl, hJ, Below.refl _ _⟩
          refine OpsGoal.more 1 2 rfl (fun vals W hJ hS => ?_) ?_
          · clear hS
            simp only [fillTo]
            go_simp
            go_wp2
            exact ⟨rfl, SL_eq rfl rfl, hJ, Below.refl _ _⟩
          refine OpsGoal.more 2 3 rfl (fun vals W hJ hS => ?_) ?_
          · clear hS
            simp only [fillTo]
            go_simp
            go_wp2
            exact ⟨rfl, SL_eq rfl rfl, hJ, Below.refl _ _⟩
          refine OpsGoal.more 3 4 rfl (fun vals W hJ hS => ?_) ?_
          · have h1 := SL_val rfl (hS 1 (by kernel_rfl))
            have h2 := SL_val rfl (hS 2 (by kernel_rfl))
            clear hS
            simp only [fillTo]
            go_simp
            generalize vals 1 = v1 at h1 ⊢
            subst h1
            generalize vals 2 = v2 at h2 ⊢
            subst h2
            go_wp2
            exact ⟨rfl, SL_eq rfl rfl, hJ, Below.refl _ _⟩
          refine OpsGoal.more 4 5 rfl (fun vals W hJ hS => ?_) ?_
          · have h3 := SL_val rfl (hS 3 (by kernel_rfl))
            clear hS
            simp only [fillTo]
            go_simp
            generalize vals 3 = v3 at h3 ⊢
            subst h3
            go_wp2
            exact ⟨rfl, SL_eq rfl rfl, hJ, Below.refl _ _⟩
          refine OpsGoal.more 5 6 rfl (fun vals W hJ hS => ?_) ?_
          · have h4 := SL_val rfl (hS 4 (by kernel_rfl))
            have hkc := (Chg.of_below (fun _ => False) hJ).cell c0 (fun x => x)
            clear hS
            simp only [fillTo]
            go_simp
            generalize vals 4 = v4 at h4 ⊢
            subst h4
            go_wp2
            exact ⟨rfl, SL_eq rfl rfl, hJ, Below.refl _ _⟩
          refine OpsGoal.more 6 7 rfl (fun vals W hJ hS => ?_) ?_
          · have h0 := SL_val rfl (hS 0 (by kernel_rfl))
            have h5 := SL_val rfl (hS 5 (by kernel_rfl))
            clear hS
            simp only [fillTo]
            go_simp
            generalize vals 0 = v0 at h0 ⊢
            subst h0
            generalize vals 5 = v5 at h5 ⊢
            subst h5
            go_wp2_with (go_at_call 24; refine (GT _ (hrw.below hJ)).mono ?_; rintro e w' ⟨rfl, hb⟩)
            exact ⟨rfl, SL_eq rfl rfl, hJ.trans (hb.mono hJ.size), hb⟩
          refine OpsGoal.more 7 8 rfl (fun vals W hJ hS => ?_) ?_
          · clear hS
            simp only [fillTo]
            go_simp
            go_wp2
            exact ⟨rfl, SL_eq rfl rfl, hJ, Below.refl _ _⟩
          refine OpsGoal.more 8 9 rfl (fun vals W hJ hS => ?_) ?_
          · clear hS
            simp only [fillTo]
            go_simp
            go_wp2
            exact ⟨rfl, SL_eq rfl rfl, hJ, Below.refl _ _⟩
          refine OpsGoal.more 9 10 rfl (fun vals W hJ hS => ?_) ?_
          · have h7 := SL_val rfl (hS 7 (by kernel_rfl))
            have h8 := SL_val rfl (hS 8 (by kernel_rfl))
            clear hS
            simp only [fillTo]
            go_simp
            generalize vals 7 = v7 at h7 ⊢
            subst h7
            generalize vals 8 = v8 at h8 ⊢
            subst h8
            go_wp2
            exact ⟨rfl, SL_eq rfl rfl, hJ, Below.refl _ _⟩
          refine OpsGoal.more 10 11 rfl (fun vals W hJ hS => ?_) ?_
          · have h9 := SL_val rfl (hS 9 (by kernel_rfl))
            clear hS
            simp only [fillTo]
            go_simp
            generalize vals 9 = v9 at h9 ⊢
            subst h9
            go_wp2
            exact ⟨rfl, SL_eq rfl rfl, hJ, Below.refl _ _⟩
          refine OpsGoal.more 11 12 rfl (fun vals W hJ hS => ?_) ?_
          · have h10 := SL_val rfl (hS 10 (by kernel_rfl))
            have hkc := (Chg.of_below (fun _ => False) hJ).cell c1 (fun x => x)
            clear hS
            simp only [fillTo]
            go_simp
            generalize vals 10 = v10 at h10 ⊢
            subst h10
            go_wp2
            exact ⟨rfl, SL_eq rfl rfl, hJ, Below.refl _ _⟩
          refine OpsGoal.more 12 13 rfl (fun vals W hJ hS => ?_) ?_
          · have h6 := SL_val rfl (hS 6 (by kernel_rfl))
            have h11 := SL_val rfl (hS 11 (by kernel_rfl))
            clear hS
            simp only [fillTo]
            go_simp
            generalize vals 6 = v6 at h6 ⊢
            subst h6
            generalize vals 11 = v11 at h11 ⊢
            subst h11
            go_wp2
            exact ⟨rfl, SL_eq rfl rfl, hJ, Below.refl _ _⟩
          exact trivial
        case hend =>
          intro vals W hJ hS
          have h12 := SL_val rfl (hS 12 (by decide))
          clear hS
          simp only [List.size_toArray, List.length_cons, List.length_nil, Nat.reduceAdd, fillTo]
          go_simp
          generalize vals 12 = v12 at h12 ⊢
          subst h12
          cases B with
          | true =>
            go_wp2
            go_roundw
            case rel => exact ⟨j + 1, by omega, by go_num, by rw [hnext.out]; rfl, below_tr hbel hJ⟩
            case measure => simp [intOf]; omega
          | false =>
            have e0 := d0 W hJ
            go_wp2
            go_roundw
            case rel => exact ⟨j + 1, by omega, by go_num, by rw [hnext.out]; rfl, below_tr hbel hJ⟩
            case measure => simp [intOf]; omega
      · obtain rfl : j = n := by omega
        have hji : ¬ (j : Int) < (j : Int) := by omega
        rw [List.take_of_length_le (by omega)]
        by_cases hin : (l.any fun p => decide (p.1 = nm)) = true
        · rw [hin]
          go_wp2
          go_ret
          exact ⟨rfl, hbel⟩
        · have hin2 : (l.any fun p => decide (p.1 = nm)) = false := Bool.eq_false_iff.mpr hin
          have hno : ∀ p ∈ l, p.1 ≠ nm := fun p hp e => by
            have := List.any_eq_false.mp hin2 p hp
            simp [e] at this
          rw [hin2]
          have G0 := fun W h => lget_any l a j c nm hn (by omega) W h
          rw [get_none hno] at G0
          have Hno := Lib.hid hno
          clear hin hin2 hno
          go_upto_region 17 with (go_at_call 24; refine (G0 _ hrw).mono ?_; rintro y w6 ⟨rfl, hb6⟩)
          have hbel6 := below_tr hbel hb6
          have hq6 := hrw.below hb6
          clear G0 hrw hbel hb6
          rcases hq6.row with h0 | ⟨x, rfl, hcl⟩
          · rw [h0] at k1; simp at k1
          obtain ⟨A, hA⟩ : ∃ A, Hid (atL l nm = A) := ⟨_, Lib.hid rfl⟩
          have hAj : A ≤ j := by rw [← hA.out, ← hn]; exact atL_le l nm
          have Hcl := Lib.hid hcl
          clear hcl
          go_loop [9] (fun v9 => ∃ (i : Nat), i ≤ j ∧ v9 = .int .i64 i ∧ Hid (i + atL (l.drop i) nm = A)) (fun v9 => j - (intOf v9).toNat)
          case atStart => exact ⟨0, by omega, rfl, Lib.hid (by rw [List.drop_zero, hA.out, Nat.zero_add])⟩
          case round =>
            obtain ⟨i, hi, rfl, hok⟩ := hrel
            have hdone : (i = A) → Hid (A = A) := fun _ => Lib.hid rfl
            by_cases hgo : i < j ∧ ∃ p, l[i]? = some p ∧ Op.bytesLess p.1.toList nm.toList = true
            · obtain ⟨hlt2, ⟨pn, pv⟩, hp, hless⟩ := hgo
              have hii : (i : Int) < (j : Int) := by omega
              have c0 := (Hcl.out i _ hp).1
              simp only at c0 hless
              have hnext : Hid (i + 1 + atL (l.drop (i + 1)) nm = A) := Lib.hid (by
                rw [← hok.out, atL_drop hp, if_pos hless]; omega)
              clear hp
              go_wp2
              go_round
              case rel => exact ⟨i + 1, by omega, by go_num, hnext⟩
              case measure => simp [intOf]; omega
            · have hend : i = A := by
                rcases Nat.lt_or_ge i j with h | h
                · obtain ⟨p, hp⟩ : ∃ p, l[i]? = some p := ⟨_, List.getElem?_eq_getElem (by omega)⟩
                  have h9 : ¬ Op.bytesLess p.1.toList nm.toList = true := fun h9 => hgo ⟨h, p, hp, h9⟩
                  have := hok.out
                  rw [atL_drop hp, if_neg h9] at this
                  omega
                · have := hok.out
                  rw [show l.drop i = [] from List.drop_eq_nil_iff.mpr (by omega)] at this
                  simp [atL] at this; omega
              subst hend
              have hcond : (¬ (i : Int) < (j : Int)) ∨ ((i : Int) < (j : Int) ∧ ∃ pn pv, w6.cell? (x.add (i * 2)) = some (.string pn) ∧ l[i]? = some (pn, pv) ∧ Op.bytesLess pn.toList nm.toList = false) := by
                rcases Nat.lt_or_ge i j with h | h
                · right
                  obtain ⟨⟨pn, pv⟩, hp⟩ : ∃ p, l[i]? = some p := ⟨_, List.getElem?_eq_getElem (by omega)⟩
                  exact ⟨by omega, pn, pv, (Hcl.out i _ hp).1, hp, Bool.eq_false_iff.mpr (fun h9 => hgo ⟨h, _, hp, h9⟩)⟩
                · exact .inl (by omega)
              clear hgo hok hdone
              have hAc : (i : Int) ≤ (c : Int) := by have := hc.2; omega
              have hAj2 : (i : Int) ≤ (j : Int) := by omega
              obtain ⟨y, hy1, hy2, hqy⟩ : ∃ y, Hid (c = i → y = x) ∧ Hid (¬ c = i → y = x.add (i * 2)) ∧ RowQ w6 (some y) (l.drop i) := by
                by_cases hci : c = i
                · exact ⟨x, Lib.hid (fun _ => rfl), Lib.hid (fun h => absurd hci h), ⟨.inl (List.drop_eq_nil_iff.mpr (by have := hc.2; omega))⟩⟩
                · exact ⟨_, Lib.hid (fun h => absurd h hci), Lib.hid (fun _ => rfl), hq6.drop i⟩
              obtain ⟨m, hm⟩ : ∃ m, Hid (c - i = m) := ⟨_, Lib.hid rfl⟩
              obtain ⟨m2, hm2⟩ : ∃ m, Hid (j - i = m) := ⟨_, Lib.hid rfl⟩
              have hcn : j ≤ c := hc.2
              rcases hcond with hcond | ⟨hcond, pn, pv, c0, hp, hless⟩
              all_goals
                have hins : Hid (insL l nm v = (l.take i ++ [(nm, v)]) ++ l.drop i) := Lib.hid (by unfold insL; rw [hA.out]; simp)
                have OT := fun W h => lown_any (l.take i) (some x) i c (by rw [List.length_take]; omega) (by omega) ⟨fun h => (by cases h), by omega⟩ W h
                go_upto_region 19 with (fail)
                refine wp_region_inv_list (by kernel_rfl) (by kernel_rfl) (InvG w6 (fun k => [.slice (some x) j c, .int .i64 i, .slice (some x) i c, undef, .string nm, .string v, .agg #[.string nm, .string v], undef, undef, .slice (some x) j c, .int .i64 i, .slice (some y) m2 m].getD k undef) (l.take i) (l.take i ++ [(nm, v)]) (insL l nm v) (nm, v)) ?h0 ?hop ?hend
                case h0 => exact ⟨⟨rfl, rfl, rfl, Nat.le_refl _, fun _ _ => rfl⟩, (fun _ _ h => by cases h), (fun h _ => by cases h), (fun h _ => by cases h), (fun h _ => by cases h), (fun h => by cases h), (fun h => by cases h)⟩
                case hop =>
                  refine ⟨fun D vals W hI hD hd hc => ?_, fun D vals W hI hD hd hc => ?_, fun D vals W hI hD hd hc => ?_, fun D vals W hI hD hd hc => ?_, fun D vals W hI hD hd hc => ?_, fun D vals W hI hD hd hc => ?_, fun D vals W hI hD hd hc => ?_, fun D vals W hI hD hd hc => ?_, fun D vals W hI hD hd hc => ?_, fun D vals W hI hD hd hc => ?_, fun D vals W hI hD hd hc => ?_, fun D vals W hI hD hd hc => ?_, fun D vals W hI hD hd hc => ?_, fun D vals W hI hD hd hc => ?_, trivial⟩
                  · have hst := fun v hv => hI.pure 0 rfl v hv
                    have Hst := Lib.hid hst
                    clear hd hc hI hst
                    simp only [fillTo]
                    go_simp
                    go_wp2
                    exact ⟨rfl, Hst.out _ rfl, trivial, trivial⟩
                  · have hst := fun v hv => hI.pure 1 rfl v hv
                    have Hst := Lib.hid hst
                    clear hd hc hI hst
                    simp only [fillTo]
                    go_simp
                    go_wp2
                    exact ⟨rfl, Hst.out _ rfl, trivial, trivial⟩
                  · have hv0 : vals 0 = .slice (some x) j c := hI.pur 0 rfl (hd 0 (by kernel_rfl))
                    have hv1 : vals 1 = .int .i64 i := hI.pur 1 rfl (hd 1 (by kernel_rfl))
                    have hst := fun v hv => hI.pure 2 rfl v hv
                    have Hst := Lib.hid hst
                    clear hd hc hI hst
                    simp only [fillTo]
                    go_simp
                    generalize vals 0 = v0 at hv0 ⊢
                    subst hv0
                    generalize vals 1 = v1 at hv1 ⊢
                    subst hv1
                    go_wp2
                    exact ⟨rfl, Hst.out _ rfl, trivial, trivial⟩
                  · have h3 : D 3 = false := by simpa using hD
                    have h8 := nD hc 8 3 (by kernel_rfl) h3
                    have h12 := nD hc 12 8 (by kernel_rfl) h8
                    have h13 := nD hc 13 12 (by kernel_rfl) h12
                    have hv2 : vals 2 = .slice (some x) i c := hI.pur 2 rfl (hd 2 (by kernel_rfl))
                    have hqW := (hq6.take i).below hI.bel
                    have hst := fun W' v hb ho => hI.step3 (W' := W') h8 h12 h13 v hb ho
                    have Hst := Lib.hid hst
                    clear hd hc hI hst
                    simp only [fillTo]
                    go_simp
                    generalize vals 2 = v2 at hv2 ⊢
                    subst hv2
                    go_wp2_with (go_at_call 17; refine (OT _ hqW).mono ?_; rintro y w7 ⟨vo, rfl, hov, hb7⟩)
                    exact ⟨rfl, Hst.out _ _ hb7 hov, trivial, trivial⟩
                  · have hst := fun v hv => hI.pure 4 rfl v hv
                    have Hst := Lib.hid hst
                    clear hd hc hI hst
                    simp only [fillTo]
                    go_simp
                    go_wp2
                    exact ⟨rfl, Hst.out _ rfl, trivial, trivial⟩
                  · have hst := fun v hv => hI.pure 5 rfl v hv
                    have Hst := Lib.hid hst
                    clear hd hc hI hst
                    simp only [fillTo]
                    go_simp
                    go_wp2
                    exact ⟨rfl, Hst.out _ rfl, trivial, trivial⟩
                  · have hv4 : vals 4 = .string nm := hI.pur 4 rfl (hd 4 (by kernel_rfl))
                    have hv5 : vals 5 = .string v := hI.pur 5 rfl (hd 5 (by kernel_rfl))
                    have hst := fun v hv => hI.pure 6 rfl v hv
                    have Hst := Lib.hid hst
                    clear hd hc hI hst
                    simp only [fillTo]
                    go_simp
                    generalize vals 4 = v4 at hv4 ⊢
                    subst hv4
                    generalize vals 5 = v5 at hv5 ⊢
                    subst hv5
                    go_wp2
                    exact ⟨rfl, Hst.out _ rfl, trivial, trivial⟩
                  · have h7 : D 7 = false := by simpa using hD
                    have h8 := nD hc 8 7 (by kernel_rfl) h7
                    have h12 := nD hc 12 8 (by kernel_rfl) h8
                    have h13 := nD hc 13 12 (by kernel_rfl) h12
                    have hv6 : vals 6 = .agg #[.string nm, .string v] := hI.pur 6 rfl (hd 6 (by kernel_rfl))
                    have hst := fun W' q v hv hb ho => hI.step7 (W' := W') h8 h12 h13 q v hv hb ho
                    have Hst := Lib.hid hst
                    have hone := RowQ.of_one W nm v
                    have hgr : Below W.heap.size W (W.alloc (.cells #[.string nm, .string v] 38)) := (Below.refl _ _).alloc (Nat.le_refl _) _
                    clear hd hc hI hst
                    simp only [fillTo]
                    go_simp
                    generalize vals 6 = v6 at hv6 ⊢
                    subst hv6
                    go_wp2
                    exact ⟨rfl, Hst.out _ _ _ rfl hgr hone, trivial, trivial⟩
                  · have h8 : D 8 = false := by simpa using hD
                    have h12 := nD hc 12 8 (by kernel_rfl) h8
                    have h13 := nD hc 13 12 (by kernel_rfl) h12
                    obtain ⟨a3, n3, c3, hv3, hl3, _, _, ho3, hg3⟩ := (hI.own3 (hd 3 (by kernel_rfl)) h8).ex
                    obtain ⟨q, hv7, hq7⟩ := hI.one7 (hd 7 (by kernel_rfl)) h8
                    have hsrc : Src W 2 (some ⟨q, 0, none⟩) 1 1 (encP [(nm, v)]) := hq7.src rfl ⟨fun h => (by cases h), by omega⟩
                    have hbW := hI.bel
                    have hl3b : n3 ≤ 8 := by rw [← hl3, List.length_take]; omega
                    have hst := fun W' v hb ho => hI.step8 (W' := W') h12 h13 v hb ho
                    have Hst := Lib.hid hst
                    clear hd hc hI hst
                    simp only [fillTo]
                    go_simp
                    generalize vals 3 = v3 at hv3 hg3 ho3 ⊢
                    subst hv3
                    generalize vals 7 = v7 at hv7 ⊢
                    subst hv7
                    go_wp2_with (at_builtin; refine wpList_append_copy rfl _ _ 22 rfl 0 38 i0 (.agg #[.string { data := #[] }, .string { data := #[] }]) 2 32 Tryd.underlying22 hi0 hz0 hz1 hz2 rfl (by decide) _ n3 (encP (l.take i)) rfl ho3 (some ⟨q, 0, none⟩) 1 1 (encP [(nm, v)]) rfl hsrc (encP_one _) (by unfold maxLen; omega) (by omega) (Nat.zero_le _) ?_)
                    intro v' W' ho' hch hbk
                    have hb8 : Below w6.heap.size w6 W' := hbW.trans (hch.below hbW.size (fun k hk e => by have := hg3 k e; omega))
                    have hov : OwnP W' w6.heap.size (l.take i ++ [(nm, v)]) v' := OwnP.of_owns (n := n3 + 1) (by rw [encP_snoc]; exact ho') (ownG hbk hg3 hbW.size)
                    go_wp2
                    exact ⟨rfl, Hst.out _ _ hb8 hov, trivial, trivial⟩
                  · have hst := fun v hv => hI.pure 9 rfl v hv
                    have Hst := Lib.hid hst
                    clear hd hc hI hst
                    simp only [fillTo]
                    go_simp
                    go_wp2
                    exact ⟨rfl, Hst.out _ rfl, trivial, trivial⟩
                  · have hst := fun v hv => hI.pure 10 rfl v hv
                    have Hst := Lib.hid hst
                    clear hd hc hI hst
                    simp only [fillTo]
                    go_simp
                    go_wp2
                    exact ⟨rfl, Hst.out _ rfl, trivial, trivial⟩
                  · have hv9 : vals 9 = .slice (some x) j c := hI.pur 9 rfl (hd 9 (by kernel_rfl))
                    have hv10 : vals 10 = .int .i64 i := hI.pur 10 rfl (hd 10 (by kernel_rfl))
                    have hst := fun v hv => hI.pure 11 rfl v hv
                    have Hst := Lib.hid hst
                    clear hd hc hI hst
                    simp only [fillTo]
                    go_simp
                    generalize vals 9 = v9 at hv9 ⊢
                    subst hv9
                    generalize vals 10 = v10 at hv10 ⊢
                    subst hv10
                    by_cases hci : c = i
                    · have hy := hy1.out hci
                      have hm0 : m = 0 := by rw [← hm.out]; omega
                      have hk0 : m2 = 0 := by rw [← hm2.out]; omega
                      subst hy
                      subst hm0
                      subst hk0
                      subst hci
                      go_wp2
                      exact ⟨rfl, Hst.out _ rfl, trivial, trivial⟩
                    · have hy := hy2.out hci
                      have hm1 := hm.out
                      have hk1 := hm2.out
                      subst hy
                      go_wp2
                      exact ⟨rfl, Hst.out _ rfl, trivial, trivial⟩
                  · have h12 : D 12 = false := by simpa using hD
                    have h13 := nD hc 13 12 (by kernel_rfl) h12
                    have h8 := hd 8 (by kernel_rfl)
                    obtain ⟨a3, n3, c3, hv3, hl3, _, _, ho3, hg3⟩ := (hI.own8 h8 h12).ex
                    have hv11 : vals 11 = .slice (some y) m2 m := hI.pur 11 rfl (hd 11 (by kernel_rfl))
                    have hbW := hI.bel
                    have hsrc : Src W 2 (some y) m2 m (encP (l.drop i)) := (hqy.below hbW).src (by rw [List.length_drop, ← hm2.out]; omega) ⟨fun h => (by cases h), by have := hm.out; have := hm2.out; omega⟩
                    have hk8 : m2 ≤ 8 := by have := hm2.out; omega
                    have hl3b : n3 ≤ 9 := by rw [← hl3, List.length_append, List.length_take, List.length_singleton]; omega
                    have hst := fun W' v hb ho => hI.step12 (W' := W') h8 h13 v hb ho
                    have Hst := Lib.hid hst
                    clear hd hc hI hst
                    simp only [fillTo]
                    go_simp
                    generalize vals 8 = v3 at hv3 hg3 ho3 ⊢
                    subst hv3
                    generalize vals 11 = v7 at hv11 ⊢
                    subst hv11
                    go_wp2_with (at_builtin; refine wpList_append_copy rfl _ _ 22 rfl 0 38 i0 (.agg #[.string { data := #[] }, .string { data := #[] }]) 2 32 Tryd.underlying22 hi0 hz0 hz1 hz2 rfl (by decide) _ n3 (encP (l.take i ++ [(nm, v)])) rfl ho3 (some y) m2 m (encP (l.drop i)) rfl hsrc (encP_one _) (by unfold maxLen; omega) (by omega) (Nat.zero_le _) ?_)
                    intro v' W' ho' hch hbk
                    have hb8 : Below w6.heap.size w6 W' := hbW.trans (hch.below hbW.size (fun k hk e => by have := hg3 k e; omega))
                    have hov : OwnP W' w6.heap.size (insL l nm v) v' := OwnP.of_owns (n := n3 + m2) (by rw [hins.out, encP_app]; exact ho') (ownG hbk hg3 hbW.size)
                    go_wp2
                    exact ⟨rfl, Hst.out _ _ hb8 hov, trivial, trivial⟩
                  · have h12 := hd 12 (by kernel_rfl)
                    have hst := fun v hv => hI.step13 h12 v hv
                    have Hst := Lib.hid hst
                    clear hd hc hI hst
                    simp only [fillTo]
                    go_simp
                    go_wp2
                    exact ⟨rfl, Hst.out _ rfl, trivial, trivial⟩
                case hend =>
                  intro vals W hI
                  have hb12 := hI.bel
                  obtain ⟨am, km, cm, hvm, hlm, hqm, _, _, _⟩ := (hI.own12 rfl).ex
                  have hv13 : vals 13 = .slice am km cm := (hI.e13 rfl).trans hvm
                  clear hI hvm
                  simp only [List.size_toArray, List.length_cons, List.length_nil, Nat.reduceAdd, fillTo]
                  go_simp
                  generalize vals 13 = v13 at hv13 ⊢
                  subst hv13
                  rw [insL_len] at hlm
                  have CM := fun W h => lcheck_any (insL l nm v) am km cm (by rw [insL_len]; exact hlm) (by omega) (fun p hp => by
                    rw [hins.out] at hp
                    rcases List.mem_append.mp hp with h | h
                    · rcases List.mem_append.mp h with h | h
                      · exact Hsz.out p (List.mem_of_mem_take h)
                      · simp at h; subst h; exact ⟨show nm.size ≤ _ by omega, show v.size ≤ _ by omega⟩
                    · exact Hsz.out p (List.mem_of_mem_drop h)) W h
                  rw [chk_ins (by rw [hC.out]; exact hC0) hN.out hV.out Hno.out] at CM
                  have GM := fun W h => lget_any (insL l nm v) am km cm nm (by rw [insL_len]; exact hlm) (by omega) W h
                  rw [get_ins Hno.out] at GM
                  have CP := fun W h h' => lcompare_any l (insL l nm v) (some x) am j c km cm hn (by rw [insL_len]; exact hlm) (by omega) (by omega) W h h'
                  have hcmp : Hid (i = j → cmpL l (insL l nm v) = -1) := Lib.hid (fun h => by
                    rw [hins.out, List.take_of_length_le (by omega), show l.drop i = [] from List.drop_eq_nil_iff.mpr (by omega), List.append_nil]; exact cmp_more l _)
                  have hbW := below_tr hbel6 hb12
                  have hqW := hq.below hbW
                  clear hb12 OT hins Hno hq6 hq
                  by_cases h8 : j + 1 ≤ 8
                  all_goals
                    first | rw [if_pos (by omega)] at CM | rw [if_neg (by omega)] at CM
                    first
                      | have hk8i : decide ((km : Int) ≤ 8) = true := decide_eq_true (by omega)
                      | have hk8i : decide ((km : Int) ≤ 8) = false := decide_eq_false (by omega)
                    rcases (by omega : i = j ∨ i < j) with hij | hij
                    all_goals first
                      | (exfalso; omega)
                      | (have hki : ¬ (i : Int) < (j : Int) := by omega
                         rw [hcmp.out hij] at CP
                         clear hcmp hij h8 hAj hAj2 hAc hcn hm hm2 hy1 hy2 hqy
                         go_wp2_with (first
                           | (go_at_call 20; refine (CM _ hqm).mono ?_; rintro y w20 ⟨rfl, hb20⟩; have hqm := hqm.below hb20; have hqW := hqW.below hb20; have hb20 := below_tr hbW hb20; clear CM)
                           | (go_at_call 24; refine (GM _ hqm).mono ?_; rintro y w21 ⟨rfl, hb21⟩; have hqm := hqm.below hb21; have hqW := hqW.below hb21; have hb21 := below_tr hb20 hb21; clear GM)
                           | (go_at_call 22; refine (CP _ hqW hqm).mono ?_; rintro y w22 ⟨rfl, hb22⟩; have hb22 := below_tr hb21 hb22; clear CP))
                         go_ret
                         exact ⟨rfl, hb22⟩)
                      | (have hki : (i : Int) < (j : Int) := by omega
                         clear hcmp hij h8 hAj hAj2 hAc hcn hm hm2 hy1 hy2 hqy CP
                         go_wp2_with (first
                           | (go_at_call 20; refine (CM _ hqm).mono ?_; rintro y w20 ⟨rfl, hb20⟩; have hqm := hqm.below hb20; have hb20 := below_tr hbW hb20; clear CM)
                           | (go_at_call 24; refine (GM _ hqm).mono ?_; rintro y w21 ⟨rfl, hb21⟩; have hb21 := below_tr hb20 hb21; clear GM))
                         go_ret
                         exact ⟨rfl, hb21⟩)
  · rcases (by
      by_cases h1 : C = 0
      · right
        cases hN2 : N with
        | false => exact .inl ⟨by omega, rfl⟩
        | true =>
          cases hV2 : V with
          | false => exact .inr ⟨by omega, rfl, rfl⟩
          | true => exact absurd ⟨h1, hN2, hV2⟩ hall
      · exact .inl (by omega) : (¬ (C : Int) = 0) ∨ ((C : Int) = 0 ∧ N = false) ∨ ((C : Int) = 0 ∧ N = true ∧ V = false)) with h | ⟨h, rfl⟩ | ⟨h, rfl, rfl⟩
    all_goals
      clear hall
      go_wp2_with (first
        | (go_at_call 17; refine (O1 _ q1).mono ?_; rintro y w2 ⟨v1, rfl, ⟨a1, n1, c1, rfl, hn1, hq1, _, _, _⟩, hb2⟩; obtain rfl : n = n1 := (by omega); clear O1)
        | (go_at_call 20; refine (CK _ _ _ hq1).mono ?_; rintro y w3 ⟨rfl, hb3⟩; clear CK)
        | (go_at_call 27; refine (RN _).mono ?_; rintro y w4 ⟨rfl, rfl⟩; clear RN)
        | (go_at_call 28; refine (RV _).mono ?_; rintro y w5 ⟨rfl, rfl⟩; clear RV))
      go_ret
      exact ⟨rfl, below_tr (below_tr hb1 hb2) hb3⟩
end Go.Proofs.YtlddedddcdhjnaaDoor
