/- The law SnapOther. -/
import Derived.Test.YtmaebileagfdaaaSnapBackW
import Derived.Test.YtmaebileagfdaaaFrameLaw
namespace Go.Proofs.Ytmaebileagfdaaa
open Go.RowKit Crc Dk Snp

theorem moreN_set (S : List UInt8) (p : Nat) (y : UInt8) (hp : p < S.length) (hne : S[p] ≠ y) : moreN 0 (S.set p y) ≠ moreN 0 S := by
  have e7 : S = S.take p ++ S[p] :: S.drop (p + 1) := by rw [← List.drop_eq_getElem_cons hp, List.take_append_drop]
  have e8 : S.set p y = S.take p ++ y :: S.drop (p + 1) := by rw [List.set_eq_take_append_cons_drop, if_pos hp]
  rw [e8]
  intro h
  refine byte_ne 0 (S.take p) (S.drop (p + 1)) _ _ hne ?_
  rw [← e7]; exact h.symm

/-- Adds of pieces in order, whatever sum is named. -/
theorem step_next (S : List UInt8) (hS : S.length ≤ 16777216) (s : Option Book) (lsn sum : Int) (j : Nat) (hj : j < npc S) (hs : (moreN 0 S : Int) ≠ sum)
    (h : ∃ Q, HInv S (hand s lsn (S.length : Nat) sum) Q ∧ ∀ d, d ∈ Q ↔ d < j) :
    (deskStep s lsn (S.length : Nat) sum ((256 * j : Nat) : Int) (piece S j).2).2 = none ∧
    (j + 1 < npc S → ∃ Q, HInv S (hand (deskStep s lsn (S.length : Nat) sum ((256 * j : Nat) : Int) (piece S j).2).1 lsn (S.length : Nat) sum) Q ∧ ∀ d, d ∈ Q ↔ d < j + 1) ∧
    (j + 1 = npc S → (deskStep s lsn (S.length : Nat) sum ((256 * j : Nat) : Int) (piece S j).2).1 = none) := by
  obtain ⟨Q, hv, hQ⟩ := h
  have hmem : ∀ d, d ∈ j :: Q ↔ d < j + 1 := fun d => by
    rw [List.mem_cons, hQ d]; omega
  by_cases hl : j + 1 = npc S
  · have := step_full S hS s lsn sum Q hv j hj (fun d hd => by rw [hmem]; omega)
    rw [if_neg hs] at this
    exact ⟨by rw [this], fun h => by omega, fun _ => by rw [this]⟩
  · obtain ⟨u1, u2, _⟩ := step_miss S hS s lsn sum Q hv j hj (j + 1) (by omega) (by rw [hmem]; omega)
    exact ⟨u1, fun _ => ⟨_, u2, hmem⟩, fun h => absurd h hl⟩

set_option maxRecDepth 100000 in
set_option maxHeartbeats 2000000 in
theorem snapOther_walk (s t : ByteArray) (at0 by0 : Int) (hs : s.size ≤ 140737488351232) (ht : t.size ≤ 140737488351232) (_ha : (Lit.int .i64 at0).wf = true) (hby : (Lit.int .u8 by0).wf = true) (w : World) :
    Calls Try.prog 7 #[.string s, .string t, .int .i64 at0, .int .u8 by0] w fun e w' => e = .returned (.bool true) ∧ Below w.heap.size w w' := by
  go_enter Try.func7, Try.ntmps7
  go_upto_region 3 with (go_at_call 25; refine (sworks_any _).mono ?_; rintro y w0 ⟨rfl, hb0⟩)
  have isE : ∀ x : ByteArray, ¬ x = { data := #[] } → x.size ≠ 0 ∧ x.toList.isEmpty = false ∧ ¬ x.toList = [] := fun x hx => by
    have h0 : x.size ≠ 0 := fun e => hx (by apply ByteArray.ext; exact Array.eq_empty_of_size_eq_zero e)
    have h1 : x.toList.isEmpty = false := by
      rw [ByteArray.toList_eq]
      cases hl : x.data.toList with
      | nil => have := size_toList x; rw [hl, List.length_nil] at this; omega
      | cons _ _ => rfl
    exact ⟨h0, h1, fun e => by rw [e] at h1; cases h1⟩
  by_cases hes : s = { data := #[] }
  · subst hes
    go_wp2
    go_ret
    exact ⟨rfl, hb0⟩
  obtain ⟨s0, s1, s2⟩ := isE s hes
  by_cases het : t = { data := #[] }
  · subst het
    go_wp2
    go_ret
    exact ⟨rfl, hb0⟩
  obtain ⟨t0, t1, t2⟩ := isE t het
  by_cases hst : s = t
  · subst hst
    go_wp2
    go_ret
    exact ⟨rfl, hb0⟩
  have hstl : ¬ s.toList = t.toList := fun e => hst (by rw [ByteArray.toList_eq, ByteArray.toList_eq] at e; apply ByteArray.ext; exact Array.toList_inj.mp e)
  have hstb : (s.toList == t.toList) = false := by simpa using hstl
  by_cases hbs : 3000 < (s.size : Int)
  · go_wp2
    go_ret
    exact ⟨rfl, hb0⟩
  by_cases hbt : 3000 < (t.size : Int)
  · go_wp2
    go_ret
    exact ⟨rfl, hb0⟩
  clear isE
  obtain ⟨S, hS⟩ : ∃ S, Hid (S = s.data.toList) := ⟨_, Lib.hid rfl⟩
  obtain ⟨U, hU⟩ : ∃ U, Hid (U = t.data.toList) := ⟨_, Lib.hid rfl⟩
  have hSl : Hid (S.length = s.size) := Lib.hid (by rw [hS.out, ← size_toList])
  have hUl : Hid (U.length = t.size) := Lib.hid (by rw [hU.out, ← size_toList])
  obtain ⟨m, hm⟩ : ∃ m, Hid (m = npc S) := ⟨_, Lib.hid rfl⟩
  obtain ⟨m2, hm2⟩ : ∃ m2, Hid (m2 = npc U) := ⟨_, Lib.hid rfl⟩
  have hm0 : 0 < m := by rw [hm.out, lt_npc, hSl.out]; omega
  have hm20 : 0 < m2 := by rw [hm2.out, lt_npc, hUl.out]; omega
  have hm1 : m ≤ 1000 := by rw [hm.out, npc, hSl.out]; omega
  have hm21 : m2 ≤ 1000 := by rw [hm2.out, npc, hUl.out]; omega
  have C1 := fun W => cut_any s (by omega) W
  have C2 := fun W => cut_any t (by omega) W
  have K1 := fun W => keyof_any 1 s (by omega) W
  have K2 := fun W => keyof_any 2 t (by omega) W
  unfold keyV at K1 K2
  rw [← hS.out, pieces_range, ← hm.out, List.length_map, List.length_range] at C1
  rw [← hU.out, pieces_range, ← hm2.out, List.length_map, List.length_range] at C2
  obtain ⟨M, hM⟩ : ∃ M, Hid (M = moreN 0 S) := ⟨_, Lib.hid rfl⟩
  obtain ⟨N, hN⟩ : ∃ N, Hid (N = S.length) := ⟨_, Lib.hid rfl⟩
  obtain ⟨M2, hM2⟩ : ∃ M2, Hid (M2 = moreN 0 U) := ⟨_, Lib.hid rfl⟩
  obtain ⟨N2, hN2⟩ : ∃ N2, Hid (N2 = U.length) := ⟨_, Lib.hid rfl⟩
  rw [← hS.out, ← hM.out, ← hN.out] at K1
  rw [← hU.out, ← hM2.out, ← hN2.out] at K2
  go_upto_region 6 with (go_at_call 15; refine (K1 _).mono ?_; rintro y w1 ⟨rfl, hb1⟩)
  have hal : Below w1.heap.size w1 (w1.alloc (.cells #[.int .i64 1, .int .i64 (N : Nat), .int .u32 (M : Nat)] 24)) := (Below.refl _ _).alloc (Nat.le_refl _) _
  have hk3 : RowV (w1.alloc (.cells #[.int .i64 1, .int .i64 (N : Nat), .int .u32 (M : Nat)] 24)) w1.heap.size [.int .i64 1, .int .i64 (N : Nat), .int .u32 (M : Nat)] := RowV.new w1 [.int .i64 1, .int .i64 (N : Nat), .int .u32 (M : Nat)] 24
  have hKl : w1.heap.size < (w1.alloc (.cells #[.int .i64 1, .int .i64 (N : Nat), .int .u32 (M : Nat)] 24)).heap.size := by simp
  have hB3 := below_tr (below_tr hb0 hb1) hal
  have hKw : w.heap.size ≤ w1.heap.size := by have := hb0.size; have := hb1.size; omega
  generalize (w1.alloc (.cells #[.int .i64 1, .int .i64 (N : Nat), .int .u32 (M : Nat)] 24)) = w3 at hk3 hB3 hKl ⊢
  obtain ⟨KB, hKB⟩ : ∃ KB, KB = w1.heap.size := ⟨_, rfl⟩
  rw [← hKB] at hk3 hKw hKl ⊢
  clear hKB hal hb1 hb0 K1
  go_upto_region 8 with (first
    | (go_at_call 17; with_reducible refine (C1 _).mono ?_; rintro y w4 ⟨v4, rfl, ho4, hv4, hb4⟩)
    | (go_at_call 17; with_reducible refine (C2 _).mono ?_; rintro y w5 ⟨v5, rfl, ho5, hv5, hb5⟩)
    | (go_at_call 21; refine (dnew_any _).mono ?_; rintro y w6 ⟨rfl, hd6, hb6⟩))
  obtain ⟨g1, cap1, rfl, hcap1, hr4, ob4⟩ := own_rowV ho4 hm0
  obtain ⟨g2, cap2, rfl, hcap2, hr5, ob5⟩ := own_rowV ho5 hm20
  have hg1 : KB < g1 := Nat.lt_of_lt_of_le hKl (hv4 g1 ob4)
  have hg1l := hr4.lt (by rw [encQ_len]; simp; omega)
  have hg2 : g1 < g2 := Nat.lt_of_lt_of_le hg1l (hv5 g2 ob5)
  have hg2l := hr5.lt (by rw [encQ_len]; simp; omega)
  obtain ⟨B, hB⟩ : ∃ B, Hid (B = w5.heap.size) := ⟨_, Lib.hid rfl⟩
  rw [← hB.out] at hg2l hd6 ⊢
  have hBw : w.heap.size ≤ B := by omega
  obtain ⟨EV, hEV⟩ : ∃ EV : World → Prop, Hid (EV = fun W => RowV W g1 (encQ ((List.range m).map (piece S))) ∧ RowV W g2 (encQ ((List.range m2).map (piece U))) ∧ RowV W KB [.int .i64 1, .int .i64 (N : Nat), .int .u32 (M : Nat)] ∧ Below w.heap.size w W) := ⟨_, Lib.hid rfl⟩
  have hEk : ∀ (F : Nat → Prop) (W W' : World), EV W → Chg F W W' → (∀ k, F k → B ≤ k) → EV W' := fun F W W' h hc hF => by
    rw [hEV.out] at h ⊢
    obtain ⟨r1, r2, r3, r4⟩ := h
    exact ⟨r1.keep hc (fun h => by have := hF _ h; omega), r2.keep hc (fun h => by have := hF _ h; omega), r3.keep hc (fun h => by have := hF _ h; omega), hc.below_tr r4 (fun k hk h => by have := hF k h; omega)⟩
  have hE6 : EV w6 := by
    rw [hEV.out]
    exact ⟨(hr4.below hb5).below hb6, hr5.below hb6, ((hk3.below hb4).below hb5).below hb6, below_tr (below_tr (below_tr hB3 hb4) hb5) hb6⟩
  have hEp : ∀ W, EV W → ∀ j, j < m → W.cell? ⟨g1, j * 2, none⟩ = some (.int .i64 ((256 * j : Nat) : Int)) ∧ W.cell? ⟨g1, j * 2 + 1, none⟩ = some (.string (mkS (piece S j).2)) := fun W h j hj => by
    rw [hEV.out] at h
    obtain ⟨⟨c0, _⟩, c1, _⟩ := rowV_piece h.1 j (piece S j) (by simp [hj])
    exact ⟨c0, c1⟩
  have hEq : ∀ W, EV W → W.cell? ⟨g2, 0, none⟩ = some (.int .i64 0) ∧ W.cell? ⟨g2, 1, none⟩ = some (.string (mkS (piece U 0).2)) := fun W h => by
    rw [hEV.out] at h
    obtain ⟨⟨c0, _⟩, c1, _⟩ := rowV_piece h.2.1 0 (piece U 0) (by simp [hm20])
    exact ⟨c0, c1⟩
  have hEy : ∀ W, EV W → W.cell? ⟨KB, 0, none⟩ = some (.int .i64 1) ∧ W.cell? ⟨KB, 1, none⟩ = some (.int .i64 (N : Nat)) ∧ W.cell? ⟨KB, 2, none⟩ = some (.int .u32 (M : Nat)) := fun W h => by
    rw [hEV.out] at h
    exact ⟨(h.2.2.1 0 _ rfl).1, (h.2.2.1 1 _ rfl).1, (h.2.2.1 2 _ rfl).1⟩
  have hEb : ∀ W, EV W → Below w.heap.size w W := fun W h => by rw [hEV.out] at h; exact h.2.2.2
  have HEk := Lib.hid hEk
  have HEp := Lib.hid hEp
  have HEq := Lib.hid hEq
  have HEy := Lib.hid hEy
  have HEb := Lib.hid hEb
  have hS16 : S.length ≤ 16777216 := by rw [hSl.out]; omega
  have hU16 : U.length ≤ 16777216 := by rw [hUl.out]; omega
  clear hEk hEp hEq hEy hEb hr4 hr5 hk3 hb4 hb5 hb6 hv4 hv5 ho4 ho5 ob4 ob5 hg1l hB3 hKl C2
  go_upto_block 0 with (fail)
  go_cut [13] from 53 to 66 (fun _ wx => ∃ (st : Option Book) (F : Nat → Prop), DkW wx F B st ∧ Hid (∀ k, F k → B ≤ k) ∧ EV wx)
  case first =>
    go_wp2
    go_loopw [13] (fun i wr => ∃ (j : Nat) (st : Option Book) (F : Nat → Prop), j + 1 ≤ m ∧ i = .int .i64 j ∧ DkW wr F B st ∧ Hid (∀ k, F k → B ≤ k) ∧ EV wr) (fun i _ => m - (intOf i).toNat)
    case atStart => exact ⟨0, none, (fun k => k = B), by omega, rfl, hd6, Lib.hid (fun k e => by omega), hE6⟩
    case round =>
      obtain ⟨j, st, F, hj, rfl, hd, hF, hE⟩ := hrel
      by_cases hlt : j + 1 < m
      · have hlti : (j : Int) < (m : Int) - 1 := by omega
        have hjm : (j : Int) < (m : Int) := by omega
        obtain ⟨c0, c1⟩ := HEp.out _ hE j (by omega)
        obtain ⟨k0, k1, k2⟩ := HEy.out _ hE
        obtain ⟨A, hA⟩ : ∃ A, Hid (A = 256 * j) := ⟨_, Lib.hid rfl⟩
        obtain ⟨T, hT⟩ : ∃ T, Hid (T = (piece S j).2) := ⟨_, Lib.hid rfl⟩
        rw [← hA.out] at c0
        rw [← hT.out] at c1
        have hTl : T.length ≤ 256 := by rw [hT.out]; simp [piece]; omega
        have D1 := fun W (hW : Chg (fun _ => False) wr W) => dadd_any F B st 1 (N : Nat) (M : Nat) (A : Nat) (mkS T) (by rw [mkS_size]; omega) W (hd.keep hW (fun _ _ x => x))
        generalize deskStep st 1 (N : Nat) (M : Nat) (A : Nat) (mkS T).data.toList = r at D1
        go_upto_region 11 with (fail)
        go_still_tail 6, (by kernel_rfl)
        change wpList _ _ _ _ _ wr.drew
        go_wp2_with (go_at_call 22; refine (D1 _ (Chg.drew _ _)).mono ?_; rintro y w7 ⟨rfl, F2, r1, r2, r3⟩)
        --MARK1
        go_roundw
        case rel =>
          have e7 : Chg F wr w7 := (Chg.drew F _).trans r2 (fun _ _ x => x)
          refine ⟨j + 1, r.1, F2, by omega, by go_num, r1, Lib.hid (fun k hk => ?_), HEk.out F _ _ hE e7 hF.out⟩
          rcases r3 k hk with h | h
          · exact hF.out k h
          · have hs7 := hd.2.1 B hd.1
            have : wr.drew.heap.size ≤ k := h
            simp at this; omega
        case measure => simp [intOf]; omega
      · have hlti : ¬ (j : Int) < (m : Int) - 1 := by omega
        go_wp2
        go_meet
        case rel => exact ⟨st, F, hd, hF, hE⟩
  case rest =>
    obtain ⟨st, F, hd, hF, hE⟩ := hcut
    have hU0 : 256 * 0 < U.length := by rw [hUl.out]; omega
    have hli := lies_piece U hU16 0 hU0
    have hz0 : ((256 * 0 : Nat) : Int) = 0 := rfl
    rw [hz0] at hli
    have HL := Lib.hid (step_lsn st 2 (U.length : Nat) (M2 : Nat) 0 (piece U 0).2 hli 1 (S.length : Nat) (M : Nat) (by decide))
    obtain ⟨T0, hT0⟩ : ∃ T0, Hid (T0 = (piece U 0).2) := ⟨_, Lib.hid rfl⟩
    have hT0l : T0.length ≤ 256 := by rw [hT0.out]; simp [piece]; omega
    obtain ⟨st2, hst2⟩ : ∃ st2, Hid (st2 = (deskStep st 2 (U.length : Nat) (M2 : Nat) 0 (piece U 0).2).1) := ⟨_, Lib.hid rfl⟩
    have HL2 := Lib.hid (show hand st2 1 (S.length : Nat) (M : Nat) = fresh 1 (S.length : Nat) (M : Nat) by rw [hst2.out]; exact HL.out)
    have D2 := fun W (hW : Chg (fun _ => False) wc W) => dadd_any F B st 2 (N2 : Nat) (M2 : Nat) 0 (mkS T0) (by rw [mkS_size]; omega) W (hd.keep hW (fun _ _ x => x))
    rw [mkS_data] at D2
    rw [← hN2.out, ← hT0.out] at hst2
    generalize hrr : deskStep st 2 (N2 : Nat) (M2 : Nat) 0 T0 = r at D2 hst2
    have Hrr := Lib.hid hrr
    clear hrr hli hz0 HL hU0
    have HQ : ∀ W, Below wc.drew.heap.size wc.drew W → W.cell? ⟨g2, 0, none⟩ = some (.int .i64 0) ∧ W.cell? ⟨g2, 1, none⟩ = some (.string (mkS T0)) := fun W hW => by
      rw [hT0.out]
      exact HEq.out _ (HEk.out (fun _ => False) _ _ hE ((Chg.drew _ wc).trans (Chg.of_below _ hW) (fun _ _ x => x)) (fun _ x => x.elim))
    obtain ⟨c0, c1⟩ := HQ _ (Below.refl _ _)
    have c0' : wc.cell? ⟨g2, 0, none⟩ = some (.int .i64 0) := c0
    have c1' : wc.cell? ⟨g2, 1, none⟩ = some (.string (mkS T0)) := c1
    have HHQ := Lib.hid HQ
    have hm2i : (0 : Int) < (m2 : Int) := by omega
    clear HQ
    go_upto_region 12 with (fail)
    go_cut [] from 67 to 73 (fun wx => ∃ (F2 : Nat → Prop), DkW wx F2 B st2 ∧ Hid (∀ k, F2 k → B ≤ k) ∧ EV wx)
    case first =>
      go_region_with (first
        | (go_at_call 15; refine (K2 _).mono ?_; rintro y wk ⟨rfl, hbk⟩; obtain ⟨u0, u1⟩ := HHQ.out _ hbk)
        | (go_at_call 22; refine (D2 _ ((Chg.drew _ _).trans (Chg.of_below _ hbk) (fun _ _ x => x))).mono ?_; rintro y w7 ⟨rfl, F2, r1, r2, r3⟩))
      --MARK2
      all_goals
        go_simp
        go_wp2
        go_meet
        case rel =>
          have e7 : Chg F wc w7 := ((Chg.drew F wc).trans (Chg.of_below F hbk) (fun _ _ x => x)).trans r2 (fun _ _ x => x)
          refine ⟨F2, by rw [hst2.out]; exact r1, Lib.hid (fun k hk => ?_), HEk.out F _ _ hE e7 hF.out⟩
          rcases r3 k hk with h | h
          · exact hF.out k h
          · have hs7 := hd.2.1 B hd.1
            have := hbk.size
            simp at this; omega
    case rest =>
      obtain ⟨F2, hd2, hF2, hE2⟩ := hcut
      obtain ⟨dm, hdm⟩ : ∃ dm, Hid (dm = decide (m = 1)) := ⟨_, Lib.hid rfl⟩
      obtain ⟨L, hL⟩ : ∃ L, Hid (L + 1 = m) := ⟨m - 1, Lib.hid (by omega)⟩
      have hLm : L < m := by have := hL.out; omega
      have hLi : (m : Int) - 1 = (L : Int) := by have := hL.out; omega
      have hLi0 : (0 : Int) ≤ (L : Int) := by omega
      have hwL : IntKind.i64.wrap (L : Int) = (L : Int) := by rw [IntKind.wrap_i64]; omega
      have hwm : IntKind.i64.wrap ((m : Int) - 1) = (L : Int) := by rw [IntKind.wrap_i64]; omega
      have h1m : (1 : Int) ≤ (m : Int) := by omega
      have hLim : (L : Int) < (m : Int) := by omega
      have hv0 : HInv S (hand st2 1 (S.length : Nat) (M : Nat)) [] := by rw [HL2.out]; exact fresh_inv S 1 M
      have hok : (deskStep st2 1 (S.length : Nat) (M : Nat) ((256 * L : Nat) : Int) (piece S L).2).2.isSome = dm := by
        by_cases h1 : m = 1
        · have hL0 : L = 0 := by have := hL.out; omega
          have := step_full S hS16 st2 1 (M : Nat) [] hv0 L (by rw [← hm.out]; exact hLm) (fun d hd => by rw [← hm.out] at hd; simp; omega)
          rw [this, if_pos (by rw [hM.out]), hdm.out]; simp [h1]
        · obtain ⟨u1, _⟩ := step_miss S hS16 st2 1 (M : Nat) [] hv0 L (by rw [← hm.out]; exact hLm) 0 (by rw [← hm.out]; exact hm0) (by have := hL.out; simp; omega)
          rw [u1, hdm.out]; simp [h1]
      have Hok := Lib.hid hok
      clear hok hv0
      obtain ⟨c0, c1⟩ := HEp.out _ hE2 L hLm
      obtain ⟨k0, k1, k2⟩ := HEy.out _ hE2
      obtain ⟨A, hA⟩ : ∃ A, Hid (A = 256 * L) := ⟨_, Lib.hid rfl⟩
      obtain ⟨T, hT⟩ : ∃ T, Hid (T = (piece S L).2) := ⟨_, Lib.hid rfl⟩
      rw [← hA.out, ← hT.out, ← hN.out] at Hok
      rw [← hA.out] at c0
      rw [← hT.out] at c1
      have hTl : T.length ≤ 256 := by rw [hT.out]; simp [piece]; omega
      have D3 := fun W (hW : Chg (fun _ => False) wc W) => dadd_any F2 B st2 1 (N : Nat) (M : Nat) (A : Nat) (mkS T) (by rw [mkS_size]; omega) W (hd2.keep hW (fun _ _ x => x))
      rw [mkS_data] at D3
      generalize hrr : deskStep st2 1 (N : Nat) (M : Nat) (A : Nat) T = r at D3 Hok
      rw [Hok.out] at D3
      clear hrr D2 c0' c1' Hok
      go_upto_region 13 with (fail)
      go_cut [14, 15] from 74 to 85 (fun _ y wx => y = .bool dm ∧ EV wx ∧ B < wx.heap.size)
      case first =>
        go_region_with (go_at_call 22; refine (D3 _ (Chg.drew _ _)).mono ?_; rintro y w7 ⟨rfl, F3, r1, r2, r3⟩)
        all_goals
          go_simp
          go_wp2
          go_meet
          case rel => exact ⟨rfl, HEk.out F2 _ _ hE2 ((Chg.drew F2 _).trans r2 (fun _ _ x => x)) hF2.out, r1.2.1 B r1.1⟩
      case rest =>
        obtain ⟨rfl, hE3, hBs3⟩ := hcut
        clear c0 c1 k0 k1 k2 D3
        have hdm1 : ((m : Int) == 1) = dm := by
          rw [hdm.out]
          by_cases h : m = 1
          · simp [h]
          · rw [decide_eq_false h, beq_eq_false_iff_ne]; omega
        have hBe := HEb.out _ hE3
        obtain ⟨by1, hby1⟩ := u8_of (show 0 ≤ by0 by simp [Lit.wf, IntKind.min, IntKind.max, IntKind.signed, IntKind.bits] at hby; omega) (show by0 < 256 by simp [Lit.wf, IntKind.min, IntKind.max, IntKind.signed, IntKind.bits] at hby; omega)
        subst hby1
        go_upto_region 14 with (fail)
        go_cut [90] from 86 to 89 (fun y wx => y = .bool false ∧ wc = wx)
        case first =>
          go_wp2
          go_meet
          case rel => exact ⟨rfl, rfl⟩
        case rest =>
          obtain ⟨rfl, rfl⟩ := hcut
          by_cases hb0 : by1 = 0
          · subst hb0
            go_wp2
            go_ret
            exact ⟨rfl, hBe⟩
          have hbne : (((by1.toNat : Nat) : Int) == 0) = false := by rw [beq_eq_false_iff_ne]; intro e; exact hb0 (UInt8.toNat_inj.mp (by simpa using e))
          have hbne2 : ¬ ((by1.toNat : Nat) : Int) = 0 := by simpa using hbne
          have hconv : ∀ w, _ := fun w => Lib.run_convert_string_bytes (P := Try.prog) (u := .string) w 9 47 5 s (by kernel_rfl) (by kernel_rfl) (by kernel_rfl)
          go_upto_region 18 with (fail)
          go_cut [16] from 93 to 94 (fun b wx => ∃ g cap, b = .slice (some ⟨g, 0, none⟩) s.size cap ∧ wc.heap.size ≤ g ∧ RowB wx g S ∧ Below wc.heap.size wc wx)
          case first =>
            go_wp2
            go_meet
            case rel =>
              have hr := bytesWorld_row wc 5 s
              rw [← hS.out] at hr
              exact ⟨_, _, rfl, Nat.le_refl _, hr, bytesWorld_below _ 5 s⟩
          case rest =>
            obtain ⟨g, cap, rfl, HG, HR, HB1⟩ := hcut
            clear hconv
            obtain ⟨n, hn, hn2⟩ := umod_k at0 (s.size : Int) (by omega) (by omega)
            have hsz0 : ¬ (s.size : Int) = 0 := by omega
            have hnS : n < S.length := by rw [hSl.out]; omega
            have hns : (n : Int) < (s.size : Int) := by omega
            go_upto_region 19 with (fail)
            go_cut [17] from 95 to 101 (fun k wx => k = .int .i64 n ∧ Below w.heap.size w wx ∧ RowB wx g S ∧ EV wx)
            case first =>
              have hE4 := HEk.out (fun _ => False) _ _ hE3 (Chg.of_below _ HB1) (fun _ x => x.elim)
              have hB4 := below_tr hBe HB1
              go_wp2
              go_meet
              case rel => exact ⟨by rw [hn], hB4, HR, hE4⟩
            case rest =>
              obtain ⟨rfl, hB4, HR4, hE4⟩ := hcut
              clear hn HR HB1
              obtain ⟨z, hz, hzx⟩ := xor_byte (S[n]'hnS) by1 hb0
              have Hzx := Lib.hid hzx
              clear hzx
              obtain ⟨hcell, hfz⟩ := HR4 n S[n] (by rw [List.getElem?_eq_getElem hnS])
              have hs1 := HR4.set n hnS z
              have hE5 := HEk.out (fun k => k = g) _ _ hE4 (Chg.setCell _ ⟨g, n, none⟩ (.int .u8 (z.toNat : Nat))) (fun k hk => by omega)
              have hwg : w.heap.size ≤ g := by omega
              have hB5 := below_setCell hB4 hwg (p := n) (.int .u8 (z.toNat : Nat))
              obtain ⟨V, hV⟩ : ∃ V, Hid (V = S.set n z) := ⟨_, Lib.hid rfl⟩
              have hVl : V.length = S.length := by rw [hV.out, List.length_set]
              have hne := moreN_set S n z hnS (fun e => Hzx.out e.symm)
              rw [← hV.out] at hs1 hne
              have Hne := Lib.hid hne
              clear hne
              have hVs : V.length = s.size := by rw [hVl, hSl.out]
              have C3 := fun W => cut_any (mkS V) (by rw [mkS_size]; omega) W
              rw [mkS_data, pieces_range] at C3
              have hnV : npc V = m := by rw [hm.out, npc, npc, hVl]
              rw [hnV, List.length_map, List.length_range] at C3
              go_upto_region 21 with (fail)
              generalize World.setCell _ ⟨g, n, none⟩ (.int .u8 (z.toNat : Nat)) = w8 at hs1 hB5 hE5 ⊢
              have hcv := run_bytes_string (P := Try.prog) w8 47 9 5 ⟨g, 0, none⟩ s.size cap V (by kernel_rfl) (by kernel_rfl) (by kernel_rfl) hVs hs1.bytesAt
              clear hcell hfz hVs
              go_upto_region 23 with (first
                | (go_at_call 17; with_reducible refine (C3 _).mono ?_; rintro y w9 ⟨v9, rfl, ho9, hv9, hb9⟩)
                | (go_at_call 21; refine (dnew_any _).mono ?_; rintro y wa ⟨rfl, hda, hba⟩))
              obtain ⟨g9, cap9, rfl, hcap9, hr9, ob9⟩ := own_rowV ho9 hm0
              have hg9l := hr9.lt (by rw [encQ_len]; simp; omega)
              have hKl8 := World.block_lt_of_cell? _ _ (HEy.out _ hE5).1
              have hKl9 : KB < w9.heap.size := Nat.lt_of_lt_of_le hKl8 hb9.size
              have hk8 : RowV w8 KB [.int .i64 1, .int .i64 (N : Nat), .int .u32 (M : Nat)] := by rw [hEV.out] at hE5; exact hE5.2.2.1
              have hka := (hk8.below hb9).below hba
              have hra := hr9.below hba
              have hBa := below_tr (below_tr hB5 hb9) hba
              obtain ⟨E0, hE0⟩ : ∃ E0, Hid (E0 = w9.heap.size) := ⟨_, Lib.hid rfl⟩
              have hEw : w.heap.size ≤ E0 := by rw [hE0.out]; have := hB5.size; have := hb9.size; omega
              rw [← hE0.out] at hda hg9l hKl9 ⊢
              have hV16 : V.length ≤ 16777216 := by omega
              have hNV : N = V.length := by rw [hN.out, hVl]
              have HNV := Lib.hid hNV
              have HnV := Lib.hid hnV
              have hNe : (moreN 0 V : Int) ≠ (M : Int) := fun e => Hne.out (by rw [← hM.out]; exact Int.ofNat.inj e)
              have HNe := Lib.hid hNe
              clear hNV hnV hNe hb9 hba hv9 ho9 ob9 hB5 hE5 hk8 hr9 hKl8 hcv hs1 C3 hE4 hB4 HR4
              go_wp2
              go_loopw [20] (fun i wr => ∃ (j : Nat) (t' : Option Book) (F5 : Nat → Prop), j ≤ m ∧ i = .int .i64 j ∧ DkW wr F5 E0 t' ∧ Hid (j < m → ∃ Q, HInv V (hand t' 1 (V.length : Nat) (M : Nat)) Q ∧ ∀ d, d ∈ Q ↔ d < j) ∧ Hid (j = m → t' = none) ∧ Hid (∀ k, F5 k → E0 ≤ k) ∧ RowV wr g9 (encQ ((List.range m).map (piece V))) ∧ RowV wr KB [.int .i64 1, .int .i64 (N : Nat), .int .u32 (M : Nat)] ∧ Below w.heap.size w wr) (fun i _ => m - (intOf i).toNat)
              case atStart => exact ⟨0, none, (fun k => k = E0), by omega, rfl, hda, Lib.hid (fun _ => ⟨[], fresh_inv V 1 M, fun d => by simp⟩), Lib.hid (fun h => by omega), Lib.hid (fun k e => by omega), hra, hka, hBa⟩
              case round =>
                obtain ⟨j, t', F5, hj, rfl, hd5, hq, hqn, hF5, hr5, hk5, hb5⟩ := hrel
                by_cases hlt : j < m
                · have hlti : (j : Int) < (m : Int) := by omega
                  obtain ⟨u1, u2, u3⟩ := step_next V hV16 t' 1 (M : Nat) j (by rw [HnV.out]; exact hlt) HNe.out (hq.out hlt)
                  rw [HnV.out] at u2 u3
                  obtain ⟨t2, ht2⟩ : ∃ t2, Hid (t2 = (deskStep t' 1 (V.length : Nat) (M : Nat) ((256 * j : Nat) : Int) (piece V j).2).1) := ⟨_, Lib.hid rfl⟩
                  have Hst := Lib.hid (show deskStep t' 1 (V.length : Nat) (M : Nat) ((256 * j : Nat) : Int) (piece V j).2 = (t2, none) from Prod.ext ht2.out.symm u1)
                  rw [← ht2.out] at u2 u3
                  have Hu2 := Lib.hid u2
                  have Hu3 := Lib.hid u3
                  clear u1 u2 u3 ht2
                  have hpl : (piece V j).2.length ≤ 256 := by simp [piece]; omega
                  have hem : mkS [] = { data := #[] } := rfl
                  have D5 := fun W (hW : Chg (fun _ => False) wr W) => dadd_any F5 E0 t' 1 (V.length : Nat) (M : Nat) ((256 * j : Nat) : Int) (mkS (piece V j).2) (by rw [mkS_size]; omega) W (hd5.keep hW (fun _ _ x => x))
                  simp only [mkS_data, Hst.out, txt, Option.getD_none, Option.isSome_none, hem] at D5
                  rw [← HNV.out] at D5
                  have hpx : ((List.range m).map (piece V))[j]? = some (piece V j) := by simp [hlt]
                  obtain ⟨⟨c0, _⟩, c1, _⟩ := rowV_piece hr5 j _ hpx
                  have hp1 : (piece V j).1 = 256 * j := rfl
                  rw [hp1] at c0
                  obtain ⟨A, hA⟩ : ∃ A, Hid (A = 256 * j) := ⟨_, Lib.hid rfl⟩
                  obtain ⟨T, hT⟩ : ∃ T, Hid (T = (piece V j).2) := ⟨_, Lib.hid rfl⟩
                  rw [← hA.out] at c0
                  rw [← hT.out] at c1
                  rw [← hA.out, ← hT.out] at D5
                  have k0 := (hk5 0 _ rfl).1
                  have k1 := (hk5 1 _ rfl).1
                  have k2 := (hk5 2 _ rfl).1
                  clear hpx hp1 hpl
                  go_upto_region 26 with (fail)
                  go_cut [21, 22] from 121 to 130 (fun _ y wx => ∃ (F6 : Nat → Prop), y = .bool false ∧ DkW wx F6 E0 t2 ∧ Hid (∀ k, F6 k → E0 ≤ k) ∧ RowV wx g9 (encQ ((List.range m).map (piece V))) ∧ RowV wx KB [.int .i64 1, .int .i64 (N : Nat), .int .u32 (M : Nat)] ∧ Below w.heap.size w wx)
                  case first =>
                    go_region_with (go_at_call 22; refine (D5 _ (Chg.drew _ _)).mono ?_; rintro y w7 ⟨rfl, F6, r1, r2, r3⟩)
                    all_goals
                      go_simp
                      go_wp2
                      go_meet
                      case rel =>
                        have e7 : Chg F5 _ w7 := (Chg.drew F5 _).trans r2 (fun _ _ x => x)
                        refine ⟨F6, rfl, r1, Lib.hid (fun k hk => ?_), hr5.keep e7 (fun h => by have := hF5.out _ h; omega), hk5.keep e7 (fun h => by have := hF5.out _ h; omega), e7.below_tr hb5 (fun k hk h => by have := hF5.out k h; omega)⟩
                        rcases r3 k hk with h | h
                        · exact hF5.out k h
                        · have hs7 := hd5.2.1 E0 hd5.1
                          have : (World.drew _).heap.size ≤ k := h
                          simp at this; omega
                  case rest =>
                    obtain ⟨F6, rfl, g1', g2', g3', g4', g5'⟩ := hcut
                    clear c0 c1 k0 k1 k2 D5
                    go_wp2
                    go_roundw
                    case rel => exact ⟨j + 1, t2, F6, by omega, by go_num, g1', Hu2, Hu3, g2', g3', g4', g5'⟩
                    case measure => simp [intOf]; omega
                · have hlti : ¬ (j : Int) < (m : Int) := by omega
                  have hjm : j = m := by omega
                  have ht0 := hqn.out hjm
                  subst ht0
                  have H0 := dhas_any F5 E0 none wr hd5
                  have h00 : ((hasN none : Nat) : Int) = 0 := rfl
                  rw [h00] at H0
                  go_wp2_with (go_at_call 24; refine H0.mono ?_; rintro y w6 ⟨rfl, rfl⟩)
                  go_ret
                  exact ⟨rfl, hb5⟩
end Go.Proofs.Ytmaebileagfdaaa
