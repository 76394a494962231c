/- The program's desk takes a piece. -/
import Derived.Test.YtmaebileagfdaaaDesk
import Derived.BigRegion
import Derived.BigQuiet
import Derived.Deep.CutBlock
import Derived.Deep.OwnRows
import Derived.StillTailTactics
namespace Go.Proofs.Ytmaebileagfdaaa
open Go.RowKit Crc Dk

def txt (o : Option (List UInt8)) : Value := .string (mkS (o.getD []))

set_option maxRecDepth 100000 in
set_option maxHeartbeats 2000000 in
theorem dadd_any (F : Nat → Prop) (B : Nat) (s : Option Book) (lsn last sum ofs : Int) (tx : ByteArray) (hx : tx.size ≤ 4611686018427387904) (w : World) (h : DkW w F B s) :
    Calls Try.prog 22 #[.pointer (some ⟨B, 0, none⟩), .agg #[.int .i64 lsn, .int .i64 last, .int .u32 sum], .agg #[.int .i64 ofs, .string tx]] w fun e w' =>
      e = .returned (.tuple #[txt (deskStep s lsn last sum ofs tx.data.toList).2, .bool (deskStep s lsn last sum ofs tx.data.toList).2.isSome]) ∧
      ∃ F', DkW w' F' B (deskStep s lsn last sum ofs tx.data.toList).1 ∧ Chg F w w' ∧ ∀ k, F' k → F k ∨ w.heap.size ≤ k := by
  have LI := fun W => lies_any lsn last sum ofs tx hx W
  have hBs : B < w.heap.size := h.2.1 B h.1
  have hBl : ∀ i, (⟨B, i, none⟩ : Addr).block < w.heap.size := fun i => hBs
  have HK := RowV.new w [.int .i64 lsn, .int .i64 last, .int .u32 sum] 24
  have HP := RowV.new (w.alloc (.cells #[.int .i64 lsn, .int .i64 last, .int .u32 sum] 24)) [.int .i64 ofs, .string tx] 33
  have hb1 : Below w.heap.size w (w.alloc (.cells #[.int .i64 lsn, .int .i64 last, .int .u32 sum] 24)) := (Below.refl _ _).alloc (Nat.le_refl _) _
  have hb2 : Below w.heap.size w ((w.alloc (.cells #[.int .i64 lsn, .int .i64 last, .int .u32 sum] 24)).alloc (.cells #[.int .i64 ofs, .string tx] 33)) := hb1.alloc (by simp) _
  go_enter Try.func22, Try.ntmps22
  by_cases hL' : lies last ofs tx.data.toList = false
  · rw [hL'] at LI
    have hst : deskStep s lsn last sum ofs tx.data.toList = (s, none) := by simp [deskStep, hL']
    rw [hst]
    have hd := h.below hb2
    have hc2 : Chg F w _ := Chg.of_below F hb2
    have HX : ∀ W, Below ((w.alloc (.cells #[.int .i64 lsn, .int .i64 last, .int .u32 sum] 24)).alloc (.cells #[.int .i64 ofs, .string tx] 33)).heap.size ((w.alloc (.cells #[.int .i64 lsn, .int .i64 last, .int .u32 sum] 24)).alloc (.cells #[.int .i64 ofs, .string tx] 33)) W → DkW W F B s ∧ Chg F w W := fun W hW => ⟨hd.below hW, hc2.trans (Chg.of_below F hW) (fun _ _ x => x)⟩
    go_wp2_with (go_at_call 46; refine (LI _).mono ?_; rintro e w2 ⟨rfl, hb⟩)
    go_ret2
    obtain ⟨q1, q2⟩ := HX _ hb
    exact ⟨rfl, F, q1, q2, fun k hk => .inl hk⟩
  have hL : lies last ofs tx.data.toList = true := by simpa using hL'
  rw [hL] at LI
  go_upto_region 3 with (first
    | (go_at_call 46; refine (LI _).mono ?_; rintro e w2 ⟨rfl, hb⟩))
  obtain ⟨K, hK⟩ : ∃ K, Hid (K = w.heap.size) := ⟨_, Lib.hid rfl⟩
  have hL2 : 1 ≤ last ∧ last ≤ 16777216 ∧ 1 ≤ (tx.size : Int) ∧ (tx.size : Int) ≤ 256 ∧ 0 ≤ ofs ∧ ofs ≤ last - (tx.size : Int) := by
    have := hL; rw [lies, ← size_toList] at this; simpa using this
  obtain ⟨hl1, hl2, hl3, hl4, hl5, hl6⟩ := hL2
  have hk : RowV w2 K [.int .i64 lsn, .int .i64 last, .int .u32 sum] := by rw [hK.out]; exact (HK.below ((Below.refl _ _).alloc (Nat.le_refl _) _)).below hb
  have hp : RowV w2 (K + 1) [.int .i64 ofs, .string tx] := by
    have := HP.below hb
    rw [hK.out]; simpa using this
  have hd2 : DkW w2 F B s := (h.below hb2).below hb
  have hc2 : Chg F w w2 := (Chg.of_below F hb2).trans (Chg.of_below F hb) (fun _ _ x => x)
  have hz2 : K + 2 ≤ w2.heap.size := by have := hb.size; rw [hK.out]; simpa using this
  rw [← hK.out]
  have hF : ∀ k, F k → k < K := fun k hk => by rw [hK.out]; exact h.2.1 k hk
  have hBK : B < K := hF B h.1
  have HFo := Lib.hid hF
  have HK1 := hk 0 _ rfl
  have HK2 := hk 1 _ rfl
  have HK3 := hk 2 _ rfl
  clear HK HP hb1 hb2 hb LI h hBl hL' hF
  obtain ⟨need, hneed⟩ : ∃ need, Hid (need = match s with | none => true | some k => !decide (k.lsn = lsn ∧ k.last = last ∧ k.sum = sum)) := ⟨_, Lib.hid rfl⟩
  go_cut [26] from 14 to 25 (fun b wc => b = .bool need ∧ Below w2.heap.size w2 wc)
  case first =>
    cases s with
    | none =>
      obtain ⟨_, _, x1, x2, x3, vb, vt, hr⟩ := hd2
      have c0 := (hr 0 _ rfl).1
      have e : need = true := hneed.out
      subst e
      clear hr
      go_quiet (fail)
      go_wp2
      go_meet
      exact ⟨rfl, below_drewN (Below.refl _ _) _⟩
    | some k =>
      obtain ⟨_, _, ho, gb, gt, f1, f2, n1, n2, n3, r1, r2, r3⟩ := hd2
      have c0 := (r1 0 _ rfl).1
      have c1 := (r1 1 _ rfl).1
      have c2 := (r1 2 _ rfl).1
      have c3 := (r1 3 _ rfl).1
      by_cases e1 : k.lsn = lsn
      · by_cases e2 : k.last = last
        · by_cases e3 : k.sum = sum
          · have e : need = false := by rw [hneed.out]; simp [e1, e2, e3]
            subst e
            clear hneed
            subst e1 e2 e3
            go_quiet (fail)
            go_wp2
            go_meet
            exact ⟨rfl, below_drewN (Below.refl _ _) _⟩
          · have e : need = true := by rw [hneed.out]; simp [e3]
            subst e
            go_quiet (fail)
            go_wp2
            go_meet
            exact ⟨rfl, below_drewN (Below.refl _ _) _⟩
        · have e : need = true := by rw [hneed.out]; simp [e2]
          subst e
          go_quiet (fail)
          go_wp2
          go_meet
          exact ⟨rfl, below_drewN (Below.refl _ _) _⟩
      · have e : need = true := by rw [hneed.out]; simp [e1]
        subst e
        go_quiet (fail)
        go_wp2
        go_meet
        exact ⟨rfl, below_drewN (Below.refl _ _) _⟩
  case rest =>
    go_upto_if 26 with (fail)
    obtain ⟨rfl, hbc⟩ := hcut
    obtain ⟨H, hH⟩ : ∃ H, Hid (H = hand s lsn last sum) := ⟨_, Lib.hid rfl⟩
    go_cut [] from 27 to 36 (fun wx => ∃ F', DkW wx F' B (some H) ∧ Chg F w2 wx ∧ (∀ k, F' k → F k ∨ K + 2 ≤ k))
    case first =>
      cases need with
      | false =>
        cases s with
        | none => simp at hneed; cases hneed.out
        | some k =>
          have e := hneed.out
          simp at e
          obtain ⟨e1, e2, e3⟩ := e
          have eH : H = k := by rw [hH.out, hand]; simp [e1, e2, e3]
          subst eH
          go_wp2
          go_meet
          case rel => exact ⟨F, hd2.below hbc, Chg.of_below F hbc, fun _ hk => .inl hk⟩
      | true =>
        obtain ⟨N, rfl⟩ : ∃ N : Nat, last = (N : Int) := ⟨last.toNat, by omega⟩
        have hk' := hk.below hbc
        have k0 := (hk' 0 _ rfl).1
        have k1 := (hk' 1 _ rfl).1
        have k2 := (hk' 2 _ rfl).1
        go_upto_region 4 with (fail)
        have R0 : ∃ y0 y1 y2 y3 y4 y5 y6, RowV wc B [y0, y1, y2, y3, y4, y5, y6] := by
          cases s with
          | none => obtain ⟨_, _, x1, x2, x3, vb, vt, hr⟩ := hd2.below hbc; exact ⟨_, _, _, _, _, _, _, hr⟩
          | some k => obtain ⟨_, _, ho, gb, gt, f1, f2, n1, n2, n3, r1, r2, r3⟩ := hd2.below hbc; exact ⟨_, _, _, _, _, _, _, r1⟩
        obtain ⟨y0, y1, y2, y3, y4, y5, y6, R⟩ := R0
        obtain ⟨c0, f0⟩ := R 0 _ rfl
        obtain ⟨c1, f1⟩ := R 1 _ rfl
        obtain ⟨c2, f2⟩ := R 2 _ rfl
        obtain ⟨c3, f3⟩ := R 3 _ rfl
        obtain ⟨c4, f4⟩ := R 4 _ rfl
        obtain ⟨c5, f5⟩ := R 5 _ rfl
        obtain ⟨c6, f6⟩ := R 6 _ rfl
        clear hk hp hk'
        have hKw : K < wc.heap.size := World.block_lt_of_cell? wc _ k0
        have hBw : B < wc.heap.size := World.block_lt_of_cell? wc _ c0
        obtain ⟨ZB, hZB⟩ : ∃ ZB, Hid (ZB = (encY (List.replicate N 0)).toArray) := ⟨_, Lib.hid rfl⟩
        obtain ⟨ZT, hZT⟩ : ∃ ZT, Hid (ZT = ((List.replicate N false).map Value.bool).toArray) := ⟨_, Lib.hid rfl⟩
        have MB : ∀ W : World, (Instr.makeSlice 47 (.int .i64 (N : Int)) (.int .i64 (N : Int))).run Try.prog W = .ok (.slice (some ⟨W.heap.size, 0, none⟩) N N) (W.alloc (.cells ZB 5)) := fun W => by
          rw [hZB.out, run_make_row' 47 5 (.int .u8 0) 1 (by kernel_rfl) (by kernel_rfl) rfl .i64 .i64 N (by omega) (by omega) W]
          rw [madeCells_rep]; simp [encY]
        have MT : ∀ W : World, (Instr.makeSlice 48 (.int .i64 (N : Int)) (.int .i64 (N : Int))).run Try.prog W = .ok (.slice (some ⟨W.heap.size, 0, none⟩) N N) (W.alloc (.cells ZT 4)) := fun W => by
          rw [hZT.out, run_make_row' 48 4 (.bool false) 1 (by kernel_rfl) (by kernel_rfl) rfl .i64 .i64 N (by omega) (by omega) W]
          rw [madeCells_rep]; simp
        go_region
        all_goals
          go_wp2
          go_meet
          case rel =>
            have eH : H = fresh lsn N sum := by
              rw [hH.out]; unfold hand
              cases s with
              | none => rfl
              | some k =>
                have := hneed.out
                simp only [Bool.true_eq, Bool.not_eq_true', decide_eq_false_iff_not] at this
                simp only [if_neg this]
            have hFw := hd2.2.1
            have hsz := hbc.size
            have hFB := hd2.1
            rw [hZB.out, hZT.out]
            generalize hW7 : ((((((wc.setCell ⟨B, 0, none⟩ _).setCell ⟨B, 1, none⟩ _).setCell ⟨B, 2, none⟩ _).setCell ⟨B, 3, none⟩ _).setCell ⟨B, 4, none⟩ _).setCell ⟨B, 5, none⟩ _).setCell ⟨B, 6, none⟩ _ = W7
            obtain ⟨r7, c7, z7⟩ := R.set7 rfl _ _ _ _ _ _ _ W7 hW7.symm
            rw [← z7] at r7
            rw [eH]
            first
              | refine ⟨_, dk_fresh1 F W7 B lsn sum N (by omega) (by omega) hFB (fun k hk => by have := hFw k hk; omega) r7, ?_, ?_⟩
              | refine ⟨_, dk_fresh2 F W7 B lsn sum N (by omega) (by omega) hFB (fun k hk => by have := hFw k hk; omega) r7, ?_, ?_⟩
            · exact (((((Chg.of_below F hbc).trans c7 (fun k _ hk => by rw [hk]; exact hFB)).trans (Chg.alloc F _ _) (fun _ _ x => x)).trans (Chg.alloc F _ _) (fun _ _ x => x)).trans (Chg.drew F _) (fun _ _ x => x))
            · intro k hk
              rcases hk with h | h | h
              · exact .inl h
              · right; omega
              · right; omega
    case rest =>
      obtain ⟨F', hd3, hc3, hF'⟩ := hcut
      obtain ⟨N, rfl⟩ : ∃ N : Nat, last = (N : Int) := ⟨last.toNat, by omega⟩
      obtain ⟨O, rfl⟩ : ∃ O : Nat, ofs = (O : Int) := ⟨ofs.toNat, by omega⟩
      have hFK : ¬ F K := fun h => by have := HFo.out K h; omega
      have hFK1 : ¬ F (K + 1) := fun h => by have := HFo.out _ h; omega
      have hk3 := hk.keep hc3 hFK
      have hp3 := hp.keep hc3 hFK1
      obtain ⟨q1, q2, q3⟩ := hand_key s lsn N sum
      rw [← hH.out] at q1 q2 q3
      obtain ⟨fB, hF3, ho, gb, gt, f1, f2, n1, n2, n3, r1, r2, r3⟩ := hd3
      obtain ⟨_, _, oB, oT⟩ := ho
      rw [q2, Int.toNat_natCast] at oB oT
      rw [q1, q2, q3, Int.toNat_natCast] at r1
      have ngK : gb ≠ K ∧ gb ≠ K + 1 ∧ gt ≠ K ∧ gt ≠ K + 1 ∧ B ≠ K ∧ B ≠ K + 1 := by
        have d : ∀ g, F' g → g ≠ K ∧ g ≠ K + 1 := fun g hg => by
          rcases hF' g hg with h | h
          · have := HFo.out g h; omega
          · omega
        exact ⟨(d gb f1).1, (d gb f1).2, (d gt f2).1, (d gt f2).2, (d B fB).1, (d B fB).2⟩
      have Hng := Lib.hid ngK
      clear hk hp hd2 ngK HK1 HK2 HK3
      obtain ⟨bs, hbs⟩ : ∃ bs, Hid (bs = H.b) := ⟨_, Lib.hid rfl⟩
      obtain ⟨ts, hts⟩ : ∃ ts, Hid (ts = H.t) := ⟨_, Lib.hid rfl⟩
      rw [← hbs.out] at r2 oB
      rw [← hts.out] at r3 oT r1
      have c4 := (r1 4 _ rfl).1
      have k0 := (hp3 0 _ rfl).1
      have k1 := (hp3 1 _ rfl).1
      have hON : (O : Int) + (tx.size : Int) ≤ (N : Int) := by omega
      have hO1 : (O : Int) ≤ (N : Int) := by omega
      have hO2 : (O : Int) < (N : Int) := by omega
      go_upto_region 5 with (fail)
      have hNO : ¬ N = O := by omega
      go_still_tail 9, (by kernel_rfl)
      change wpList _ _ _ _ _ wc.drew
      try rw [if_neg hNO]
      refine wpList_copy_str rfl (.tmp 43) (.tmp 45) 47 9 rfl 5 (by kernel_rfl) (by kernel_rfl) gb O (N - O) (N - O) tx rfl rfl (encY bs) 5 (r2.keep (Chg.drew (fun _ => False) wc) (fun x => x)) (by omega) (by rw [encY_len, oB]; omega) ?_
      intro w5 h5 c5
      rw [← encY_lay] at h5
      obtain ⟨L, hL5⟩ : ∃ L, Hid (L = lay bs O tx.data.toList) := ⟨_, Lib.hid rfl⟩
      rw [← hL5.out] at h5
      have cw5 : Chg (fun k => k = gb) wc w5 := (Chg.drew _ wc).trans c5 (fun _ _ x => x)
      have r1' := r1.keep cw5 (fun e => n1 e.symm)
      have r3' := r3.keep cw5 (fun e => n3 e.symm)
      have hk5 := hk3.keep cw5 (fun e => Hng.out.1 e.symm)
      have hp5 := hp3.keep cw5 (fun e => Hng.out.2.1 e.symm)
      clear r1 r2 r3 hk3 hp3 c4 k0 k1 c5
      have m1 := (hp5 1 _ rfl).1
      have hsm : (tx.size : Int) ≤ 256 := hl4
      go_wp2
      clear m1
      go_loopw [50] (fun i wr => ∃ (n : Nat) (T : List Bool), n ≤ tx.size ∧ i = .int .i64 n ∧ Hid (T = lay ts O (List.replicate n true)) ∧
        RowV wr B [.bool true, .int .i64 lsn, .int .i64 (N : Int), .int .u32 sum, .slice (some ⟨gb, 0, none⟩) N N, .slice (some ⟨gt, 0, none⟩) N N, .int .i64 (T.count true : Nat)] ∧
        RowH wr gt 4 (T.map Value.bool) ∧ Chg (fun k => k = B ∨ k = gt) w5 wr) (fun i _ => tx.size - (intOf i).toNat)
      case atStart => exact ⟨0, ts, by omega, rfl, Lib.hid (by rw [List.replicate_zero, lay_nil]), r1', r3', Chg.refl _ _⟩
      case round =>
        obtain ⟨n, T, hn, rfl, hT, hr, hh, hch⟩ := hrel
        by_cases hlt : n < tx.size
        · have hlti : (n : Int) < (tx.size : Int) := by omega
          have hTl : T.length = N := by rw [hT.out, lay_len _ _ _ (by simp; omega), oT]
          have hkr := hk5.keep hch (by have := Hng.out; omega)
          have hpr := hp5.keep hch (by have := Hng.out; omega)
          have m0 := (hpr 0 _ rfl).1
          have c5 := (hr 5 _ rfl).1
          have hOn : (O : Int) + (n : Int) < (N : Int) := by omega
          have hOn2 : O + n < N := by omega
          have hOn0 : (0 : Int) ≤ (O : Int) + (n : Int) := by omega
          obtain ⟨b, hb⟩ : ∃ b, Hid (T[O + n]? = some b) := ⟨_, Lib.hid (List.getElem?_eq_getElem (by omega))⟩
          have hbt : ts[O + n]? = some b := by
            have := lay_get ts O (List.replicate n true) (by simp; omega)
            rw [← hT.out, List.length_replicate] at this
            rw [← this]; exact hb.out
          have d0 := hh.cell (O + n) (.bool b) (by rw [List.getElem?_map, hb.out]; rfl)
          have d1 := hh.frozen (O + n)
          have hrep : List.replicate (n + 1) true = List.replicate n true ++ [true] := by rw [List.replicate_succ']
          have Hrep := Lib.hid hrep
          have Hbt := Lib.hid hbt
          clear hrep hbt
          --MARK7
          cases b with
          | true =>
            go_wp2_with (go_quiet (fail))
            go_roundw
            case rel =>
              refine ⟨n + 1, T, by omega, by go_num, Lib.hid ?_, hr.keep (Chg.drewN (fun _ => False) _ _) (fun x => x), hh.keep (Chg.drewN (fun _ => False) _ _) (fun x => x), hch.trans (Chg.drewN _ _ _) (fun _ _ x => x)⟩
              rw [Hrep.out, lay_same ts O _ true (by simpa using Hbt.out)]; exact hT.out
            case measure => simp [intOf]; omega
          | false =>
            go_upto_region 10 with (go_quiet (fail))
            have e6 : Chg (fun _ => False) wr (wr.drewN nq) := Chg.drewN _ _ _
            generalize wr.drewN nq = w6 at e6 ⊢
            have hr6 := hr.keep e6 (fun x => x)
            have hh6 := hh.keep e6 (fun x => x)
            have m06 := (hpr.keep e6 (fun x => x) 0 _ rfl).1
            have c56 := (hr6 5 _ rfl).1
            have d06 := hh6.cell (O + n) (.bool false) (by rw [List.getElem?_map, hb.out]; rfl)
            have d16 := hh6.frozen (O + n)
            clear c5 d0 d1 m0
            go_region
            have hh7 := (hh6.set (O + n) (.bool true)).keep (Chg.drew (fun _ => False) _) (fun x => x)
            have hr7 := (hr6.keep (Chg.setCell w6 ⟨gt, O + n, none⟩ (.bool true)) (fun e => n2 e.symm)).keep (Chg.drew (fun _ => False) _) (fun x => x)
            have e7 : Chg (fun k => k = B ∨ k = gt) wr (w6.setCell ⟨gt, O + n, none⟩ (.bool true)).drew := ((e6.mono (fun _ _ x => x.elim)).trans (Chg.setCell w6 ⟨gt, O + n, none⟩ (.bool true)) (fun _ _ x => .inr x)).trans (Chg.drew _ _) (fun _ _ x => x)
            generalize (w6.setCell ⟨gt, O + n, none⟩ (.bool true)).drew = w7 at hh7 hr7 e7 ⊢
            have hle := tcount_le T
            obtain ⟨C, hC⟩ : ∃ C, Hid (C = T.count true) := ⟨_, Lib.hid rfl⟩
            rw [← hC.out] at hr7 hle
            obtain ⟨g6, g7⟩ := hr7 6 _ rfl
            have hCN : (C : Int) ≤ 16777216 := by omega
            have H7 := Lib.hid (hr7.set 6 (by simp) (.int .i64 ((C + 1 : Nat) : Int)))
            have E7 := Lib.hid (e7.trans (Chg.setCell w7 ⟨B, 6, none⟩ (.int .i64 ((C + 1 : Nat) : Int))) (fun _ _ x => .inl x))
            have HH7 := Lib.hid (hh7.keep (Chg.setCell w7 ⟨B, 6, none⟩ (.int .i64 ((C + 1 : Nat) : Int))) (fun e => n2 e))
            clear hh6 hr6 hh7 hr7 e7 e6 hr hh m06 c56 d06 d16 hpr hkr
            go_wp2
            go_roundw
            case rel =>
              have eT : T.set (O + n) true = lay ts O (List.replicate (n + 1) true) := by
                rw [Hrep.out, hT.out]
                have := lay_set ts O (List.replicate n true) true (by simp; omega)
                rw [List.length_replicate] at this; exact this
              have eC : (T.set (O + n) true).count true = C + 1 := by rw [tcount_set T _ hb.out, hC.out]
              have eW : (Value.int .i64 ((C : Int) + 1)) = .int .i64 ((C + 1 : Nat) : Int) := by simp
              refine ⟨n + 1, T.set (O + n) true, by omega, by go_num, Lib.hid eT, ?_, ?_, ?_⟩
              · rw [eC]; have := H7.out; simpa using this
              · have := HH7.out; rw [List.map_set]; simpa using this
              · have := hch.trans E7.out (fun _ _ x => x); simpa using this
            case measure => simp [intOf]; omega
        · have hlti : ¬ (n : Int) < (tx.size : Int) := by omega
          obtain rfl : n = tx.size := by omega
          have hstp : deskStep s lsn N sum O tx.data.toList = if ((T.count true : Nat) : Int) < N then (some (put H O tx.data.toList), none) else (none, if (moreN 0 L : Int) = sum then some L else none) := by
            have e1 : (put H O tx.data.toList).t = T := by rw [hT.out]; simp only [put]; rw [← hts.out, ← size_toList]
            have e2 : (put H O tx.data.toList).b = L := by rw [hL5.out]; simp only [put]; rw [← hbs.out]
            unfold deskStep
            rw [if_pos hL]
            simp only [Int.toNat_natCast, ← hH.out, e1, e2]
          have hLl : L.length = N := by rw [hL5.out, lay_len _ _ _ (by rw [← size_toList]; omega), oB]
          have hTl : T.length = N := by rw [hT.out, lay_len _ _ _ (by simp; omega), oT]
          have hput : DkW wr F' B (some (put H O tx.data.toList)) := by
            have e1 : (put H O tx.data.toList).t = T := by rw [hT.out]; simp only [put]; rw [← hts.out, ← size_toList]
            have e2 : (put H O tx.data.toList).b = L := by rw [hL5.out]; simp only [put]; rw [← hbs.out]
            refine ⟨fB, fun k hk => Nat.lt_of_lt_of_le (hF3 k hk) (Nat.le_trans cw5.size hch.size), ⟨by show 1 ≤ H.last; omega, by show H.last ≤ 16777216; omega, by rw [e2, hLl]; show N = H.last.toNat; omega, by rw [e1, hTl]; show N = H.last.toNat; omega⟩, gb, gt, f1, f2, n1, n2, n3, ?_, ?_, ?_⟩
            · show RowV wr B [.bool true, .int .i64 H.lsn, .int .i64 H.last, .int .u32 H.sum, .slice (some ⟨gb, 0, none⟩) H.last.toNat H.last.toNat, .slice (some ⟨gt, 0, none⟩) H.last.toNat H.last.toNat, .int .i64 ((put H O tx.data.toList).t.count true : Nat)]
              rw [e1, q1, q2, q3, Int.toNat_natCast]; exact hr
            · rw [e2]; exact h5.keep hch (fun e => e.elim n1 n3)
            · rw [e1]; exact hh
          have hcw : Chg F w wr := by
            have c1 : Chg F' w5 wr := hch.mono (fun k _ hk => by rcases hk with h | h <;> rw [h] <;> assumption)
            have c2 : Chg F' wc wr := (cw5.mono (fun k _ hk => by rw [hk]; exact f1)).trans c1 (fun _ _ x => x)
            have c3 : Chg F w wc := hc2.trans hc3 (fun _ _ x => x)
            refine c3.trans c2 (fun k hk hf => ?_)
            rcases hF' k hf with h | h
            · exact h
            · have := hK.out; omega
          have hFF : ∀ k, F' k → F k ∨ w.heap.size ≤ k := fun k hk => by
            rcases hF' k hk with h | h
            · exact .inl h
            · right; have := hK.out; omega
          have hkr := hk5.keep hch (by have := Hng.out; omega)
          have m1 := (hkr 1 _ rfl).1
          have m2 := (hkr 2 _ rfl).1
          have c6 := (hr 6 _ rfl).1
          have c4 := (hr 4 _ rfl).1
          have hb5 := h5.keep hch (fun e => e.elim n1 n3)
          obtain ⟨C, hC⟩ : ∃ C, Hid (C = T.count true) := ⟨_, Lib.hid rfl⟩
          rw [← hC.out] at c6 hr hstp
          have Hstp := Lib.hid hstp
          clear hstp
          by_cases hfull : (C : Int) < (N : Int)
          · have Hst2 := Lib.hid (show deskStep s lsn N sum O tx.data.toList = _ by rw [Hstp.out, if_pos hfull])
            have Hput := Lib.hid hput
            have Hcw := Lib.hid hcw
            clear hput hcw hr hkr
            --MARK8
            go_wp2_with (go_quiet (fail))
            go_ret2
            rw [Hst2.out]
            exact ⟨rfl, F', Hput.out.keep (Chg.drewN (fun _ => False) _ _) (fun _ _ x => x), Hcw.out.trans (Chg.drewN _ _ _) (fun _ _ x => x), hFF⟩
          · have Hst2 := Lib.hid (show deskStep s lsn N sum O tx.data.toList = _ by rw [Hstp.out, if_neg hfull])
            go_upto_region 15 with (go_quiet (fail))
            have e8 : Chg (fun _ => False) wr (wr.drewN nq) := Chg.drewN _ _ _
            generalize wr.drewN nq = w8 at e8 ⊢
            have hb8 := hb5.keep e8 (fun x => x)
            have hr8 := hr.keep e8 (fun x => x)
            have hk8 := hkr.keep e8 (fun x => x)
            have CV := hb8.string (P := Try.prog) 47 9 5 (by kernel_rfl) (by kernel_rfl) (by kernel_rfl) N N hLl
            obtain ⟨y0, z0⟩ := hr8 0 _ rfl
            obtain ⟨y1, z1⟩ := hr8 1 _ rfl
            obtain ⟨y2, z2⟩ := hr8 2 _ rfl
            obtain ⟨y3, z3⟩ := hr8 3 _ rfl
            obtain ⟨y4, z4⟩ := hr8 4 _ rfl
            obtain ⟨y5, z5⟩ := hr8 5 _ rfl
            obtain ⟨y6, z6⟩ := hr8 6 _ rfl
            clear m1 m2 c6 c4 hb5 hr hkr
            go_upto_region 17 with (fail)
            --MARK8
            generalize hW9 : ((((((w8.setCell ⟨B, 0, none⟩ _).setCell ⟨B, 1, none⟩ _).setCell ⟨B, 2, none⟩ _).setCell ⟨B, 3, none⟩ _).setCell ⟨B, 4, none⟩ _).setCell ⟨B, 5, none⟩ _).setCell ⟨B, 6, none⟩ _ = w9
            obtain ⟨r9, d9, s9⟩ := hr8.set7 rfl _ _ _ _ _ _ _ w9 hW9.symm
            have p9 := hk8.keep d9 (fun e => Hng.out.2.2.2.2.1 e.symm)
            have hc9 : Chg F' wr w9 := (e8.mono (fun _ _ x => x.elim)).trans d9 (fun k _ hk => by rw [hk]; exact fB)
            have hn9 : DkW w9 F' B none := ⟨fB, fun k hk => Nat.lt_of_lt_of_le (hput.2.1 k hk) hc9.size, _, _, _, _, _, r9⟩
            have hcw9 : Chg F w w9 := hcw.trans hc9 (fun k hk hf => by
              rcases hF' k hf with h | h
              · exact h
              · have := hK.out; omega)
            clear s9 y0 y1 y2 y3 y4 y5 y6 z0 z1 z2 z3 z4 z5 z6 hW9 hb8 hr8 CV
            have OF := fun W => of_any (mkS L) (by rw [mkS_size, hLl]; omega) W
            obtain ⟨X, hX⟩ : ∃ X, Hid (X = moreN 0 L) := ⟨_, Lib.hid rfl⟩
            rw [mkS_data, ← hX.out] at OF
            have Hst3 := Lib.hid (show deskStep s lsn N sum O tx.data.toList = (none, if (X : Int) = sum then some L else none) by rw [Hst2.out, hX.out])
            obtain ⟨Z, Zs⟩ : ∃ Z, ((X : Int) = sum ∧ Z = false) ∨ (¬ (X : Int) = sum ∧ Z = true) := by
              by_cases h : (X : Int) = sum
              · exact ⟨false, .inl ⟨h, rfl⟩⟩
              · exact ⟨true, .inr ⟨h, rfl⟩⟩
            refine wp_region_det_list (by kernel_rfl) (by kernel_rfl) (SL [eqv (.string (mkS L)), eqv (.int .u32 (X : Nat)), eqv (.pointer (some ⟨K, 2, none⟩)), eqv (.int .u32 sum), eqv (.bool Z)]) (fun W => Below w9.heap.size w9 W) Grow ?hJ ?hX ?hop ?hend
            case hJ => exact (Below.refl _ _).drew
            case hX => exact SL_mono _ ⟨mono_eqv _, mono_eqv _, mono_eqv _, mono_eqv _, mono_eqv _, trivial⟩
            case hop =>
              refine ⟨fun vals W hJ hS => ?_, fun vals W hJ hS => ?_, fun vals W hJ hS => ?_, fun vals W hJ hS => ?_, fun vals W hJ hS => ?_, trivial⟩
              · clear hS
                simp only [fillTo]
                go_wp2
                exact ⟨rfl, SL_eq rfl rfl, hJ, Below.refl _ _⟩
              · have h0 := SL_val rfl (hS 0 (by kernel_rfl))
                clear hS
                simp only [fillTo]
                go_simp
                generalize vals 0 = v0 at h0 ⊢
                subst h0
                go_wp2_with (go_at_call 40; refine (OF _).mono ?_; rintro e w' ⟨rfl, hb⟩)
                exact ⟨rfl, SL_eq rfl rfl, hJ.trans (hb.mono hJ.size), hb⟩
              · clear hS
                simp only [fillTo]
                go_simp
                go_wp2
                exact ⟨rfl, SL_eq rfl rfl, hJ, Below.refl _ _⟩
              · have h2 := SL_val rfl (hS 2 (by kernel_rfl))
                have hkc := (p9.below hJ 2 _ rfl).1
                clear hS
                simp only [fillTo]
                go_simp
                generalize vals 2 = v2 at h2 ⊢
                subst h2
                go_wp2
                exact ⟨rfl, SL_eq rfl rfl, hJ, Below.refl _ _⟩
              · have h1 := SL_val rfl (hS 1 (by kernel_rfl))
                have h3 := SL_val rfl (hS 3 (by kernel_rfl))
                clear hS
                simp only [fillTo]
                go_simp
                generalize vals 1 = v1 at h1 ⊢
                subst h1
                generalize vals 3 = v3 at h3 ⊢
                subst h3
                rcases Zs with ⟨hxs, rfl⟩ | ⟨hxs, rfl⟩
                · go_wp2
                  exact ⟨rfl, SL_eq rfl rfl, hJ, Below.refl _ _⟩
                · have hx1 : ((X : Int) == sum) = false := by simpa using hxs
                  have hx2 : ((X : Int) != sum) = true := by simpa using hxs
                  go_wp2
                  exact ⟨rfl, SL_eq rfl (by simp), hJ, Below.refl _ _⟩
            case hend =>
              intro vals W hJ hS
              have h4 := SL_val rfl (hS 4 (by decide))
              clear hS
              simp only [List.size_toArray, List.length_cons, List.length_nil, Nat.reduceAdd, fillTo]
              go_simp
              generalize vals 4 = v4 at h4 ⊢
              subst h4
              rcases Zs with ⟨hxs, rfl⟩ | ⟨hxs, rfl⟩
              · have Hst4 := Lib.hid (show deskStep s lsn N sum O tx.data.toList = _ by rw [Hst3.out, if_pos hxs])
                go_wp2
                go_ret2
                rw [Hst4.out]
                exact ⟨rfl, F', hn9.below hJ, hcw9.trans (Chg.of_below F hJ) (fun _ _ x => x), hFF⟩
              · have Hst4 := Lib.hid (show deskStep s lsn N sum O tx.data.toList = _ by rw [Hst3.out, if_neg hxs])
                go_wp2
                go_ret2
                rw [Hst4.out]
                exact ⟨rfl, F', hn9.below hJ, hcw9.trans (Chg.of_below F hJ) (fun _ _ x => x), hFF⟩
end Go.Proofs.Ytmaebileagfdaaa
