/- The document's desk takes a piece. -/
import Derived.Test.YtmaebileagfdaaaDeskA
import Derived.BigRegion
import Derived.Laws.Strings
import Derived.BigQuiet
import Derived.Deep.CutBlock
import Derived.Deep.OwnRows
import Derived.StillTailTactics
namespace Go.Proofs.Ytmaebileagfdaaa
open Go.RowKit Crc Dk

set_option maxRecDepth 100000 in
set_option maxHeartbeats 2000000 in
theorem rdadd_any (F : Nat → Prop) (B : Nat) (s : Option Book) (lsn last sum ofs : Int) (tx : ByteArray) (hx : tx.size ≤ 4611686018427387904) (w : World) (h : DkW w F B s) :
    Calls Try.prog 23 #[.pointer (some ⟨B, 0, none⟩), .agg #[.int .i64 lsn, .int .i64 last, .int .u32 sum], .agg #[.int .i64 ofs, .string tx]] w fun e w' =>
      e = .returned (.tuple #[txt (deskStep s lsn last sum ofs tx.data.toList).2, .bool (deskStep s lsn last sum ofs tx.data.toList).2.isSome]) ∧
      ∃ F', DkW w' F' B (deskStep s lsn last sum ofs tx.data.toList).1 ∧ Chg F w w' ∧ ∀ k, F' k → F k ∨ w.heap.size ≤ k := by
  have hBs : B < w.heap.size := h.2.1 B h.1
  have hBl : ∀ i, (⟨B, i, none⟩ : Addr).block < w.heap.size := fun i => hBs
  have HK := RowV.new w [.int .i64 lsn, .int .i64 last, .int .u32 sum] 26
  have HP := RowV.new (w.alloc (.cells #[.int .i64 lsn, .int .i64 last, .int .u32 sum] 26)) [.int .i64 ofs, .string tx] 34
  have hb1 : Below w.heap.size w (w.alloc (.cells #[.int .i64 lsn, .int .i64 last, .int .u32 sum] 26)) := (Below.refl _ _).alloc (Nat.le_refl _) _
  have hb2 : Below w.heap.size w ((w.alloc (.cells #[.int .i64 lsn, .int .i64 last, .int .u32 sum] 26)).alloc (.cells #[.int .i64 ofs, .string tx] 34)) := hb1.alloc (by simp) _
  go_enter Try.func23, Try.ntmps23
  by_cases hL' : lies last ofs tx.data.toList = false
  · have hst : deskStep s lsn last sum ofs tx.data.toList = (s, none) := by simp [deskStep, hL']
    rw [hst]
    have hd := h.below hb2
    have hc2 : Chg F w _ := Chg.of_below F hb2
    have hn : ¬ (1 ≤ last ∧ last ≤ 16777216 ∧ 1 ≤ (tx.size : Int) ∧ (tx.size : Int) ≤ 256 ∧ 0 ≤ ofs ∧ ofs ≤ last - (tx.size : Int)) := by
      have := hL'; rw [lies, ← size_toList] at this; simpa using this
    have Hd := Lib.hid hd
    have Hc2 := Lib.hid hc2
    clear hd hc2 HK HP hb1 hb2
    by_cases h1 : last < 1
    · go_wp2
      go_ret2
      exact ⟨rfl, F, Hd.out, Hc2.out, fun k hk => .inl hk⟩
    by_cases h2 : 16777216 < last
    · go_wp2
      go_ret2
      exact ⟨rfl, F, Hd.out, Hc2.out, fun k hk => .inl hk⟩
    by_cases h3 : tx = { data := #[] }
    · subst h3
      go_wp2
      go_ret2
      exact ⟨rfl, F, Hd.out, Hc2.out, fun k hk => .inl hk⟩
    have h3' : 1 ≤ (tx.size : Int) := by
      have : tx.size ≠ 0 := fun e => h3 (by apply ByteArray.ext; exact Array.eq_empty_of_size_eq_zero e)
      omega
    have hE0 : tx.toList.isEmpty = false := by
      rw [ByteArray.toList_eq]
      cases hl : tx.data.toList with
      | nil => have := size_toList tx; rw [hl, List.length_nil] at this; omega
      | cons _ _ => rfl
    have hE1 : ¬ tx.toList = [] := fun e => by rw [e] at hE0; cases hE0
    by_cases h4 : 256 < (tx.size : Int)
    · go_wp2
      go_ret2
      exact ⟨rfl, F, Hd.out, Hc2.out, fun k hk => .inl hk⟩
    by_cases h5 : ofs < 0
    · go_wp2
      go_ret2
      exact ⟨rfl, F, Hd.out, Hc2.out, fun k hk => .inl hk⟩
    have h6 : last - (tx.size : Int) < ofs := by omega
    go_wp2
    go_ret2
    exact ⟨rfl, F, Hd.out, Hc2.out, fun k hk => .inl hk⟩
  have hL : lies last ofs tx.data.toList = true := by simpa using hL'
  obtain ⟨K, hK⟩ : ∃ K, Hid (K = w.heap.size) := ⟨_, Lib.hid rfl⟩
  have hL2 : 1 ≤ last ∧ last ≤ 16777216 ∧ 1 ≤ (tx.size : Int) ∧ (tx.size : Int) ≤ 256 ∧ 0 ≤ ofs ∧ ofs ≤ last - (tx.size : Int) := by
    have := hL; rw [lies, ← size_toList] at this; simpa using this
  obtain ⟨hl1, hl2, hl3, hl4, hl5, hl6⟩ := hL2
  have hl6' : -9223372036854775808 ≤ last - (tx.size : Int) := by omega
  have hE0 : tx.toList.isEmpty = false := by
    rw [ByteArray.toList_eq]
    cases hl : tx.data.toList with
    | nil => have := size_toList tx; rw [hl, List.length_nil] at this; omega
    | cons _ _ => rfl
  have hE1 : ¬ tx.toList = [] := fun e => by rw [e] at hE0; cases hE0
  go_upto_region 1 with (fail)
  go_cut [44] from 10 to 43 (fun b wc => b = .bool false ∧ (w.alloc (.cells #[.int .i64 lsn, .int .i64 last, .int .u32 sum] 26)).alloc (.cells #[.int .i64 ofs, .string tx] 34) = wc)
  case first =>
    go_wp2
    go_meet
    case rel => exact ⟨by simp; omega, rfl⟩
  case rest =>
  obtain ⟨rfl, rfl⟩ := hcut
  go_upto_region 3 with (fail)
  generalize hw2 : ((w.alloc (.cells #[.int .i64 lsn, .int .i64 last, .int .u32 sum] 26)).alloc (.cells #[.int .i64 ofs, .string tx] 34)) = w2 at HP hb2 ⊢
  have hk : RowV w2 K [.int .i64 lsn, .int .i64 last, .int .u32 sum] := by rw [hK.out, ← hw2]; exact HK.below ((Below.refl _ _).alloc (Nat.le_refl _) _)
  have hp : RowV w2 (K + 1) [.int .i64 ofs, .string tx] := by
    rw [hK.out]; simpa using HP
  have hd2 : DkW w2 F B s := h.below hb2
  have hc2 : Chg F w w2 := Chg.of_below F hb2
  have hz2 : K + 2 ≤ w2.heap.size := by rw [hK.out, ← hw2]; simp
  rw [← hK.out]
  have hF : ∀ k, F k → k < K := fun k hk => by rw [hK.out]; exact h.2.1 k hk
  have hBK : B < K := hF B h.1
  have HFo := Lib.hid hF
  have HK1 := hk 0 _ rfl
  have HK2 := hk 1 _ rfl
  have HK3 := hk 2 _ rfl
  clear HK HP hb1 hb2 hw2 h hBl hL' hF hE0 hE1
  obtain ⟨need, hneed⟩ : ∃ need, Hid (need = match s with | none => true | some k => !decide (k.lsn = lsn ∧ k.last = last ∧ k.sum = sum)) := ⟨_, Lib.hid rfl⟩
  go_cut [57] from 45 to 56 (fun b wc => b = .bool need ∧ Below w2.heap.size w2 wc)
  case first =>
    cases s with
    | none =>
      obtain ⟨_, _, x1, x2, x3, vb, vt, hr⟩ := hd2
      have c0 := (hr 0 _ rfl).1
      have e : need = true := hneed.out
      subst e
      clear hr
      go_quiet (fail)
      go_wp2
      go_meet
      exact ⟨rfl, below_drewN (Below.refl _ _) _⟩
    | some k =>
      obtain ⟨_, _, ho, gb, gt, f1, f2, n1, n2, n3, r1, r2, r3⟩ := hd2
      have c0 := (r1 0 _ rfl).1
      have c1 := (r1 1 _ rfl).1
      have c2 := (r1 2 _ rfl).1
      have c3 := (r1 3 _ rfl).1
      by_cases e1 : k.lsn = lsn
      · by_cases e2 : k.last = last
        · by_cases e3 : k.sum = sum
          · have e : need = false := by rw [hneed.out]; simp [e1, e2, e3]
            subst e
            clear hneed
            subst e1 e2 e3
            go_quiet (fail)
            go_wp2
            go_meet
            exact ⟨rfl, below_drewN (Below.refl _ _) _⟩
          · have e : need = true := by rw [hneed.out]; simp [e3]
            subst e
            go_quiet (fail)
            go_wp2
            go_meet
            exact ⟨rfl, below_drewN (Below.refl _ _) _⟩
        · have e : need = true := by rw [hneed.out]; simp [e2]
          subst e
          go_quiet (fail)
          go_wp2
          go_meet
          exact ⟨rfl, below_drewN (Below.refl _ _) _⟩
      · have e : need = true := by rw [hneed.out]; simp [e1]
        subst e
        go_quiet (fail)
        go_wp2
        go_meet
        exact ⟨rfl, below_drewN (Below.refl _ _) _⟩
  case rest =>
    go_upto_if 57 with (fail)
    obtain ⟨rfl, hbc⟩ := hcut
    obtain ⟨H, hH⟩ : ∃ H, Hid (H = hand s lsn last sum) := ⟨_, Lib.hid rfl⟩
    go_cut [] from 58 to 79 (fun wx => ∃ F', DkW wx F' B (some H) ∧ Chg F w2 wx ∧ (∀ k, F' k → F k ∨ K + 2 ≤ k))
    case first =>
      cases need with
      | false =>
        cases s with
        | none => simp at hneed; cases hneed.out
        | some k =>
          have e := hneed.out
          simp at e
          obtain ⟨e1, e2, e3⟩ := e
          have eH : H = k := by rw [hH.out, hand]; simp [e1, e2, e3]
          subst eH
          go_wp2
          go_meet
          case rel => exact ⟨F, hd2.below hbc, Chg.of_below F hbc, fun _ hk => .inl hk⟩
      | true =>
        obtain ⟨N, rfl⟩ : ∃ N : Nat, last = (N : Int) := ⟨last.toNat, by omega⟩
        have hk' := hk.below hbc
        have k0 := (hk' 0 _ rfl).1
        have k1 := (hk' 1 _ rfl).1
        have k2 := (hk' 2 _ rfl).1
        have R0 : ∃ y0 y1 y2 y3 y4 y5 y6, RowV wc B [y0, y1, y2, y3, y4, y5, y6] := by
          cases s with
          | none => obtain ⟨_, _, x1, x2, x3, vb, vt, hr⟩ := hd2.below hbc; exact ⟨_, _, _, _, _, _, _, hr⟩
          | some k => obtain ⟨_, _, ho, gb, gt, f1, f2, n1, n2, n3, r1, r2, r3⟩ := hd2.below hbc; exact ⟨_, _, _, _, _, _, _, r1⟩
        obtain ⟨y0, y1, y2, y3, y4, y5, y6, R⟩ := R0
        obtain ⟨c0, f0⟩ := R 0 _ rfl
        obtain ⟨c1, f1⟩ := R 1 _ rfl
        obtain ⟨c2, f2⟩ := R 2 _ rfl
        obtain ⟨c3, f3⟩ := R 3 _ rfl
        obtain ⟨c4, f4⟩ := R 4 _ rfl
        obtain ⟨c5, f5⟩ := R 5 _ rfl
        obtain ⟨c6, f6⟩ := R 6 _ rfl
        clear hk hp hk'
        have hKw : K < wc.heap.size := World.block_lt_of_cell? wc _ k0
        have hBw : B < wc.heap.size := World.block_lt_of_cell? wc _ c0
        obtain ⟨ZB, hZB⟩ : ∃ ZB, Hid (ZB = (encY (List.replicate N 0)).toArray) := ⟨_, Lib.hid rfl⟩
        obtain ⟨ZT, hZT⟩ : ∃ ZT, Hid (ZT = ((List.replicate N false).map Value.bool).toArray) := ⟨_, Lib.hid rfl⟩
        have MB : ∀ W : World, (Instr.makeSlice 47 (.int .i64 (N : Int)) (.int .i64 (N : Int))).run Try.prog W = .ok (.slice (some ⟨W.heap.size, 0, none⟩) N N) (W.alloc (.cells ZB 5)) := fun W => by
          rw [hZB.out, run_make_row' 47 5 (.int .u8 0) 1 (by kernel_rfl) (by kernel_rfl) rfl .i64 .i64 N (by omega) (by omega) W]
          rw [madeCells_rep]; simp [encY]
        have MT : ∀ W : World, (Instr.makeSlice 48 (.int .i64 (N : Int)) (.int .i64 (N : Int))).run Try.prog W = .ok (.slice (some ⟨W.heap.size, 0, none⟩) N N) (W.alloc (.cells ZT 4)) := fun W => by
          rw [hZT.out, run_make_row' 48 4 (.bool false) 1 (by kernel_rfl) (by kernel_rfl) rfl .i64 .i64 N (by omega) (by omega) W]
          rw [madeCells_rep]; simp
        go_wp2
        go_meet
        case rel =>
          have eH : H = fresh lsn N sum := by
            rw [hH.out]; unfold hand
            cases s with
            | none => rfl
            | some k =>
              have := hneed.out
              simp only [Bool.true_eq, Bool.not_eq_true', decide_eq_false_iff_not] at this
              simp only [if_neg this]
          have hFw := hd2.2.1
          have hsz := hbc.size
          have hFB := hd2.1
          rw [hZB.out, hZT.out]
          generalize hW7 : ((((((wc.setCell ⟨B, 0, none⟩ _).setCell ⟨B, 1, none⟩ _).setCell ⟨B, 2, none⟩ _).setCell ⟨B, 3, none⟩ _).setCell ⟨B, 4, none⟩ _).setCell ⟨B, 5, none⟩ _).setCell ⟨B, 6, none⟩ _ = W7
          obtain ⟨r7, c7, z7⟩ := R.set7 rfl _ _ _ _ _ _ _ W7 hW7.symm
          rw [← z7] at r7
          rw [eH]
          refine ⟨_, (dk_fresh1 F W7 B lsn sum N (by omega) (by omega) hFB (fun k hk => by have := hFw k hk; omega) r7).keep (G := fun _ => False) ⟨rfl, rfl, rfl, Nat.le_refl _, fun _ _ _ => rfl⟩ (fun _ _ x => x), ?_, ?_⟩
          · exact (((((Chg.of_below F hbc).trans c7 (fun k _ hk => by rw [hk]; exact hFB)).trans (Chg.alloc F _ _) (fun _ _ x => x)).trans (Chg.alloc F _ _) (fun _ _ x => x)))
          · intro k hk
            rcases hk with h | h | h
            · exact .inl h
            · right; omega
            · right; omega
    case rest =>
      obtain ⟨F', hd3, hc3, hF'⟩ := hcut
      obtain ⟨N, rfl⟩ : ∃ N : Nat, last = (N : Int) := ⟨last.toNat, by omega⟩
      obtain ⟨O, rfl⟩ : ∃ O : Nat, ofs = (O : Int) := ⟨ofs.toNat, by omega⟩
      have hFK : ¬ F K := fun h => by have := HFo.out K h; omega
      have hFK1 : ¬ F (K + 1) := fun h => by have := HFo.out _ h; omega
      have hk3 := hk.keep hc3 hFK
      have hp3 := hp.keep hc3 hFK1
      obtain ⟨q1, q2, q3⟩ := hand_key s lsn N sum
      rw [← hH.out] at q1 q2 q3
      obtain ⟨fB, hF3, ho, gb, gt, f1, f2, n1, n2, n3, r1, r2, r3⟩ := hd3
      obtain ⟨_, _, oB, oT⟩ := ho
      rw [q2, Int.toNat_natCast] at oB oT
      rw [q1, q2, q3, Int.toNat_natCast] at r1
      have ngK : gb ≠ K ∧ gb ≠ K + 1 ∧ gt ≠ K ∧ gt ≠ K + 1 ∧ B ≠ K ∧ B ≠ K + 1 := by
        have d : ∀ g, F' g → g ≠ K ∧ g ≠ K + 1 := fun g hg => by
          rcases hF' g hg with h | h
          · have := HFo.out g h; omega
          · omega
        exact ⟨(d gb f1).1, (d gb f1).2, (d gt f2).1, (d gt f2).2, (d B fB).1, (d B fB).2⟩
      have Hng := Lib.hid ngK
      clear hk hp hd2 ngK HK1 HK2 HK3
      obtain ⟨bs, hbs⟩ : ∃ bs, Hid (bs = H.b) := ⟨_, Lib.hid rfl⟩
      obtain ⟨ts, hts⟩ : ∃ ts, Hid (ts = H.t) := ⟨_, Lib.hid rfl⟩
      rw [← hbs.out] at r2 oB
      rw [← hts.out] at r3 oT r1
      have hON : (O : Int) + (tx.size : Int) ≤ (N : Int) := by omega
      have hsm : (tx.size : Int) ≤ 256 := hl4
      go_wp2
      go_loopw [8] (fun i wr => ∃ (n : Nat) (Bs : List UInt8) (T : List Bool), n ≤ tx.size ∧ i = .int .i64 n ∧ Hid (Bs = lay bs O (tx.data.toList.take n)) ∧ Hid (T = lay ts O (List.replicate n true)) ∧
        RowV wr B [.bool true, .int .i64 lsn, .int .i64 (N : Int), .int .u32 sum, .slice (some ⟨gb, 0, none⟩) N N, .slice (some ⟨gt, 0, none⟩) N N, .int .i64 (T.count true : Nat)] ∧
        RowH wr gb 5 (encY Bs) ∧ RowH wr gt 4 (T.map Value.bool) ∧ Chg (fun k => k = B ∨ k = gb ∨ k = gt) wc wr) (fun i _ => tx.size - (intOf i).toNat)
      case atStart => exact ⟨0, bs, ts, by omega, rfl, Lib.hid (by rw [List.take_zero, lay_nil]), Lib.hid (by rw [List.replicate_zero, lay_nil]), r1, r2, r3, Chg.refl _ _⟩
      case round =>
        obtain ⟨n, Bs, T, hn, rfl, hBs2, hT, hr, hy, hh, hch⟩ := hrel
        have hkr := hk3.keep hch (by have := Hng.out; omega)
        have hpr := hp3.keep hch (by have := Hng.out; omega)
        have m0 := (hpr 0 _ rfl).1
        have m1 := (hpr 1 _ rfl).1
        have hnl : (tx.data.toList.take n).length = n := by rw [List.length_take, ← size_toList]; omega
        have hTl : T.length = N := by rw [hT.out, lay_len _ _ _ (by simp; omega), oT]
        have hBl : Bs.length = N := by rw [hBs2.out, lay_len _ _ _ (by rw [hnl]; omega), oB]
        by_cases hlt : n < tx.size
        · have hlti : (n : Int) < (tx.size : Int) := by omega
          have c4 := (hr 4 _ rfl).1
          have c5 := (hr 5 _ rfl).1
          have hOn : (O : Int) + (n : Int) < (N : Int) := by omega
          have hOn2 : O + n < N := by omega
          have hOn0 : (0 : Int) ≤ (O : Int) + (n : Int) := by omega
          obtain ⟨b, hb⟩ : ∃ b, Hid (T[O + n]? = some b) := ⟨_, Lib.hid (List.getElem?_eq_getElem (by omega))⟩
          obtain ⟨y, hyb⟩ : ∃ y, Hid (Bs[O + n]? = some y) := ⟨_, Lib.hid (List.getElem?_eq_getElem (by omega))⟩
          have hbt : ts[O + n]? = some b := by
            have := lay_get ts O (List.replicate n true) (by simp; omega)
            rw [← hT.out, List.length_replicate] at this
            rw [← this]; exact hb.out
          have d0 := hy.cell (O + n) (.int .u8 (y.toNat : Nat)) (by rw [encY, List.getElem?_map, hyb.out]; rfl)
          have d1 := hy.frozen (O + n)
          have hrep : List.replicate (n + 1) true = List.replicate n true ++ [true] := by rw [List.replicate_succ']
          have Hrep := Lib.hid hrep
          have Hbt := Lib.hid hbt
          have Htk := Lib.hid (take_snoc tx n hlt)
          clear hrep hbt
          go_upto_region 12 with (fail)
          clear m0 m1 c4 c5
          have m0 := (hpr 0 _ rfl).1
          have m1 := (hpr 1 _ rfl).1
          have c4 := (hr 4 _ rfl).1
          go_region
          have hy6 := (hy.set (O + n) (.int .u8 (tx[n].toNat : Nat))).keep (Chg.drew (fun _ => False) _) (fun x => x)
          have hr6 := (hr.keep (Chg.setCell wr ⟨gb, O + n, none⟩ (.int .u8 (tx[n].toNat : Nat))) (fun e => n1 e.symm)).keep (Chg.drew (fun _ => False) _) (fun x => x)
          have hh6 := (hh.keep (Chg.setCell wr ⟨gb, O + n, none⟩ (.int .u8 (tx[n].toNat : Nat))) (fun e => n3 e.symm)).keep (Chg.drew (fun _ => False) _) (fun x => x)
          have hp6 := (hpr.keep (Chg.setCell wr ⟨gb, O + n, none⟩ (.int .u8 (tx[n].toNat : Nat))) (fun e => Hng.out.2.1 e.symm)).keep (Chg.drew (fun _ => False) _) (fun x => x)
          have e6 : Chg (fun k => k = B ∨ k = gb ∨ k = gt) wr (wr.setCell ⟨gb, O + n, none⟩ (.int .u8 (tx[n].toNat : Nat))).drew := ((Chg.setCell wr ⟨gb, O + n, none⟩ _).mono (fun _ _ x => .inr (.inl x))).trans (Chg.drew _ _) (fun _ _ x => x)
          have hyN : (encY Bs).set (O + n) (.int .u8 (tx[n].toNat : Nat)) = encY (lay bs O (tx.data.toList.take (n + 1))) := by
            have := lay_set bs O (tx.data.toList.take n) tx[n] (by rw [hnl]; omega)
            rw [hnl, ← Htk.out] at this
            rw [← this, ← hBs2.out, encY, encY, List.map_set]
          rw [hyN] at hy6
          clear hyN
          generalize (wr.setCell ⟨gb, O + n, none⟩ (.int .u8 (tx[n].toNat : Nat))).drew = w6 at hy6 hr6 hh6 hp6 e6 ⊢
          obtain ⟨Bn, hBn⟩ : ∃ Bn, Hid (Bn = lay bs O (tx.data.toList.take (n + 1))) := ⟨_, Lib.hid rfl⟩
          rw [← hBn.out] at hy6
          clear m0 m1 c4 d0 d1 hr hy hh hkr hpr
          have m0 := (hp6 0 _ rfl).1
          have c5 := (hr6 5 _ rfl).1
          have d0 := hh6.cell (O + n) (.bool b) (by rw [List.getElem?_map, hb.out]; rfl)
          have eT : T.set (O + n) true = lay ts O (List.replicate (n + 1) true) := by
            rw [Hrep.out, hT.out]
            have := lay_set ts O (List.replicate n true) true (by simp; omega)
            rw [List.length_replicate] at this; exact this
          have HeT := Lib.hid eT
          clear eT
          cases b with
          | true =>
            go_upto_region 15 with (go_quiet (fail))
            have e7 : Chg (fun _ => False) w6 (w6.drewN nq) := Chg.drewN _ _ _
            generalize w6.drewN nq = w7 at e7 ⊢
            clear m0 c5 d0
            have hr7 := hr6.keep e7 (fun x => x)
            have hy7 := hy6.keep e7 (fun x => x)
            have hh7 := hh6.keep e7 (fun x => x)
            have m07 := (hp6.keep e7 (fun x => x) 0 _ rfl).1
            have c57 := (hr7 5 _ rfl).1
            have d07 := hh7.cell (O + n) (.bool true) (by rw [List.getElem?_map, hb.out]; rfl)
            have d17 := hh7.frozen (O + n)
            go_region
            go_wp2
            --MARK2
            go_roundw
            case rel =>
              have eTT : T.set (O + n) true = T := by
                apply List.ext_getElem?
                intro i
                rw [List.getElem?_set]
                split
                · rename_i e; subst e; rw [hb.out, if_pos (by omega)]
                · rfl
              have hh8 := (hh7.set (O + n) (.bool true)).keep (Chg.drew (fun _ => False) _) (fun x => x)
              have hr8 := (hr7.keep (Chg.setCell w7 ⟨gt, O + n, none⟩ (.bool true)) (fun e => n2 e.symm)).keep (Chg.drew (fun _ => False) _) (fun x => x)
              have hy8 := (hy7.keep (Chg.setCell w7 ⟨gt, O + n, none⟩ (.bool true)) (fun e => n3 e)).keep (Chg.drew (fun _ => False) _) (fun x => x)
              have e8 : Chg (fun k => k = B ∨ k = gb ∨ k = gt) w7 (w7.setCell ⟨gt, O + n, none⟩ (.bool true)).drew := ((Chg.setCell w7 ⟨gt, O + n, none⟩ (.bool true)).mono (fun _ _ x => .inr (.inr x))).trans (Chg.drew _ _) (fun _ _ x => x)
              refine ⟨n + 1, Bn, T, by omega, by go_num, hBn, Lib.hid (by rw [← HeT.out, eTT]), hr8, hy8, ?_, ((hch.trans e6 (fun _ _ x => x)).trans e7 (fun _ _ x => x.elim)).trans e8 (fun _ _ x => x)⟩
              have : (T.map Value.bool).set (O + n) (.bool true) = T.map Value.bool := by rw [← List.map_set, eTT]
              rw [this] at hh8; exact hh8
            case measure => simp [intOf]; omega
          | false =>
            go_upto_region 14 with (go_quiet (fail))
            have e7 : Chg (fun _ => False) w6 (w6.drewN nq) := Chg.drewN _ _ _
            generalize w6.drewN nq = w7 at e7 ⊢
            clear m0 c5 d0
            have hr7 := hr6.keep e7 (fun x => x)
            have hy7 := hy6.keep e7 (fun x => x)
            have hh7 := hh6.keep e7 (fun x => x)
            have hp7 := hp6.keep e7 (fun x => x)
            have hle := tcount_le T
            have hcs := Lib.hid (tcount_set T _ hb.out)
            obtain ⟨C, hC⟩ : ∃ C, Hid (C = T.count true) := ⟨_, Lib.hid rfl⟩
            rw [← hC.out] at hr7 hle
            obtain ⟨g6, g7⟩ := hr7 6 _ rfl
            have hCN : (C : Int) ≤ 16777216 := by omega
            go_upto_region 15 with (fail)
            have hr8 := hr7.set 6 (by simp) (.int .i64 ((C : Int) + 1))
            have hy8 := hy7.keep (Chg.setCell w7 ⟨B, 6, none⟩ (.int .i64 ((C : Int) + 1))) (fun e => n1 e)
            have hh8 := hh7.keep (Chg.setCell w7 ⟨B, 6, none⟩ (.int .i64 ((C : Int) + 1))) (fun e => n2 e)
            have hp8 := hp7.keep (Chg.setCell w7 ⟨B, 6, none⟩ (.int .i64 ((C : Int) + 1))) (fun e => Hng.out.2.2.2.2.2 e.symm)
            have e8 := Chg.setCell w7 ⟨B, 6, none⟩ (.int .i64 ((C : Int) + 1))
            generalize w7.setCell ⟨B, 6, none⟩ (.int .i64 ((C : Int) + 1)) = w8 at hr8 hy8 hh8 hp8 e8 ⊢
            clear hr7 hy7 hh7 hp7 g6 g7
            have m07 := (hp8 0 _ rfl).1
            have c57 := (hr8 5 _ rfl).1
            have d07 := hh8.cell (O + n) (.bool false) (by rw [List.getElem?_map, hb.out]; rfl)
            have d17 := hh8.frozen (O + n)
            --MARK3
            go_region
            go_wp2
            go_roundw
            case rel =>
              have hh9 := (hh8.set (O + n) (.bool true)).keep (Chg.drew (fun _ => False) _) (fun x => x)
              have hr9 := (hr8.keep (Chg.setCell w8 ⟨gt, O + n, none⟩ (.bool true)) (fun e => n2 e.symm)).keep (Chg.drew (fun _ => False) _) (fun x => x)
              have hy9 := (hy8.keep (Chg.setCell w8 ⟨gt, O + n, none⟩ (.bool true)) (fun e => n3 e)).keep (Chg.drew (fun _ => False) _) (fun x => x)
              have e9 : Chg (fun k => k = B ∨ k = gb ∨ k = gt) w8 (w8.setCell ⟨gt, O + n, none⟩ (.bool true)).drew := ((Chg.setCell w8 ⟨gt, O + n, none⟩ (.bool true)).mono (fun _ _ x => .inr (.inr x))).trans (Chg.drew _ _) (fun _ _ x => x)
              refine ⟨n + 1, Bn, T.set (O + n) true, by omega, by go_num, hBn, HeT, ?_, hy9, ?_, (((hch.trans e6 (fun _ _ x => x)).trans e7 (fun _ _ x => x.elim)).trans e8 (fun _ _ x => .inl x)).trans e9 (fun _ _ x => x)⟩
              · rw [hcs.out, ← hC.out]; have := hr9; simpa using this
              · rw [List.map_set]; exact hh9
            case measure => simp [intOf]; omega
        · have hlti : ¬ (n : Int) < (tx.size : Int) := by omega
          obtain rfl : n = tx.size := by omega
          obtain ⟨L, rfl⟩ : ∃ L, L = Bs := ⟨_, rfl⟩
          have hL5 : Hid (L = lay bs O tx.data.toList) := Lib.hid (by
            have : tx.data.toList.take tx.size = tx.data.toList := List.take_of_length_le (by rw [← size_toList]; omega)
            rw [hBs2.out, this])
          have hstp : deskStep s lsn N sum O tx.data.toList = if ((T.count true : Nat) : Int) < N then (some (put H O tx.data.toList), none) else (none, if (moreN 0 L : Int) = sum then some L else none) := by
            have e1 : (put H O tx.data.toList).t = T := by rw [hT.out]; simp only [put]; rw [← hts.out, ← size_toList]
            have e2 : (put H O tx.data.toList).b = L := by rw [hL5.out]; simp only [put]; rw [← hbs.out]
            unfold deskStep
            rw [if_pos hL]
            simp only [Int.toNat_natCast, ← hH.out, e1, e2]
          have hLl : L.length = N := by rw [hL5.out, lay_len _ _ _ (by rw [← size_toList]; omega), oB]
          have hput : DkW wr F' B (some (put H O tx.data.toList)) := by
            have e1 : (put H O tx.data.toList).t = T := by rw [hT.out]; simp only [put]; rw [← hts.out, ← size_toList]
            have e2 : (put H O tx.data.toList).b = L := by rw [hL5.out]; simp only [put]; rw [← hbs.out]
            refine ⟨fB, fun k hk => Nat.lt_of_lt_of_le (hF3 k hk) hch.size, ⟨by show 1 ≤ H.last; omega, by show H.last ≤ 16777216; omega, by rw [e2, hLl]; show N = H.last.toNat; omega, by rw [e1, hTl]; show N = H.last.toNat; omega⟩, gb, gt, f1, f2, n1, n2, n3, ?_, ?_, ?_⟩
            · show RowV wr B [.bool true, .int .i64 H.lsn, .int .i64 H.last, .int .u32 H.sum, .slice (some ⟨gb, 0, none⟩) H.last.toNat H.last.toNat, .slice (some ⟨gt, 0, none⟩) H.last.toNat H.last.toNat, .int .i64 ((put H O tx.data.toList).t.count true : Nat)]
              rw [e1, q1, q2, q3, Int.toNat_natCast]; exact hr
            · rw [e2]; exact hy
            · rw [e1]; exact hh
          have hcw : Chg F w wr := by
            have c1 : Chg F' wc wr := hch.mono (fun k _ hk => by rcases hk with h | h | h <;> rw [h] <;> assumption)
            have c3 : Chg F w wc := hc2.trans hc3 (fun _ _ x => x)
            refine c3.trans c1 (fun k hk hf => ?_)
            rcases hF' k hf with h | h
            · exact h
            · have := hK.out; omega
          have hFF : ∀ k, F' k → F k ∨ w.heap.size ≤ k := fun k hk => by
            rcases hF' k hk with h | h
            · exact .inl h
            · right; have := hK.out; omega
          have c6 := (hr 6 _ rfl).1
          have k1 := (hkr 1 _ rfl).1
          obtain ⟨C, hC⟩ : ∃ C, Hid (C = T.count true) := ⟨_, Lib.hid rfl⟩
          rw [← hC.out] at c6 hr hstp
          have Hstp := Lib.hid hstp
          clear hstp
          by_cases hfull : (C : Int) < (N : Int)
          · have Hst2 := Lib.hid (show deskStep s lsn N sum O tx.data.toList = _ by rw [Hstp.out, if_pos hfull])
            have Hput := Lib.hid hput
            have Hcw := Lib.hid hcw
            clear hput hcw hr
            go_wp2_with (go_quiet (fail))
            go_ret2
            rw [Hst2.out]
            exact ⟨rfl, F', Hput.out.keep (Chg.drewN (fun _ => False) _ _) (fun _ _ x => x), Hcw.out.trans (Chg.drewN _ _ _) (fun _ _ x => x), hFF⟩
          · have Hst2 := Lib.hid (show deskStep s lsn N sum O tx.data.toList = _ by rw [Hstp.out, if_neg hfull])
            go_upto_region 18 with (go_quiet (fail))
            have e8 : Chg (fun _ => False) wr (wr.drewN nq) := Chg.drewN _ _ _
            generalize wr.drewN nq = w8 at e8 ⊢
            have hb8 := hy.keep e8 (fun x => x)
            have hr8 := hr.keep e8 (fun x => x)
            have hk8 := hkr.keep e8 (fun x => x)
            have CV := hb8.string (P := Try.prog) 47 9 5 (by kernel_rfl) (by kernel_rfl) (by kernel_rfl) N N hLl
            obtain ⟨y0, z0⟩ := hr8 0 _ rfl
            obtain ⟨y4, z4⟩ := hr8 4 _ rfl
            obtain ⟨y6, z6⟩ := hr8 6 _ rfl
            clear m0 m1 c6 k1 hy hr hkr
            go_upto_region 21 with (fail)
            --MARK8
            have r9 := (hr8.set 0 (by simp) (.bool false)).set 6 (by simp) (.int .i64 0)
            have d9 := (Chg.setCell w8 ⟨B, 0, none⟩ (.bool false)).trans (Chg.setCell _ ⟨B, 6, none⟩ (.int .i64 0)) (fun _ _ x => x)
            generalize (w8.setCell ⟨B, 0, none⟩ (.bool false)).setCell ⟨B, 6, none⟩ (.int .i64 0) = w9 at r9 d9 ⊢
            have p9 := hk8.keep d9 (fun e => Hng.out.2.2.2.2.1 e.symm)
            have hc9 : Chg F' wr w9 := (e8.mono (fun _ _ x => x.elim)).trans d9 (fun k _ hk => by rw [hk]; exact fB)
            have hn9 : DkW w9 F' B none := ⟨fB, fun k hk => Nat.lt_of_lt_of_le (hput.2.1 k hk) hc9.size, _, _, _, _, _, r9⟩
            have hcw9 : Chg F w w9 := hcw.trans hc9 (fun k hk hf => by
              rcases hF' k hf with h | h
              · exact h
              · have := hK.out; omega)
            clear y0 y4 y6 z0 z4 z6 hb8 hr8 CV
            have OF := fun W => refof_any (mkS L) (by rw [mkS_size, hLl]; omega) W
            obtain ⟨X, hX⟩ : ∃ X, Hid (X = moreN 0 L) := ⟨_, Lib.hid rfl⟩
            rw [mkS_data, ← hX.out] at OF
            have Hst3 := Lib.hid (show deskStep s lsn N sum O tx.data.toList = (none, if (X : Int) = sum then some L else none) by rw [Hst2.out, hX.out])
            obtain ⟨Z, Zs⟩ : ∃ Z, ((X : Int) = sum ∧ Z = false) ∨ (¬ (X : Int) = sum ∧ Z = true) := by
              by_cases h : (X : Int) = sum
              · exact ⟨false, .inl ⟨h, rfl⟩⟩
              · exact ⟨true, .inr ⟨h, rfl⟩⟩
            refine wp_region_det_list (by kernel_rfl) (by kernel_rfl) (SL [eqv (.string (mkS L)), eqv (.int .u32 (X : Nat)), eqv (.pointer (some ⟨K, 2, none⟩)), eqv (.int .u32 sum), eqv (.bool Z)]) (fun W => Below w9.heap.size w9 W) Grow ?hJ ?hX ?hop ?hend
            case hJ => exact (Below.refl _ _).drew
            case hX => exact SL_mono _ ⟨mono_eqv _, mono_eqv _, mono_eqv _, mono_eqv _, mono_eqv _, trivial⟩
            case hop =>
              refine ⟨fun vals W hJ hS => ?_, fun vals W hJ hS => ?_, fun vals W hJ hS => ?_, fun vals W hJ hS => ?_, fun vals W hJ hS => ?_, trivial⟩
              · clear hS
                simp only [fillTo]
                go_wp2
                exact ⟨rfl, SL_eq rfl rfl, hJ, Below.refl _ _⟩
              · have h0 := SL_val rfl (hS 0 (by kernel_rfl))
                clear hS
                simp only [fillTo]
                go_simp
                generalize vals 0 = v0 at h0 ⊢
                subst h0
                go_wp2_with (go_at_call 41; refine (OF _).mono ?_; rintro e w' ⟨rfl, rfl⟩)
                exact ⟨rfl, SL_eq rfl rfl, hJ, Below.refl _ _⟩
              · clear hS
                simp only [fillTo]
                go_simp
                go_wp2
                exact ⟨rfl, SL_eq rfl rfl, hJ, Below.refl _ _⟩
              · have h2 := SL_val rfl (hS 2 (by kernel_rfl))
                have hkc := (p9.below hJ 2 _ rfl).1
                clear hS
                simp only [fillTo]
                go_simp
                generalize vals 2 = v2 at h2 ⊢
                subst h2
                go_wp2
                exact ⟨rfl, SL_eq rfl rfl, hJ, Below.refl _ _⟩
              · have h1 := SL_val rfl (hS 1 (by kernel_rfl))
                have h3 := SL_val rfl (hS 3 (by kernel_rfl))
                clear hS
                simp only [fillTo]
                go_simp
                generalize vals 1 = v1 at h1 ⊢
                subst h1
                generalize vals 3 = v3 at h3 ⊢
                subst h3
                rcases Zs with ⟨hxs, rfl⟩ | ⟨hxs, rfl⟩
                · go_wp2
                  exact ⟨rfl, SL_eq rfl rfl, hJ, Below.refl _ _⟩
                · have hx1 : ((X : Int) == sum) = false := by simpa using hxs
                  have hx2 : ((X : Int) != sum) = true := by simpa using hxs
                  go_wp2
                  exact ⟨rfl, SL_eq rfl (by simp), hJ, Below.refl _ _⟩
            case hend =>
              intro vals W hJ hS
              have h4 := SL_val rfl (hS 4 (by decide))
              clear hS
              simp only [List.size_toArray, List.length_cons, List.length_nil, Nat.reduceAdd, fillTo]
              go_simp
              generalize vals 4 = v4 at h4 ⊢
              subst h4
              rcases Zs with ⟨hxs, rfl⟩ | ⟨hxs, rfl⟩
              · have Hst4 := Lib.hid (show deskStep s lsn N sum O tx.data.toList = _ by rw [Hst3.out, if_pos hxs])
                go_wp2
                go_ret2
                rw [Hst4.out]
                exact ⟨rfl, F', hn9.below hJ, hcw9.trans (Chg.of_below F hJ) (fun _ _ x => x), hFF⟩
              · have Hst4 := Lib.hid (show deskStep s lsn N sum O tx.data.toList = _ by rw [Hst3.out, if_neg hxs])
                go_wp2
                go_ret2
                rw [Hst4.out]
                exact ⟨rfl, F', hn9.below hJ, hcw9.trans (Chg.of_below F hJ) (fun _ _ x => x), hFF⟩
end Go.Proofs.Ytmaebileagfdaaa
