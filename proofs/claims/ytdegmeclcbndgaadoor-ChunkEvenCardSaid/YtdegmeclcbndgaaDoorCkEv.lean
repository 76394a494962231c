/- Points at equal distances; the law ChunkEven. -/
import Derived.Test.YtdegmeclcbndgaaDoorCkWorks
namespace Go.Proofs.YtdegmeclcbndgaaDoor
open Go.RowKit Bit Tim Xo Dig Ck

namespace Ck
theorem cellsP_app' (a : List (Int × Nat)) (t : Int) (v : Nat) : cellsP (ptZ a) ++ [.int .i64 t, .int .u64 (v : Nat)] = cellsP (ptZ (a ++ [(t, v)])) := by
  simp [cellsP, ptZ]
def evenL (t d : Int) (v n : Nat) : List (Int × Nat) := (List.range n).map fun (i : Nat) => (t + (i : Int) * d, v)
theorem evenL_succ (t d : Int) (v n : Nat) : evenL t d v (n + 1) = evenL t d v n ++ [(t + (n : Int) * d, v)] := by
  unfold evenL; rw [List.range_succ, List.map_append]; rfl
theorem evenL_len (t d : Int) (v n : Nat) : (evenL t d v n).length = n := by simp [evenL]
theorem evenL_take (t d : Int) (v n : Nat) (h : 2 ≤ n) : (evenL t d v n).take 2 = evenL t d v 2 := by
  unfold evenL; rw [← List.map_take, List.take_range, Nat.min_eq_left h]

theorem even_keep (t d : Int) (v n : Nat) (hd : 1 ≤ d ∧ d ≤ 1000) :
    stT St.zero (evenL t d v (n + 2)) = ⟨true, t + ((n + 1 : Nat) : Int) * d, d⟩ ∧ stX XS.zero (evenL t d v (n + 2)) = ⟨true, v, false, 0, 0⟩ ∧
    (encBits (evenL t d v (n + 2))).length = (encBits (evenL t d v 2)).length + 2 * n := by
  induction n with
  | zero =>
    have e : evenL t d v 2 = [(t + ((0 : Nat) : Int) * d, v), (t + ((1 : Nat) : Int) * d, v)] := rfl
    rw [show 0 + 2 = 2 from rfl]
    refine ⟨?_, ?_, by simp⟩
    · rw [e]
      simp only [stT, St.next, St.zero]
      simp
      unfold wrap64; omega
    · rw [e]
      simp [stX, XS.next, XS.zero]
  | succ n ih =>
    obtain ⟨h1, h2, h3⟩ := ih
    have hs : evenL t d v (n + 1 + 2) = evenL t d v (n + 2) ++ [(t + ((n + 2 : Nat) : Int) * d, v)] := by
      rw [show n + 1 + 2 = (n + 2) + 1 from by omega, evenL_succ]
    have e2 : ((n + 2 : Nat) : Int) * d = ((n + 1 : Nat) : Int) * d + d := by
      rw [show ((n + 2 : Nat) : Int) = ((n + 1 : Nat) : Int) + 1 from by omega, Int.add_mul]; simp
    rw [hs, e2]
    generalize ((n + 1 : Nat) : Int) * d = y at h1 ⊢
    refine ⟨?_, ?_, ?_⟩
    · rw [stT_snoc, h1]
      simp only [St.next, if_true]
      congr 1
      unfold wrap64; omega
    · rw [stX_snoc, h2]
      simp [XS.next]
    · unfold encBits at h3 ⊢
      rw [encB_snoc, h1, h2, List.length_append, h3]
      have hx : chgX ⟨true, t + y, d⟩ (t + (y + d)) = 0 := by simp only [chgX]; unfold wrap64; omega
      have h4 : encT ⟨true, t + y, d⟩ (t + (y + d)) = [false] := by simp only [encT, if_true, hx]; rfl
      have h5 : encV ⟨true, v, false, 0, 0⟩ v = [false] := by simp [encV, encD]; decide
      rw [h4, h5]
      simp; omega
theorem even_asc (t d : Int) (v n : Nat) (hd : 1 ≤ d) : ascB (evenL t d v n) = true := by
  induction n with
  | zero => rfl
  | succ n ih =>
    cases n with
    | zero => rfl
    | succ n =>
      rw [evenL_succ, evenL_succ, List.append_assoc]
      show ascB (evenL t d v n ++ [_, _]) = true
      rw [ascB_two, ← evenL_succ, ih]
      have e2 : ((n + 1 : Nat) : Int) * d = (n : Int) * d + d := by rw [Int.natCast_add, Int.add_mul]; simp
      rw [e2]
      simp; omega
theorem even_fit (t d : Int) (v n : Nat) (h1 : -1099511627776 < t) (h2 : t < 1099511627776) (hd : 1 ≤ d) (hd2 : d ≤ 1000) (hn : n ≤ 64) (hv : v < 18446744073709551616) : FitP (evenL t d v n) := by
  intro a ha
  unfold evenL at ha
  obtain ⟨i, hi, rfl⟩ := List.mem_map.mp ha
  have hin := List.mem_range.mp hi
  have m1 : 0 ≤ (i : Int) * d := Int.mul_nonneg (by omega) (by omega)
  have m2 : (i : Int) * d ≤ 64 * 1000 := Int.mul_le_mul (by omega) hd2 (by omega) (by decide)
  refine ⟨?_, ?_, hv⟩ <;> simp only <;> omega
theorem even_bits (t d : Int) (v : Nat) : 1 ≤ (encBits (evenL t d v 2)).length := by
  have e : evenL t d v 2 = [(t + ((0 : Nat) : Int) * d, v), (t + ((1 : Nat) : Int) * d, v)] := rfl
  rw [e]
  unfold encBits
  simp only [encB, List.length_append]
  have := encV_pos XS.zero v
  omega
theorem dig_one (n : Nat) (h : 0 < n) : 1 ≤ (dig n).length := by
  rw [dig_pos n h, List.length_append]; simp
theorem even_str (ps : List (Int × Nat)) (h1 : 1 ≤ ps.length) (h2 : ps.length ≤ 64) (ha : ascB ps = true) (N : Nat) (hN : (encBits ps).length = N) (h0 : 1 ≤ N) :
    encE ps = 0 ∧ 4 ≤ (mkS (encS ps)).size ∧ (mkS (encS ps)).size ≤ 10000 ∧ ∃ k, getNum ((mkS (encS ps)).data.toList.drop 2) = (N, k, 0) := by
  obtain ⟨e1, e2⟩ := encE_ok ps h1 h2 ha
  have hl : (numB ps.length).length = 2 := by
    have a1 := dig_len ps.length 1 (by omega)
    have a2 := dig_one ps.length (by omega)
    rw [numB_len]; omega
  have hbl := encB_len ps St.zero XS.zero
  have hb : (encBits ps).length ≤ 9280 := by unfold encBits; omega
  refine ⟨e1, ?_, by rw [e2]; exact encBytes_size ps h2, (numB N).length, ?_⟩
  · have a3 := dig_one N h0
    rw [e2, mkS_size]
    unfold encBytes
    rw [List.length_append, List.length_append, hl, hN, numB_len N]; omega
  · rw [mkS_data, e2]
    unfold encBytes
    rw [List.drop_append_of_le_length (by omega), List.drop_of_length_le (by omega), List.nil_append, hN]
    exact getNum_numB N (by omega) _
end Ck

set_option maxRecDepth 100000 in
theorem many_any (s : ByteArray) (h2 : 4 ≤ s.size) (hs : s.size ≤ 10000) (N : Nat) (hN : N ≤ 10000) (hg : ∃ k, getNum (s.data.toList.drop 2) = (N, k, 0)) (w : World) :
    Calls Tryd.prog 32 #[.string s] w fun e w' => e = .returned (.int .i64 (N : Nat)) ∧ Below w.heap.size w w' := by
  obtain ⟨k, hg⟩ := hg
  have hx : Hid (getNum (s.extract 2 s.size).data.toList = (N, k, 0)) := Lib.hid (by
    rw [extract_toList, List.take_of_length_le (by rw [← size_toList]; omega)]; exact hg)
  have h2i : (2 : Int) ≤ (s.size : Int) := by omega
  have hNi : (N : Int) ≤ 10000 := by omega
  clear hg
  go_enter Tryd.func32, Tryd.ntmps32
  go_wp2_with (go_at_call 49; refine (getnum_eq _ (by rw [ByteArray.size_extract]; omega) hx _).mono ?_; rintro y w1 ⟨rfl, hb1⟩)
  go_ret
  exact ⟨rfl, hb1⟩

set_option maxRecDepth 100000 in
set_option maxHeartbeats 4000000 in
theorem chunkEven_walk (t d v n : Int) (ht : (Lit.int .i64 t).wf = true) (hd : (Lit.int .i64 d).wf = true) (hv : (Lit.int .u64 v).wf = true) (hx : (Lit.int .i64 n).wf = true) (w : World) (hT : Tab w) :
    Calls Tryd.prog 10 #[.int .i64 t, .int .i64 d, .int .u64 v, .int .i64 n] w fun e w' => e = .returned (.bool true) ∧ Below w.heap.size w w' := by
  have ht := wf_i64 ht
  have hd := wf_i64 hd
  have hx := wf_i64 hx
  have hv := wf_u64 hv
  obtain ⟨V, rfl⟩ : ∃ V : Nat, v = (V : Int) := ⟨v.toNat, by omega⟩
  obtain ⟨K, hK, hK1⟩ := umod_k n 63 (by decide) (by decide)
  obtain ⟨D, hD, hD1⟩ := umod_k d 1000 (by decide) (by decide)
  obtain ⟨i0, hi, hz0, hz1, hz2⟩ := info_parts ptinfo
  go_enter Tryd.func10, Tryd.ntmps10
  go_upto_region 3 with (go_at_call 30; refine (ckworks_any w hT).mono ?_; rintro e w0 ⟨rfl, hb0⟩)
  obtain ⟨T, hTm, hT1, hT2⟩ : ∃ T : Int, t.tmod 1099511627776 = T ∧ -1099511627776 < T ∧ T < 1099511627776 := by
    refine ⟨_, rfl, ?_⟩
    have := Int.tmod_lt_of_pos t (show (0 : Int) < 1099511627776 by decide)
    have := Int.lt_tmod_of_pos t (show (0 : Int) < 1099511627776 by decide)
    constructor <;> omega
  go_upto_region 8 with (fail)
  obtain ⟨E, hE, hE1, hE2⟩ : ∃ E : Nat, 1 + (D : Int) = (E : Int) ∧ 1 ≤ E ∧ E ≤ 1000 := ⟨1 + D, by omega, by omega, by omega⟩
  obtain ⟨M, hM, hM1, hM2⟩ : ∃ M : Nat, 2 + (K : Int) = (M : Int) ∧ 2 ≤ M ∧ M ≤ 64 := ⟨2 + K, by omega, by omega, by omega⟩
  rw [hE, hM]
  clear hE hM hK hK1 hD hD1 hTm ht hd hx
  have hV2 : (V : Int) < 18446744073709551616 := by omega
  clear hv
  have hT0 := hT.below hb0 hT.pos
  go_loopw [9, 10] (fun s9 s10 wr => ∃ j : Nat, j ≤ M ∧ s10 = .int .i64 j ∧ wr.ownsRow 0 63 2 s9 j (cellsP (ptZ (evenL T E V j))) ∧ Hid (∀ g, s9.ownBlock = some g → w0.heap.size ≤ g) ∧ Below w0.heap.size w0 wr) (fun _ s10 _ => 64 - (intOf s10).toNat)
  case atStart => exact ⟨0, by omega, rfl, World.ownsRow_nil _ _ _ _, Lib.hid fun g hg => by simp [Value.ownBlock] at hg, Below.refl _ _⟩
  case round =>
    obtain ⟨j, hj, rfl, hown, hfr, hbel⟩ := hrel
    by_cases hlt : j < M
    · have hlti : (j : Int) < (M : Int) := by omega
      obtain ⟨Q, hQ⟩ : ∃ Q : Nat, Q = j * E := ⟨_, rfl⟩
      have hQ2 : Q ≤ 64000 := by rw [hQ]; exact Nat.le_trans (Nat.mul_le_mul (show j ≤ 64 by omega) hE2) (by decide)
      have hQi : (j : Int) * (E : Int) = (Q : Int) := by rw [hQ]; simp
      clear hQ
      have hQ2i : (Q : Int) ≤ 64000 := by omega
      have hcz : cellsP (ptZ (evenL T E V j)) ++ [.int .i64 (T + (Q : Int)), .int .u64 (V : Nat)] = cellsP (ptZ (evenL T E V (j + 1))) := by
        rw [evenL_succ, ← cellsP_app', hQi]
      have Hcz := Lib.hid hcz
      clear hcz
      have h63 : j + 1 ≤ maxLen := by unfold maxLen; omega
      have hby : (j + 1) * 16 ≤ 140737488355328 := by omega
      go_upto_region 9 with (at_builtin; refine wpList_append_fp rfl _ _ 51 rfl 0 63 i0 (.agg #[.int .i64 0, .int .u64 0]) 2 16 Tryd.underlying51 hi hz0 hz1 hz2 rfl (by decide) _ _ _ rfl (hown.alloc _) ⟨_, 0, none⟩ 1 1 [.int .i64 (T + (Q : Int)), .int .u64 (V : Nat)] rfl rfl (World.news_of_block (heap_alloc_new wr _)) (by simp [Value.oneCell']) h63 hby (Nat.zero_le _) ?_; intro v2 w6 ho2 hgr2 _ hbk2)
      have hgr3 : (wr.alloc (.cells #[.int .i64 (T + (Q : Int)), .int .u64 (V : Nat)] 63)).grownBy w6 u9.ownBlock := hgr2
      have hbk3 : v2.ownBlock = u9.ownBlock ∨ v2.ownBlock = some (wr.alloc (.cells #[.int .i64 (T + (Q : Int)), .int .u64 (V : Nat)] 63)).heap.size := hbk2
      clear hgr2 hbk2
      rw [Hcz.out] at ho2
      have hwa : Below wr.heap.size wr (wr.alloc (.cells #[.int .i64 (T + (Q : Int)), .int .u64 (V : Nat)] 63)) := (Below.refl _ _).alloc (Nat.le_refl _) _
      have hs := hbel.size
      have hch3 : Chg (fun k => some k = u9.ownBlock) wr w6 := (Chg.of_below _ hwa).trans (Chg.grown hgr3) (fun _ _ x => x)
      have hbel3 : Below w0.heap.size w0 w6 := hbel.trans (hch3.below hs (fun k hk hf => by have := hfr.out k hf.symm; omega))
      have hfr3 : ∀ g, v2.ownBlock = some g → w0.heap.size ≤ g := fun g hg => by
        rcases hbk3 with h | h
        · exact hfr.out g (by rw [← h]; exact hg)
        · rw [h] at hg; have h9 := Option.some.inj hg
          have := hwa.size; omega
      have Hfr3 := Lib.hid hfr3
      clear hgr3 hbk3 hwa hch3 hfr3 hbel hfr hown hs
      go_wp2
      go_roundw
      case rel => exact ⟨j + 1, by omega, by go_num, ho2, Hfr3, hbel3⟩
      case measure => simp [intOf]; omega
    · have hlti : ¬ (j : Int) < (M : Int) := by omega
      obtain rfl : j = M := by omega
      have hEi : 1 ≤ (E : Int) ∧ (E : Int) ≤ 1000 := by omega
      have hwf : FitP (evenL T E V j) := even_fit T E V j (by omega) (by omega) hEi.1 hEi.2 hM2 (by omega)
      obtain ⟨g, cap, rfl, _, hc1, _⟩ := owns_form hown (by omega)
      have hp := pairs_own hown
      have hr := hp.rowP (wf_fit hwf)
      have hr2 := (hp.take 2).rowP (wf_drop (wf_fit hwf) 0 2)
      rw [← ptZ_take, evenL_take _ _ _ _ hM1] at hr2
      obtain ⟨q, hq⟩ : ∃ q, j = q + 2 := ⟨j - 2, by omega⟩
      obtain ⟨N, hN⟩ : ∃ N, (encBits (evenL T E V 2)).length = N := ⟨_, rfl⟩
      have hev := (even_keep T E V q hEi).2.2
      rw [← hq, hN] at hev
      have hN1 := even_bits T E V
      rw [hN] at hN1
      have hN2 : N ≤ 290 := by rw [← hN]; exact Nat.le_trans (encB_len _ _ _) (by rw [evenL_len]; decide)
      obtain ⟨e1, z1, z2, g1⟩ := even_str (evenL T E V j) (by rw [evenL_len]; omega) (by rw [evenL_len]; omega) (even_asc _ _ _ _ hEi.1) _ hev (by omega)
      obtain ⟨e2, y1, y2, g2⟩ := even_str (evenL T E V 2) (by rw [evenL_len]; omega) (by rw [evenL_len]; omega) (even_asc _ _ _ _ hEi.1) _ hN hN1
      have hTr := hT0.below hbel hT0.pos
      have EN1 := cenc_any (some ⟨g, 0, none⟩) j cap (evenL T E V j) (evenL_len _ _ _ _) (by omega) wr hTr hr
      have EN2 := fun W hW hR => cenc_any (some ⟨g, 0, none⟩) 2 cap (evenL T E V 2) (evenL_len _ _ _ _) (by omega) W hW hR
      obtain ⟨S1, hS1⟩ : ∃ S, mkS (encS (evenL T E V j)) = S := ⟨_, rfl⟩
      obtain ⟨S2, hS2⟩ : ∃ S, mkS (encS (evenL T E V 2)) = S := ⟨_, rfl⟩
      rw [e1, hS1] at EN1
      rw [e2, hS2] at EN2
      rw [hS1] at z1 z2 g1
      rw [hS2] at y1 y2 g2
      have MA := fun W => many_any S1 z1 z2 (N + 2 * q) (by omega) g1 W
      have MB := fun W => many_any S2 y1 y2 N (by omega) g2 W
      have Hqi : Hid ((j : Int) - 2 = (q : Int)) := Lib.hid (by omega)
      have hq62 : (q : Int) ≤ 62 := by omega
      have hNi : (N : Int) ≤ 290 := by omega
      have hji : (j : Int) ≤ 64 := by omega
      have hci : (2 : Int) ≤ (cap : Int) := by omega
      have hz1i : ¬ (S1.size : Int) < 4 := by omega
      have hy1i : ¬ (S2.size : Int) < 4 := by omega
      clear hS1 hS2 e1 e2 hev hN g1 g2 hown hp hq hwf
      go_upto_region 12 with (go_at_call 25; refine EN1.mono ?_; rintro e w1 ⟨rfl, hb1⟩)
      have EN3 := EN2 w1 (hTr.below hb1 hTr.pos) (hr2.below hb1)
      clear EN1 EN2
      go_upto_region 13 with (go_at_call 25; refine EN3.mono ?_; rintro e w2 ⟨rfl, hb2⟩)
      have hb3 := below_tr hb0 (below_tr hbel (below_tr hb1 hb2))
      clear EN3 hb1 hb2
      clear hlt hlti hj hr hr2 hTr hEi hT1 hT2 hV2 hE1 hE2
      go_upto_region 15 with (fail)
      have hqi := Hqi.out
      have tok : True := trivial
      have MA2 := MA w2
      clear MA
      go_wp2_with (first
        | (go_at_call 32; have _t := tok; clear tok; refine MA2.mono ?_; rintro e w5 ⟨rfl, hb5⟩; have MB2 := MB w5; clear MB MA2)
        | (go_at_call 32; refine MB2.mono ?_; rintro e w6 ⟨rfl, hb6⟩))
      go_ret
      exact ⟨rfl, below_tr hb3 (below_tr hb5 hb6)⟩
end Go.Proofs.YtdegmeclcbndgaaDoor
