/- The document's decoder of messages. -/
import Derived.Test.YtmaebileagfdaaaWrD
import Derived.Test.YtmaebileagfdaaaWrK
import Derived.Test.YtmaebileagfdaaaWrQ
import Derived.BigRegion
import Derived.Deep.RegionLaw
import Derived.Deep.OwnRows
import Derived.Deep.RegionHeld3
namespace Go.Proofs.Ytmaebileagfdaaa
open Go.RowKit Dig Wr

/-- The message as the document reads it. -/
theorem msgP_doc {d l l2 l3 : List UInt8} {acc : List Nat} {e C e2 e3 : Nat} {rs : List ByteArray} {t : List UInt8} (h1 : numsR 8 d 0 = (acc, l, e)) (hC : acc.getD 7 0 = C)
    (h2 : textsR C l (inMust e (decide (C ≤ 4)) 3) = (rs, l2, e2)) (h3 : inText l2 e2 65536 = (t, l3, e3)) : (msgP d = if e3 = 0 ∧ l3 = [] then some (mk acc rs (mkS t)) else none) ∧ (e3 = 0 → ∀ i, acc.getD i 0 ≤ 4294967295) := by
  have hbad : e2 ≠ 0 → e3 ≠ 0 := fun h => by
    unfold inText at h3
    rw [if_pos h] at h3
    simp only [Prod.mk.injEq] at h3
    omega
  have bad2 : inMust e (decide (C ≤ 4)) 3 ≠ 0 → e3 ≠ 0 := fun h => by
    rw [textsR_bad _ _ _ h] at h2
    simp only [Prod.mk.injEq] at h2
    exact hbad (by omega)
  cases hn : nums 8 d with
  | none =>
    have he : e ≠ 0 := by have := numsR_none 8 d hn; rw [h1] at this; exact this
    have h9 : e3 ≠ 0 := bad2 (by unfold inMust; rw [if_neg (by omega)]; exact he)
    refine ⟨?_, fun h => absurd h h9⟩
    unfold msgP
    rw [hn, if_neg (by omega)]
  | some y =>
    obtain ⟨xs, r⟩ := y
    have h5 := numsR_some _ _ _ _ hn
    rw [h1] at h5
    simp only [Prod.mk.injEq] at h5
    obtain ⟨rfl, rfl, rfl⟩ := h5
    refine ⟨?_, fun _ i => ?_⟩
    · unfold msgP
      rw [hn]
      simp only
      rw [hC]
      by_cases h4 : 4 < C
      · rw [if_pos h4, if_neg (fun h => bad2 (by unfold inMust; rw [if_pos ⟨rfl, decide_eq_false (by omega)⟩]; decide) h.1)]
      · rw [if_neg h4]
        have hm : inMust 0 (decide (C ≤ 4)) 3 = 0 := by unfold inMust; simp; omega
        rw [hm] at h2
        cases ht : texts C l with
        | none =>
          have h6 := textsR_none _ _ ht
          rw [h2] at h6
          simp only
          rw [if_neg (fun h => hbad h6 h.1)]
        | some z =>
          obtain ⟨ys, r2⟩ := z
          have h6 := textsR_some _ _ _ _ ht
          rw [h2] at h6
          simp only [Prod.mk.injEq] at h6
          obtain ⟨rfl, rfl, rfl⟩ := h6
          simp only
          have h7 : inText l2 0 65536 = ((getText l2 65536).1, l2.drop (getText l2 65536).2.1, (getText l2 65536).2.2) := by unfold inText; simp
          rw [h3] at h7
          simp only [Prod.mk.injEq] at h7
          obtain ⟨rfl, rfl, rfl⟩ := h7
          have h8 := (getText_facts (l := l2) (most := 65536) (t := (getText l2 65536).1) (k := (getText l2 65536).2.1) (e := (getText l2 65536).2.2) rfl).1
          have h9 : (l2.drop (getText l2 65536).2.1 = []) ↔ l2.length = (getText l2 65536).2.1 := by
            rw [List.drop_eq_nil_iff]; omega
          simp only [h9]
    · rw [List.getD_eq_getElem?_getD]
      cases h : acc[i]? with
      | none => simp
      | some x => exact nums_le _ _ _ _ hn x (List.mem_of_getElem? h)
/-- The cells of a message. -/
def hdm (m : Msg) (v7 v8 : Value) : List Value := [.int .i64 m.k, .int .i64 m.e, .int .i64 m.b, .int .i64 m.l, .int .i64 m.la, .int .i64 m.ap, .int .u32 (m.su : Nat), v7, v8]
/-- One more in the row: the blocks of ks are not the row's. -/
theorem row_more {w w1 wa w2 : World} {B : Nat} {ks : List Nat} {v1 v2 : Value} (hbel : Below B w w1) (hB : B ≤ w.heap.size) (hks : ∀ k ∈ ks, k < w1.heap.size) (hfr : ∀ g, v1.ownBlock = some g → B ≤ g ∧ g ∉ ks)
    (hc : Chg (fun _ => False) w1 wa) (hgr : wa.grownBy w2 v1.ownBlock) (hbk : v2.ownBlock = v1.ownBlock ∨ v2.ownBlock = some wa.heap.size) :
    Chg (fun k => some k = v1.ownBlock) w1 w2 ∧ (∀ g, v2.ownBlock = some g → B ≤ g ∧ g ∉ ks) ∧ Below B w w2 := by
  have h1 := hbel.size
  have hs := hc.size
  have hch : Chg (fun k => some k = v1.ownBlock) w1 w2 := (hc.mono (fun _ _ x => x.elim)).trans (Chg.grown hgr) (fun _ _ x => x)
  refine ⟨hch, fun g hg => ?_, hbel.trans (hch.below (Nat.le_trans hB h1) (fun k hk e => by have := (hfr k e.symm).1; omega))⟩
  rcases hbk with h | h
  · exact hfr g (by rw [← h]; exact hg)
  · rw [h] at hg
    have h9 := Option.some.inj hg
    refine ⟨by omega, fun hm => ?_⟩
    have := hks g hm
    omega
theorem wrap_u32_nat (n : Nat) : ∃ m : Nat, IntKind.u32.wrap (n : Int) = (m : Int) ∧ (n ≤ 4294967295 → m = n) := by
  refine ⟨n % 4294967296, ?_, fun h => by omega⟩
  simp [IntKind.wrap, IntKind.bits, IntKind.signed]
theorem wrap_i64_nat (n : Nat) (h : n ≤ 4294967295) : IntKind.i64.wrap (n : Int) = (n : Int) := by
  rw [IntKind.wrap_i64]; omega
/-- Eight numbers, of which the first ones are laid. -/
def row8 (acc : List Nat) : List Value := (List.range 8).map fun i => .int .u64 (acc.getD i 0 : Nat)
theorem row8_set (acc : List Nat) (v i : Nat) (h : acc.length = i) (h8 : i < 8) : (row8 acc).set i (.int .u64 (v : Nat)) = row8 (acc ++ [v]) := by
  unfold row8
  simp only [getD_app, h]
  rcases (by omega : i = 0 ∨ i = 1 ∨ i = 2 ∨ i = 3 ∨ i = 4 ∨ i = 5 ∨ i = 6 ∨ i = 7) with rfl | rfl | rfl | rfl | rfl | rfl | rfl | rfl <;> simp [List.range, List.range.loop]
theorem inNum_len (l : List UInt8) (e : Nat) : (inNum l e).2.1.length ≤ l.length := by
  unfold inNum
  split
  · simp
  · simp only [List.length_drop]; omega
theorem inText_len (l : List UInt8) (e : Nat) (m : Int) : (inText l e m).2.1.length ≤ l.length := by
  unfold inText
  split
  · simp
  · simp only [List.length_drop]; omega
theorem row8_get (acc : List Nat) {j : Nat} (h : j < 8) : (row8 acc)[j]? = some (.int .u64 (acc.getD j 0 : Nat)) := by
  unfold row8
  rw [List.getElem?_map, List.getElem?_eq_getElem (by simpa using h)]
  simp
/-- What stands ahead of each round of the document's second loop. -/
structure RdAt (w wt : World) (p x b r C E : Nat) (l : List UInt8) (m : Msg) (v : Value) : Prop where
  ex : ∃ (i : Nat) (rs : List ByteArray) (v7 : Value) (l2 : List UInt8) (e2 : Nat), i ≤ C ∧ v = .int .u64 i ∧ l2.length ≤ 100000 ∧ Hid (rs.length = i) ∧ Hid (textsR C l E = (rs ++ (textsR (C - i) l2 e2).1, (textsR (C - i) l2 e2).2)) ∧ Hid (e2 = 0 → C ≤ 4) ∧ InAt wt x l2 e2 ∧ wt.cell? ⟨b, 7, none⟩ = some (.int .u64 (C : Nat)) ∧ RowV wt r (hdm m v7 (.string ByteArray.empty)) ∧ RowV wt p (hd9 [] (.slice none 0 0) (.string ByteArray.empty)) ∧ wt.ownsRow 0 9 1 v7 i (rs.map Value.string) ∧ Hid (∀ g, v7.ownBlock = some g → w.heap.size ≤ g ∧ g ∉ [p, x, b, r]) ∧ Below w.heap.size w wt

set_option maxRecDepth 100000 in
set_option maxHeartbeats 4000000 in
theorem rdecode_any (s : ByteArray) (hs : s.size ≤ 100000) (w : World) :
    Calls Try.prog 33 #[.string s] w (DeOut w (decW s.data.toList)) := by
  obtain ⟨k, d, n, e, hG⟩ : ∃ k d n e, Hid (Frm.get s.data.toList = (k, d, n, e)) := ⟨_, _, _, _, Lib.hid rfl⟩
  have FG := fun W => rfget_any s (by omega) W
  rw [hG.out] at FG
  unfold fvals at FG
  simp only at FG
  have h0 := RowV.new w (hd9 [] (.slice none 0 0) (.string ByteArray.empty)) 80
  have hb0 : Below w.heap.size w (w.alloc (.cells (hd9 [] (.slice none 0 0) (.string ByteArray.empty)).toArray 80)) := (Below.refl _ _).alloc (Nat.le_refl _) _
  go_enter Try.func33, Try.ntmps33
  go_upto_region 2 with (go_at_call 27; refine (FG _).mono ?_; rintro y w1 ⟨rfl, hb1⟩)
  have h1 := h0.below hb1
  have hb01 := below_tr hb0 hb1
  clear h0 hb0 hb1 FG
  have ML : ∀ W p v0 v1 v2 v3 v4 v5 v6 v7 v8, RowV W p [v0, v1, v2, v3, v4, v5, v6, v7, v8] → (loadVar 80 ⟨p, 0, none⟩).run Try.prog W = .ok (.agg #[v0, v1, v2, v3, v4, v5, v6, v7, v8]) W := fun W p v0 v1 v2 v3 v4 v5 v6 v7 v8 h => h.load _ _ Try.underlying80 rfl (by kernel_rfl)
  obtain ⟨p, hp⟩ : ∃ p, Hid (p = w.heap.size) := ⟨_, Lib.hid rfl⟩
  obtain ⟨q, hq⟩ : ∃ q, Hid (q = w1.heap.size) := ⟨_, Lib.hid rfl⟩
  have hx := RowV.new w1 [.int .i64 (k : Nat), .string (mkS d)] 42
  have hba : Below w1.heap.size w1 (w1.alloc (.cells #[.int .i64 (k : Nat), .string (mkS d)] 42)) := (Below.refl _ _).alloc (Nat.le_refl _) _
  obtain ⟨W2, hW2⟩ : ∃ W2, W2 = w1.alloc (.cells #[.int .i64 (k : Nat), .string (mkS d)] 42) := ⟨_, rfl⟩
  rw [← hW2] at hba ⊢
  have hx2 : RowV W2 w1.heap.size [.int .i64 (k : Nat), .string (mkS d)] := by rw [hW2]; exact hx
  have h2 := h1.below hba
  have hb02 := below_tr hb01 hba
  rw [← hp.out] at h2 ⊢
  rw [← hq.out] at hx2 ⊢
  have hpw : w.heap.size ≤ p := by rw [hp.out]; exact Nat.le_refl _
  clear hW2 hx h1 hba hb01
  have q0 := (hx2 0 _ rfl).1
  have q1 := (hx2 1 _ rfl).1
  have fin : ∀ (W W9 : World) (r9 : RowV W9 p (hd9 [] (.slice none 0 0) (.string ByteArray.empty))) (hb : Below w.heap.size w W) (c9 : Chg (fun k => k = p) W W9) (e' : Nat) (hd : decW s.data.toList = (e', zm)), DeOut w (decW s.data.toList) (.returned (.tuple #[.agg (hd9 [] (.slice none 0 0) (.string ByteArray.empty)).toArray, .int .i64 (e' : Nat)])) W9 := by
    intro W W9 r9 hb c9 e' hd
    rw [hd]
    exact ⟨Chg.below_tr hb c9 (fun k hk e => by omega), none, 0, 0, rfl, rfl, World.ownsRow_nil _ _ _ _⟩
  have Fin := Lib.hid fin
  clear fin
  by_cases he : e = 0
  · subst he
    by_cases hk : k = 7
    · have hki : (k : Int) = 7 := by omega
      by_cases hn : n < s.size
      · have hni : (n : Int) < (s.size : Int) := by omega
        have hd : Hid (decW s.data.toList = (6, zm)) := Lib.hid (by unfold decW; rw [hG.out]; simp only; rw [if_neg (by omega), if_neg (by omega), if_pos (by rw [← size_toList]; exact hn)])
        have b0 := (h2 0 _ rfl).1
        have z0 := (h2 0 _ rfl).2
        have b1 := (h2 1 _ rfl).1
        have z1 := (h2 1 _ rfl).2
        have b2 := (h2 2 _ rfl).1
        have z2 := (h2 2 _ rfl).2
        have b3 := (h2 3 _ rfl).1
        have z3 := (h2 3 _ rfl).2
        have b4 := (h2 4 _ rfl).1
        have z4 := (h2 4 _ rfl).2
        have b5 := (h2 5 _ rfl).1
        have z5 := (h2 5 _ rfl).2
        have b6 := (h2 6 _ rfl).1
        have z6 := (h2 6 _ rfl).2
        have b7 := (h2 7 _ rfl).1
        have z7 := (h2 7 _ rfl).2
        have b8 := (h2 8 _ rfl).1
        have z8 := (h2 8 _ rfl).2
        go_wp2
        generalize hW9 : (((((((((W2.setCell ⟨p, 0, none⟩ _).setCell ⟨p, 1, none⟩ _).setCell ⟨p, 2, none⟩ _).setCell ⟨p, 3, none⟩ _).setCell ⟨p, 4, none⟩ _).setCell ⟨p, 5, none⟩ _).setCell ⟨p, 6, none⟩ _).setCell ⟨p, 7, none⟩ _).setCell ⟨p, 8, none⟩ _) = W9
        obtain ⟨r9, c9, _⟩ := h2.set9 rfl _ _ _ _ _ _ _ _ _ W9 hW9.symm
        refine bodyPost_ret (results_cell_tmp2 rfl _ _ p _ rfl (ML W9 _ _ _ _ _ _ _ _ _ _ r9)) rfl ?_
        exact Fin.out W2 W9 r9 hb02 c9 6 hd.out
      · have hni : ¬ (n : Int) < (s.size : Int) := by omega
        have hdl : d.length ≤ 100000 := by
          have := get_len s.data.toList
          rw [hG.out, ← size_toList] at this
          simp only at this
          omega
        have hd : Hid (decW s.data.toList = match msgP d with
          | none => (3, zm)
          | some m => if chk m = 0 then (0, m) else (3, zm)) := Lib.hid (by unfold decW; rw [hG.out]; simp only; rw [if_neg (by omega), if_neg (by omega), if_neg (by rw [← size_toList]; exact hn)]; rfl)
        go_upto_region 9 with (fail)
        have hI2 : InAt (W2.alloc (.cells #[.string (mkS d), .int .i64 0] 103)) W2.heap.size d 0 := RowV.new W2 [.string (mkS d), .int .i64 0] _
        have hba2 : Below W2.heap.size W2 (W2.alloc (.cells #[.string (mkS d), .int .i64 0] 103)) := (Below.refl _ _).alloc (Nat.le_refl _) _
        obtain ⟨W3, hW3⟩ : ∃ W3, Hid (W3 = W2.alloc (.cells #[.string (mkS d), .int .i64 0] 103)) := ⟨_, Lib.hid rfl⟩
        obtain ⟨x, hxx⟩ : ∃ x, Hid (x = W2.heap.size) := ⟨_, Lib.hid rfl⟩
        obtain ⟨b, hbb⟩ : ∃ b, Hid (b = W3.heap.size) := ⟨_, Lib.hid rfl⟩
        have hpx : p < x := by rw [hxx.out]; exact h2.lt (by simp [hd9])
        rw [← hW3.out] at hI2 hba2 ⊢
        rw [← hxx.out] at hI2 ⊢
        have hxb : x < b := by rw [hbb.out]; exact RowV.lt hI2 (by simp)
        have MK8 : ∀ W : World, (Instr.makeSlice 104 (.int .i64 8) (.int .i64 8)).run Try.prog W = .ok (.slice (some ⟨W.heap.size, 0, none⟩) 8 8) (W.alloc (.cells (row8 []).toArray 60)) := fun W => by
          kernel_rfl
        go_upto_region 10 with (fail)
        have h3 := h2.below hba2
        have hb03 := below_tr hb02 hba2
        have hba3 : Below W3.heap.size W3 (W3.alloc (.cells (row8 []).toArray 60)) := (Below.refl _ _).alloc (Nat.le_refl _) _
        have hR4 := RowV.new W3 (row8 []) 60
        have hI4 := RowV.below hI2 hba3
        have h4 := h3.below hba3
        have hb04 := below_tr hb03 hba3
        obtain ⟨W4, hW4⟩ : ∃ W4, W4 = W3.alloc (.cells (row8 []).toArray 60) := ⟨_, rfl⟩
        rw [← hW4] at hR4 hI4 h4 hb04 ⊢
        rw [← hbb.out] at hR4 ⊢
        clear hW4 hba3 hW3 hba2 hb03 h3 hI2 h2 hb02 q0 q1 hx2
        go_wp2
        go_loopw [9] (fun v9 wr => ∃ (j : Nat) (acc : List Nat) (l : List UInt8) (e : Nat), j ≤ 8 ∧ v9 = .int .i64 j ∧ l.length ≤ 100000 ∧ Hid (acc.length = j) ∧ Hid (numsR 8 d 0 = (acc ++ (numsR (8 - j) l e).1, (numsR (8 - j) l e).2)) ∧ InAt wr x l e ∧ RowV wr b (row8 acc) ∧ RowV wr p (hd9 [] (.slice none 0 0) (.string ByteArray.empty)) ∧ Below w.heap.size w wr) (fun v9 _ => 8 - (intOf v9).toNat)
        case atStart => exact ⟨0, [], d, 0, by omega, rfl, hdl, Lib.hid rfl, Lib.hid rfl, hI4, hR4, h4, hb04⟩
        case round =>
          obtain ⟨j, acc, l, e, hj, rfl, hl, hal, hnu, hI, hR, hB, hbel⟩ := hrel
          by_cases hlt : j < 8
          · have hji : (j : Int) < 8 := by omega
            go_upto_region 14 with (go_at_call 51; refine (innum_any x l e hl _ hI).mono ?_; rintro y w1 ⟨rfl, hI1, hc1⟩; have hR1 := hR.keep hc1 (by omega); have c8 := (hR1 j _ (row8_get acc hlt)).1; have z8 := (hR1 j _ (row8_get acc hlt)).2)
            have hB1 := hB.keep hc1 (by omega)
            have hR2 := hR1.set j (by simp [row8]; omega) (.int .u64 ((inNum l e).1 : Nat))
            rw [row8_set acc _ j hal.out hlt] at hR2
            have hcs := Chg.setCell w1 ⟨b, j, none⟩ (.int .u64 ((inNum l e).1 : Nat))
            have hB2 := hB1.keep hcs (by simp only; omega)
            have hI2 := RowV.keep hI1 hcs (by simp only; omega)
            have hbel2 := Chg.below_tr (Chg.below_tr hbel hc1 (fun k hk e => by omega)) hcs (fun k hk e => by simp only at e; omega)
            have hg8 : (row8 (acc ++ [(inNum l e).1]))[j]? = some (.int .u64 ((inNum l e).1 : Nat)) := by
              rw [row8_get _ hlt, getD_app, if_pos hal.out.symm]
            have c9 := (hR2 j _ hg8).1
            obtain ⟨W5, hW5⟩ : ∃ W5, Hid (W5 = w1.setCell ⟨b, j, none⟩ (.int .u64 ((inNum l e).1 : Nat))) := ⟨_, Lib.hid rfl⟩
            rw [← hW5.out] at hR2 hB2 hI2 hbel2 c9 ⊢
            clear hW5 hcs hB1 hI1 hR1 c8 z8 hc1 hI hR hB hbel hg8
            obtain ⟨v1, l1, e1, hN⟩ : ∃ v1 l1 e1, Hid (inNum l e = (v1, l1, e1)) := ⟨_, _, _, Lib.hid rfl⟩
            have hl1 : l1.length ≤ 100000 := by
              have := inNum_len l e
              rw [hN.out] at this
              simp only at this
              omega
            rw [hN.out] at c9 hR2 hI2
            simp only at c9 hR2 hI2
            have hnu2 : Hid (numsR 8 d 0 = ((acc ++ [v1]) ++ (numsR (8 - (j + 1)) l1 (inMust e1 (decide (v1 ≤ 4294967295)) 3)).1, (numsR (8 - (j + 1)) l1 (inMust e1 (decide (v1 ≤ 4294967295)) 3)).2)) := Lib.hid (by
              rw [hnu.out, show 8 - j = (8 - (j + 1)) + 1 from by omega]
              conv => lhs; unfold numsR
              rw [hN.out]; simp)
            go_upto_region 12 with (go_at_call 52; refine (inmust_any x l1 e1 _ 3 _ hI2).mono ?_; rintro y w6 ⟨⟨vv, rfl⟩, hI3, hc3⟩)
            have hdk : (decide ((v1 : Int) ≤ 4294967295)) = decide (v1 ≤ 4294967295) := by
              rw [Bool.eq_iff_iff]; simp; omega
            rw [hdk] at hI3
            have hR3 := hR2.keep hc3 (by omega)
            have hB3 := hB2.keep hc3 (by omega)
            have hbel3 := Chg.below_tr hbel2 hc3 (fun k hk e => by omega)
            clear hI2 hR2 hB2 hbel2 c9 hc3
            go_wp2
            go_roundw
            case rel => exact ⟨j + 1, acc ++ [v1], l1, _, by omega, by go_num, hl1, Lib.hid (by rw [List.length_append, hal.out]; rfl), hnu2, hI3, hR3, hB3, hbel3⟩
            case measure => simp [intOf]; omega
          · obtain rfl : j = 8 := by omega
            have hn8 : Hid (numsR 8 d 0 = (acc, l, e)) := Lib.hid (by rw [hnu.out]; simp [numsR])
            rw [show ((8 : Nat) : Int) = 8 from rfl]
            obtain ⟨C, hC⟩ : ∃ C, Hid (acc.getD 7 0 = C) := ⟨_, Lib.hid rfl⟩
            have c7 := (hR 7 _ (row8_get acc (by omega))).1
            rw [hC.out] at c7
            go_upto_region 16 with (go_at_call 52; refine (inmust_any x l e _ 3 _ hI).mono ?_; rintro y w6 ⟨⟨vv, rfl⟩, hI3, hc3⟩)
            have hdk : (decide ((C : Int) ≤ 4)) = decide (C ≤ 4) := by
              rw [Bool.eq_iff_iff]; simp; omega
            rw [hdk] at hI3
            have hR3 := hR.keep hc3 (by omega)
            have hB3 := hB.keep hc3 (by omega)
            have hbel3 := Chg.below_tr hbel hc3 (fun k hk e => by omega)
            clear hI hR hB hbel c7 hc3 hnu
            obtain ⟨E, hE⟩ : ∃ E, Hid (inMust e (decide (C ≤ 4)) 3 = E) := ⟨_, Lib.hid rfl⟩
            rw [hE.out] at hI3
            obtain ⟨a0, ha0⟩ : ∃ a, Hid (acc.getD 0 0 = a) := ⟨_, Lib.hid rfl⟩
            obtain ⟨a1, ha1⟩ : ∃ a, Hid (acc.getD 1 0 = a) := ⟨_, Lib.hid rfl⟩
            obtain ⟨a2, ha2⟩ : ∃ a, Hid (acc.getD 2 0 = a) := ⟨_, Lib.hid rfl⟩
            obtain ⟨a3, ha3⟩ : ∃ a, Hid (acc.getD 3 0 = a) := ⟨_, Lib.hid rfl⟩
            obtain ⟨a4, ha4⟩ : ∃ a, Hid (acc.getD 4 0 = a) := ⟨_, Lib.hid rfl⟩
            obtain ⟨a5, ha5⟩ : ∃ a, Hid (acc.getD 5 0 = a) := ⟨_, Lib.hid rfl⟩
            obtain ⟨a6, ha6⟩ : ∃ a, Hid (acc.getD 6 0 = a) := ⟨_, Lib.hid rfl⟩
            have c0 := (hR3 0 _ (row8_get acc (by omega))).1
            have c1 := (hR3 1 _ (row8_get acc (by omega))).1
            have c2 := (hR3 2 _ (row8_get acc (by omega))).1
            have c3 := (hR3 3 _ (row8_get acc (by omega))).1
            have c4 := (hR3 4 _ (row8_get acc (by omega))).1
            have c5 := (hR3 5 _ (row8_get acc (by omega))).1
            have c6 := (hR3 6 _ (row8_get acc (by omega))).1
            rw [ha0.out] at c0
            rw [ha1.out] at c1
            rw [ha2.out] at c2
            rw [ha3.out] at c3
            rw [ha4.out] at c4
            rw [ha5.out] at c5
            rw [ha6.out] at c6
            have hbn := World.new_ne w6 ⟨b, 0, none⟩ c0
            go_region_held3 (fun w' => w'.cell? ⟨b, 0, none⟩ = some (.int .u64 (a0 : Nat)) ∧ w'.cell? ⟨b, 1, none⟩ = some (.int .u64 (a1 : Nat)) ∧ w'.cell? ⟨b, 2, none⟩ = some (.int .u64 (a2 : Nat)) ∧ w'.cell? ⟨b, 3, none⟩ = some (.int .u64 (a3 : Nat)) ∧ w'.cell? ⟨b, 4, none⟩ = some (.int .u64 (a4 : Nat)) ∧ w'.cell? ⟨b, 5, none⟩ = some (.int .u64 (a5 : Nat)) ∧ w'.cell? ⟨b, 6, none⟩ = some (.int .u64 (a6 : Nat))) (go_keep) (fail)
            obtain ⟨z0, hz0⟩ : ∃ z, Hid (IntKind.i64.wrap (a0 : Int) = z) := ⟨_, Lib.hid rfl⟩
            obtain ⟨z1, hz1⟩ : ∃ z, Hid (IntKind.i64.wrap (a1 : Int) = z) := ⟨_, Lib.hid rfl⟩
            obtain ⟨z2, hz2⟩ : ∃ z, Hid (IntKind.i64.wrap (a2 : Int) = z) := ⟨_, Lib.hid rfl⟩
            obtain ⟨z3, hz3⟩ : ∃ z, Hid (IntKind.i64.wrap (a3 : Int) = z) := ⟨_, Lib.hid rfl⟩
            obtain ⟨z4, hz4⟩ : ∃ z, Hid (IntKind.i64.wrap (a4 : Int) = z) := ⟨_, Lib.hid rfl⟩
            obtain ⟨z5, hz5⟩ : ∃ z, Hid (IntKind.i64.wrap (a5 : Int) = z) := ⟨_, Lib.hid rfl⟩
            obtain ⟨z6, hz6, hz6'⟩ := wrap_u32_nat a6
            rw [hz0.out, hz1.out, hz2.out, hz3.out, hz4.out, hz5.out, hz6]
            obtain ⟨r, hr⟩ : ∃ r, Hid (r = w6.heap.size) := ⟨_, Lib.hid rfl⟩
            have hba7 : Below w6.heap.size w6 (w6.alloc (.cells (hdm ⟨z0, z1, z2, z3, z4, z5, z6, [], ByteArray.empty⟩ (.slice none 0 0) (.string ByteArray.empty)).toArray 80)).drew := below_tr ((Below.refl _ _).alloc (Nat.le_refl _) _) ⟨rfl, rfl, rfl, Nat.le_refl _, fun _ _ => rfl⟩
            have hM7 : RowV (w6.alloc (.cells (hdm ⟨z0, z1, z2, z3, z4, z5, z6, [], ByteArray.empty⟩ (.slice none 0 0) (.string ByteArray.empty)).toArray 80)).drew w6.heap.size (hdm ⟨z0, z1, z2, z3, z4, z5, z6, [], ByteArray.empty⟩ (.slice none 0 0) (.string ByteArray.empty)) := RowV.new w6 _ _
            obtain ⟨W7, hW7⟩ : ∃ W7, Hid (W7 = (w6.alloc (.cells (hdm ⟨z0, z1, z2, z3, z4, z5, z6, [], ByteArray.empty⟩ (.slice none 0 0) (.string ByteArray.empty)).toArray 80)).drew) := ⟨_, Lib.hid rfl⟩
            have hbr : b < r := by rw [hr.out]; exact RowV.lt hR3 (by simp [row8])
            rw [← hW7.out] at hba7 hM7
            rw [← hr.out] at hM7
            have c7 := ((RowV.below hR3 hba7) 7 _ (row8_get acc (by omega))).1
            rw [hC.out] at c7
            have hI7 := RowV.below hI3 hba7
            have hB7 := hB3.below hba7
            have hbel7 := below_tr hbel3 hba7
            show Exit.then _ _ _ _ (w6.alloc (.cells (hdm ⟨z0, z1, z2, z3, z4, z5, z6, [], ByteArray.empty⟩ (.slice none 0 0) (.string ByteArray.empty)).toArray 80)).drew
            rw [← hW7.out, ← hr.out]
            obtain ⟨ti, hi, hz0', hz1', hz2'⟩ := info_parts strinfo
            have hbx : b ≠ x := by omega
            clear hR3 hI3 hB3 hbel3 hba7 c0 c1 c2 c3 c4 c5 c6 hbn
            have hEC : E = 0 → C ≤ 4 := fun h => by
              have h1 := hE.out
              rw [h] at h1
              unfold inMust at h1
              rcases Nat.lt_or_ge 4 C with h2 | h2
              · exfalso
                split at h1
                · omega
                · rename_i h3; exact h3 ⟨h1, decide_eq_false (by omega)⟩
              · exact h2
            go_wp2
            go_loopw [11] (fun v11 wt => RdAt w wt p x b r C E l ⟨z0, z1, z2, z3, z4, z5, z6, [], ByteArray.empty⟩ v11) (fun v11 _ => C - (intOf v11).toNat)
            case atStart => exact ⟨0, [], .slice none 0 0, l, E, by omega, rfl, hl, Lib.hid rfl, Lib.hid rfl, Lib.hid hEC, hI7, c7, hM7, hB7, World.ownsRow_nil _ _ _ _, Lib.hid fun g hg => by simp [Value.ownBlock] at hg, hbel7⟩
            case round =>
              obtain ⟨i, rs, v7, l2, e2, hiC, rfl, hl2, hrl, htx, hec, hI, c7, hM, hB, hown, hfr, hbel⟩ := hrel
              clear hI7 hM7 hB7 hbel7
              obtain ⟨va, vc, rfl⟩ := ownslice_form hown
              have i0 := (hI 0 _ rfl).1
              have i1 := (hI 1 _ rfl).1
              by_cases hlt : i < C ∧ e2 = 0
              · obtain ⟨hlt, rfl⟩ := hlt
                have hC4 := hec.out rfl
                have hii : (i : Int) < (C : Int) := by omega
                go_upto_region 20 with (fail)
                obtain ⟨t, l3, e3, hT⟩ : ∃ t l3 e3, Hid (inText l2 0 65536 = (t, l3, e3)) := ⟨_, _, _, Lib.hid rfl⟩
                have hl3 : l3.length ≤ 100000 := by
                  have := inText_len l2 0 65536
                  rw [hT.out] at this
                  simp only at this
                  omega
                have IT := fun W h => intext_any x l2 0 65536 (by decide) (by decide) hl2 W h
                rw [hT.out] at IT
                simp only at IT
                have htx2 : Hid (textsR C l E = ((rs ++ [mkS t]) ++ (textsR (C - (i + 1)) l3 e3).1, (textsR (C - (i + 1)) l3 e3).2)) := Lib.hid (by
                  rw [htx.out, show C - i = (C - (i + 1)) + 1 from by omega]
                  conv => lhs; unfold textsR
                  rw [if_neg (by omega), hT.out]; simp)
                have hnews : ∀ W : World, ∀ (j : Nat) (u : Value), ([Value.string (mkS t)] : List Value)[j]? = some u → (W.alloc (.cells #[.string (mkS t)] 9)).cell? (Addr.add ⟨W.heap.size, 0, none⟩ j) = some u := by
                  intro W j u hu
                  match j, hu with
                  | 0, hu => simp at hu; subst hu; simp [Addr.add]
                  | j + 1, hu => simp at hu
                have Hnews := Lib.hid hnews
                have hone : ∀ u ∈ ([Value.string (mkS t)] : List Value), u.oneCell' = true := by
                  intro u hu; simp at hu; rcases hu with rfl; rfl
                have Hone := Lib.hid hone
                have H63 : Hid (i + 1 ≤ maxLen) := Lib.hid (by unfold maxLen; omega)
                have Hby : Hid ((i + 1) * 16 ≤ 140737488355328) := Lib.hid (by omega)
                have hId : InAt wr.drew x l2 0 := hI
                have hMd : RowV wr.drew r (hdm ⟨z0, z1, z2, z3, z4, z5, z6, [], ByteArray.empty⟩ (.slice va i vc) (.string ByteArray.empty)) := hM
                have hBd : RowV wr.drew p (hd9 [] (.slice none 0 0) (.string ByteArray.empty)) := hB
                have c7d : wr.drew.cell? ⟨b, 7, none⟩ = some (.int .u64 (C : Nat)) := c7
                have hownd : wr.drew.ownsRow 0 9 1 (.slice va i vc) i (rs.map Value.string) := hown
                have hbeld : Below w.heap.size w wr.drew := below_tr hbel ⟨rfl, rfl, rfl, Nat.le_refl _, fun _ _ => rfl⟩
                have m7 := (hM 7 _ rfl).1
                have hks : ∀ g, (Value.slice va i vc).ownBlock = some g → g ≠ x := fun g hg e => by have := (hfr.out g hg).2; simp [e] at this
                have Hks := Lib.hid hks
                clear hnews hone hks hI hM hB c7 hown hbel i0 i1
                go_region_law (first
                  | (refine step_append_fp rfl (.tmp 105) (.tmp 108) 78 rfl 0 9 ti (.string ⟨#[]⟩) 1 16 Try.underlying78 hi hz0' hz1' hz2' rfl (by decide) (.slice va i vc) i (rs.map Value.string) (by first | rfl | simp [Act.eval]) (hown2.alloc _) ⟨w2.heap.size, 0, none⟩ 1 1 [.string (mkS t)] (by first | rfl | simp [Act.eval]) rfl (Hnews.out w2) Hone.out H63.out Hby.out (Nat.zero_le _) ?_; intro v2 w3 ho hgr _ hbk; have hfm := own_form1 ho; obtain ⟨g2, cap2, rfl⟩ := hfm; have hqq := row_more (ks := [p, x, b, r]) hbel2 (Nat.le_refl _) (by simp; omega) hfr.out (Chg.alloc (fun _ => False) w2 _) hgr hbk; obtain ⟨hq1, hq2, hq3⟩ := hqq; have hM3 := hM2.keep hq1 (fun e => (hfr.out r e.symm).2 (by simp)); have m7' := (hM3 7 _ rfl).1; have n7' := (hM3 7 _ rfl).2)
                  | (go_simp; go_at_call 53; refine (IT _ hId).mono ?_; rintro y w2 ⟨rfl, hI2, hc2⟩; have hM2 := hMd.keep hc2 (by omega); have m72 := (hM2 7 _ rfl).1; have hrl2 := hM2.lt (by simp [hdm]); have hown2 := hc2.owns hownd Hks.out; have hbel2 := Chg.below_tr hbeld hc2 (fun k hk e => by omega); clear IT hId))
                all_goals
                  have hcs := Chg.setCell w3 ⟨r, 7, none⟩ (.slice (some ⟨g2, 0, none⟩) (i + 1) cap2)
                  have hset := hM3.set 7 (by simp [hdm]) (.slice (some ⟨g2, 0, none⟩) (i + 1) cap2)
                  have hown3 := hcs.owns ho (fun g hg e => (hq2 g hg).2 (by simp only at e; simp [e]))
                  have hmap : rs.map Value.string ++ [.string (mkS t)] = (rs ++ [mkS t]).map Value.string := by simp
                  rw [hmap] at hown3
                  have hI3 := RowV.keep (RowV.keep hI2 hq1 (fun e => (hfr.out x e.symm).2 (by simp))) hcs (by simp only; omega)
                  have hB3 := ((hBd.keep hc2 (by omega)).keep hq1 (fun e => (hfr.out p e.symm).2 (by simp))).keep hcs (by simp only; omega)
                  have c73 := hcs.cell (hq1.cell (hc2.cell c7d (by simp only; omega)) (fun e => (hfr.out b e.symm).2 (by simp))) (by simp only; omega)
                  have hbel3 := Chg.below_tr hq3 hcs (fun k hk e => by simp only at e; omega)
                  have hq4 := Lib.hid hq2
                  have hrl3 : Hid ((rs ++ [mkS t]).length = i + 1) := Lib.hid (by rw [List.length_append, hrl.out]; rfl)
                  have hec3 : Hid (e3 = 0 → C ≤ 4) := Lib.hid (fun _ => hC4)
                  clear hq1 hq2 hq3 hgr hbk ho hcs hM3 hM2 hBd hMd c7d hownd hbeld hI2 hc2 hown2 hbel2 hmap m7' n7' m72
                  go_wp2
                  go_roundw
                  case rel => exact ⟨i + 1, rs ++ [mkS t], _, l3, e3, by omega, by go_num, hl3, hrl3, htx2, hec3, hI3, c73, hset, hB3, hown3, hq4, hbel3⟩
                  case measure => simp [intOf]; omega
              · have hfin : Hid (textsR C l E = (rs, l2, e2)) := Lib.hid (by
                  rw [htx.out]
                  by_cases h : e2 = 0
                  · rw [show C - i = 0 from by omega]; simp [textsR]
                  · rw [textsR_bad _ _ _ h]; simp)
                obtain ⟨t, l3, e3, hT⟩ : ∃ t l3 e3, Hid (inText l2 e2 65536 = (t, l3, e3)) := ⟨_, _, _, Lib.hid rfl⟩
                have IT := fun W h => intext_any x l2 e2 65536 (by decide) (by decide) hl2 W h
                rw [hT.out] at IT
                simp only at IT
                have hown' := hown
                have hlast := msgP_doc hn8.out hC.out (by rw [hE.out]; exact hfin.out) hT.out
                have Hlast := Lib.hid hlast
                clear hlast
                have Hlt := Lib.hid hlt
                have hgo : ((i : Int) < (C : Int) ∧ ¬ (e2 : Int) = 0) ∨ ¬ (i : Int) < (C : Int) := by
                  rcases Nat.lt_or_ge i C with h1 | h1
                  · exact .inl ⟨by omega, fun h => hlt ⟨h1, by omega⟩⟩
                  · exact .inr (by omega)
                clear hlt Hlt hown' htx
                rcases hgo with ⟨hii, hei2⟩ | hii
                all_goals go_upto_region 21 with (fail)
                all_goals
                  go_upto_region 22 with (go_at_call 53; refine (IT _ hI).mono ?_; rintro y w8 ⟨rfl, hI8, hc8⟩; have hM8 := hM.keep hc8 (by omega); have m8 := (hM8 8 _ rfl).1; have n8 := (hM8 8 _ rfl).2)
                  have hcs := Chg.setCell w8 ⟨r, 8, none⟩ (.string (mkS t))
                  have hM9 : RowV (w8.setCell ⟨r, 8, none⟩ (.string (mkS t))) r (hdm ⟨z0, z1, z2, z3, z4, z5, z6, [], ByteArray.empty⟩ (.slice va i vc) (.string (mkS t))) := hM8.set 8 (by simp [hdm]) (.string (mkS t))
                  have hI9 := RowV.keep hI8 hcs (by simp only; omega)
                  have hB9 := (hB.keep hc8 (by omega)).keep hcs (by simp only; omega)
                  have hown9 := hcs.owns (hc8.owns hown (fun g hg e => (hfr.out g hg).2 (by simp [e]))) (fun g hg e => (hfr.out g hg).2 (by simp only at e; simp [e]))
                  have hbel9 := Chg.below_tr (Chg.below_tr hbel hc8 (fun k hk e => by omega)) hcs (fun k hk e => by simp only at e; omega)
                  obtain ⟨W9, hW9⟩ : ∃ W9, Hid (W9 = w8.setCell ⟨r, 8, none⟩ (.string (mkS t))) := ⟨_, Lib.hid rfl⟩
                  rw [← hW9.out] at hM9 hI9 hB9 hown9 hbel9 ⊢
                  clear hW9 hcs hI hM hB c7 hown hbel IT i0 i1 hc8 hM8 m8 n8 hI8
                  have x0 := (hI9 0 _ rfl).1
                  have x1 := (hI9 1 _ rfl).1
                  by_cases he3 : e3 = 0
                  · subst he3
                    by_cases hl9 : l3 = []
                    · subst hl9
                      have hle := Hlast.out.2 rfl
                      have ez0 : z0 = ((acc.getD 0 0 : Nat) : Int) := by rw [← hz0.out, ← ha0.out]; exact wrap_i64_nat _ (hle 0)
                      have ez1 : z1 = ((acc.getD 1 0 : Nat) : Int) := by rw [← hz1.out, ← ha1.out]; exact wrap_i64_nat _ (hle 1)
                      have ez2 : z2 = ((acc.getD 2 0 : Nat) : Int) := by rw [← hz2.out, ← ha2.out]; exact wrap_i64_nat _ (hle 2)
                      have ez3 : z3 = ((acc.getD 3 0 : Nat) : Int) := by rw [← hz3.out, ← ha3.out]; exact wrap_i64_nat _ (hle 3)
                      have ez4 : z4 = ((acc.getD 4 0 : Nat) : Int) := by rw [← hz4.out, ← ha4.out]; exact wrap_i64_nat _ (hle 4)
                      have ez5 : z5 = ((acc.getD 5 0 : Nat) : Int) := by rw [← hz5.out, ← ha5.out]; exact wrap_i64_nat _ (hle 5)
                      have ez6 : z6 = acc.getD 6 0 := by rw [ha6.out]; exact hz6' (by rw [← ha6.out]; exact hle 6)
                      have hmk : mk acc rs (mkS t) = ⟨z0, z1, z2, z3, z4, z5, z6, rs, mkS t⟩ := by unfold mk; rw [ez0, ez1, ez2, ez3, ez4, ez5, ez6]
                      have hmsg : msgP d = some ⟨z0, z1, z2, z3, z4, z5, z6, rs, mkS t⟩ := by rw [Hlast.out.1, if_pos ⟨rfl, rfl⟩, hmk]
                      have Hmsg := Lib.hid hmsg
                      have hn4 : i ≤ 4611686018427387904 := by have h1 := (msg_small hmsg).1; have h2 := hrl.out; simp only at h1; omega
                      obtain ⟨hrs, _⟩ := rowS_own hown9
                      have CK := rcheck_any ⟨z0, z1, z2, z3, z4, z5, z6, rs, mkS t⟩ (msg_small hmsg).2 va i vc hrl.out hn4 W9 hrs
                      unfold msgV at CK
                      simp only at CK
                      obtain ⟨G, hG2⟩ : ∃ G, Hid (chk ⟨z0, z1, z2, z3, z4, z5, z6, rs, mkS t⟩ = G) := ⟨_, Lib.hid rfl⟩
                      rw [hG2.out] at CK
                      clear ez0 ez1 ez2 ez3 ez4 ez5 ez6 hle hmk hmsg hz6' hrs
                      have hemp : (mkS []).toList.isEmpty = true := by rw [ByteArray.toList_eq, mkS_data]; rfl
                      simp only [hdm] at hM9
                      have mb0 := (hM9 0 _ rfl).1
                      have mb1 := (hM9 1 _ rfl).1
                      have mb2 := (hM9 2 _ rfl).1
                      have mb3 := (hM9 3 _ rfl).1
                      have mb4 := (hM9 4 _ rfl).1
                      have mb5 := (hM9 5 _ rfl).1
                      have mb6 := (hM9 6 _ rfl).1
                      have mb7 := (hM9 7 _ rfl).1
                      have mb8 := (hM9 8 _ rfl).1
                      by_cases hG0 : G = 0
                      · have hGi : (G : Int) = 0 := by omega
                        have hd2 : Hid (decW s.data.toList = (0, ⟨z0, z1, z2, z3, z4, z5, z6, rs, mkS t⟩)) := Lib.hid (by rw [hd.out, Hmsg.out]; simp only; rw [if_pos (by rw [hG2.out]; exact hG0)])
                        go_upto_region 24 with (go_at_call 54; refine CK.mono ?_; rintro y w10 ⟨rfl, hb10⟩)
                        have hM10 := hM9.below hb10
                        have hB10 := hB9.below hb10
                        have hbel10 := below_tr hbel9 hb10
                        have hown10 := (Chg.of_below (fun _ => False) hb10).owns hown9 (fun _ _ x => x)
                        clear hM9 hB9 hbel9 hown9 hb10 CK mb0 mb1 mb2 mb3 mb4 mb5 mb6 mb7 mb8
                        have pb0 := (hB10 0 _ rfl).1
                        have pz0 := (hB10 0 _ rfl).2
                        have pb1 := (hB10 1 _ rfl).1
                        have pz1 := (hB10 1 _ rfl).2
                        have pb2 := (hB10 2 _ rfl).1
                        have pz2 := (hB10 2 _ rfl).2
                        have pb3 := (hB10 3 _ rfl).1
                        have pz3 := (hB10 3 _ rfl).2
                        have pb4 := (hB10 4 _ rfl).1
                        have pz4 := (hB10 4 _ rfl).2
                        have pb5 := (hB10 5 _ rfl).1
                        have pz5 := (hB10 5 _ rfl).2
                        have pb6 := (hB10 6 _ rfl).1
                        have pz6 := (hB10 6 _ rfl).2
                        have pb7 := (hB10 7 _ rfl).1
                        have pz7 := (hB10 7 _ rfl).2
                        have pb8 := (hB10 8 _ rfl).1
                        have pz8 := (hB10 8 _ rfl).2
                        have mb0 := (hM10 0 _ rfl).1
                        have mz0 := (hM10 0 _ rfl).2
                        have mb1 := (hM10 1 _ rfl).1
                        have mz1 := (hM10 1 _ rfl).2
                        have mb2 := (hM10 2 _ rfl).1
                        have mz2 := (hM10 2 _ rfl).2
                        have mb3 := (hM10 3 _ rfl).1
                        have mz3 := (hM10 3 _ rfl).2
                        have mb4 := (hM10 4 _ rfl).1
                        have mz4 := (hM10 4 _ rfl).2
                        have mb5 := (hM10 5 _ rfl).1
                        have mz5 := (hM10 5 _ rfl).2
                        have mb6 := (hM10 6 _ rfl).1
                        have mz6 := (hM10 6 _ rfl).2
                        have mb7 := (hM10 7 _ rfl).1
                        have mz7 := (hM10 7 _ rfl).2
                        have mb8 := (hM10 8 _ rfl).1
                        have mz8 := (hM10 8 _ rfl).2
                        go_wp2
                        generalize hW10 : (((((((((w10.setCell ⟨p, 0, none⟩ _).setCell ⟨p, 1, none⟩ _).setCell ⟨p, 2, none⟩ _).setCell ⟨p, 3, none⟩ _).setCell ⟨p, 4, none⟩ _).setCell ⟨p, 5, none⟩ _).setCell ⟨p, 6, none⟩ _).setCell ⟨p, 7, none⟩ _).setCell ⟨p, 8, none⟩ _) = W10
                        obtain ⟨r9, c9, _⟩ := hB10.set9 rfl _ _ _ _ _ _ _ _ _ W10 hW10.symm
                        refine bodyPost_ret (results_cell_tmp2 rfl _ _ p _ rfl (ML W10 _ _ _ _ _ _ _ _ _ _ r9)) rfl ?_
                        rw [hd2.out]
                        exact ⟨Chg.below_tr hbel10 c9 (fun k hk e => by omega), va, i, vc, hrl.out, rfl, c9.owns hown10 (fun g hg e => (hfr.out g hg).2 (by simp [e]))⟩
                      · have hGi : ¬ (G : Int) = 0 := by omega
                        have hd2 : Hid (decW s.data.toList = (3, zm)) := Lib.hid (by rw [hd.out, Hmsg.out]; simp only; rw [if_neg (by rw [hG2.out]; exact hG0)])
                        go_upto_region 23 with (go_at_call 54; refine CK.mono ?_; rintro y w10 ⟨rfl, hb10⟩)
                        have hB10 := hB9.below hb10
                        have hbel10 := below_tr hbel9 hb10
                        clear hM9 hB9 hbel9 hown9 hb10 CK mb0 mb1 mb2 mb3 mb4 mb5 mb6 mb7 mb8
                        have pb0 := (hB10 0 _ rfl).1
                        have pz0 := (hB10 0 _ rfl).2
                        have pb1 := (hB10 1 _ rfl).1
                        have pz1 := (hB10 1 _ rfl).2
                        have pb2 := (hB10 2 _ rfl).1
                        have pz2 := (hB10 2 _ rfl).2
                        have pb3 := (hB10 3 _ rfl).1
                        have pz3 := (hB10 3 _ rfl).2
                        have pb4 := (hB10 4 _ rfl).1
                        have pz4 := (hB10 4 _ rfl).2
                        have pb5 := (hB10 5 _ rfl).1
                        have pz5 := (hB10 5 _ rfl).2
                        have pb6 := (hB10 6 _ rfl).1
                        have pz6 := (hB10 6 _ rfl).2
                        have pb7 := (hB10 7 _ rfl).1
                        have pz7 := (hB10 7 _ rfl).2
                        have pb8 := (hB10 8 _ rfl).1
                        have pz8 := (hB10 8 _ rfl).2
                        go_wp2
                        generalize hW10 : (((((((((w10.setCell ⟨p, 0, none⟩ _).setCell ⟨p, 1, none⟩ _).setCell ⟨p, 2, none⟩ _).setCell ⟨p, 3, none⟩ _).setCell ⟨p, 4, none⟩ _).setCell ⟨p, 5, none⟩ _).setCell ⟨p, 6, none⟩ _).setCell ⟨p, 7, none⟩ _).setCell ⟨p, 8, none⟩ _) = W10
                        obtain ⟨r9, c9, _⟩ := hB10.set9 rfl _ _ _ _ _ _ _ _ _ W10 hW10.symm
                        refine bodyPost_ret (results_cell_tmp2 rfl _ _ p _ rfl (ML W10 _ _ _ _ _ _ _ _ _ _ r9)) rfl ?_
                        exact Fin.out w10 W10 r9 hbel10 c9 3 hd2.out
                    · have hemp : (mkS l3).toList.isEmpty = false := by
                        rw [ByteArray.toList_eq, mkS_data]
                        cases l3 with
                        | nil => exact absurd rfl hl9
                        | cons a l => rfl
                      have hd2 : Hid (decW s.data.toList = (3, zm)) := Lib.hid (by rw [hd.out, Hlast.out.1, if_neg (fun h => hl9 h.2)])
                      have pb0 := (hB9 0 _ rfl).1
                      have pz0 := (hB9 0 _ rfl).2
                      have pb1 := (hB9 1 _ rfl).1
                      have pz1 := (hB9 1 _ rfl).2
                      have pb2 := (hB9 2 _ rfl).1
                      have pz2 := (hB9 2 _ rfl).2
                      have pb3 := (hB9 3 _ rfl).1
                      have pz3 := (hB9 3 _ rfl).2
                      have pb4 := (hB9 4 _ rfl).1
                      have pz4 := (hB9 4 _ rfl).2
                      have pb5 := (hB9 5 _ rfl).1
                      have pz5 := (hB9 5 _ rfl).2
                      have pb6 := (hB9 6 _ rfl).1
                      have pz6 := (hB9 6 _ rfl).2
                      have pb7 := (hB9 7 _ rfl).1
                      have pz7 := (hB9 7 _ rfl).2
                      have pb8 := (hB9 8 _ rfl).1
                      have pz8 := (hB9 8 _ rfl).2
                      go_wp2
                      generalize hW10 : (((((((((W9.setCell ⟨p, 0, none⟩ _).setCell ⟨p, 1, none⟩ _).setCell ⟨p, 2, none⟩ _).setCell ⟨p, 3, none⟩ _).setCell ⟨p, 4, none⟩ _).setCell ⟨p, 5, none⟩ _).setCell ⟨p, 6, none⟩ _).setCell ⟨p, 7, none⟩ _).setCell ⟨p, 8, none⟩ _) = W10
                      obtain ⟨r9, c9, _⟩ := hB9.set9 rfl _ _ _ _ _ _ _ _ _ W10 hW10.symm
                      refine bodyPost_ret (results_cell_tmp2 rfl _ _ p _ rfl (ML W10 _ _ _ _ _ _ _ _ _ _ r9)) rfl ?_
                      exact Fin.out W9 W10 r9 hbel9 c9 3 hd2.out
                  · have hei3 : ¬ (e3 : Int) = 0 := by omega
                    have hd2 : Hid (decW s.data.toList = (3, zm)) := Lib.hid (by rw [hd.out, Hlast.out.1, if_neg (fun h => he3 h.1)])
                    have pb0 := (hB9 0 _ rfl).1
                    have pz0 := (hB9 0 _ rfl).2
                    have pb1 := (hB9 1 _ rfl).1
                    have pz1 := (hB9 1 _ rfl).2
                    have pb2 := (hB9 2 _ rfl).1
                    have pz2 := (hB9 2 _ rfl).2
                    have pb3 := (hB9 3 _ rfl).1
                    have pz3 := (hB9 3 _ rfl).2
                    have pb4 := (hB9 4 _ rfl).1
                    have pz4 := (hB9 4 _ rfl).2
                    have pb5 := (hB9 5 _ rfl).1
                    have pz5 := (hB9 5 _ rfl).2
                    have pb6 := (hB9 6 _ rfl).1
                    have pz6 := (hB9 6 _ rfl).2
                    have pb7 := (hB9 7 _ rfl).1
                    have pz7 := (hB9 7 _ rfl).2
                    have pb8 := (hB9 8 _ rfl).1
                    have pz8 := (hB9 8 _ rfl).2
                    go_wp2
                    generalize hW10 : (((((((((W9.setCell ⟨p, 0, none⟩ _).setCell ⟨p, 1, none⟩ _).setCell ⟨p, 2, none⟩ _).setCell ⟨p, 3, none⟩ _).setCell ⟨p, 4, none⟩ _).setCell ⟨p, 5, none⟩ _).setCell ⟨p, 6, none⟩ _).setCell ⟨p, 7, none⟩ _).setCell ⟨p, 8, none⟩ _) = W10
                    obtain ⟨r9, c9, _⟩ := hB9.set9 rfl _ _ _ _ _ _ _ _ _ W10 hW10.symm
                    refine bodyPost_ret (results_cell_tmp2 rfl _ _ p _ rfl (ML W10 _ _ _ _ _ _ _ _ _ _ r9)) rfl ?_
                    exact Fin.out W9 W10 r9 hbel9 c9 3 hd2.out
    · have hki : ¬ (k : Int) = 7 := by omega
      have hd : Hid (decW s.data.toList = (5, zm)) := Lib.hid (by unfold decW; rw [hG.out]; simp only; rw [if_neg (by omega), if_pos hk])
      have b0 := (h2 0 _ rfl).1
      have z0 := (h2 0 _ rfl).2
      have b1 := (h2 1 _ rfl).1
      have z1 := (h2 1 _ rfl).2
      have b2 := (h2 2 _ rfl).1
      have z2 := (h2 2 _ rfl).2
      have b3 := (h2 3 _ rfl).1
      have z3 := (h2 3 _ rfl).2
      have b4 := (h2 4 _ rfl).1
      have z4 := (h2 4 _ rfl).2
      have b5 := (h2 5 _ rfl).1
      have z5 := (h2 5 _ rfl).2
      have b6 := (h2 6 _ rfl).1
      have z6 := (h2 6 _ rfl).2
      have b7 := (h2 7 _ rfl).1
      have z7 := (h2 7 _ rfl).2
      have b8 := (h2 8 _ rfl).1
      have z8 := (h2 8 _ rfl).2
      go_wp2
      generalize hW9 : (((((((((W2.setCell ⟨p, 0, none⟩ _).setCell ⟨p, 1, none⟩ _).setCell ⟨p, 2, none⟩ _).setCell ⟨p, 3, none⟩ _).setCell ⟨p, 4, none⟩ _).setCell ⟨p, 5, none⟩ _).setCell ⟨p, 6, none⟩ _).setCell ⟨p, 7, none⟩ _).setCell ⟨p, 8, none⟩ _) = W9
      obtain ⟨r9, c9, _⟩ := h2.set9 rfl _ _ _ _ _ _ _ _ _ W9 hW9.symm
      refine bodyPost_ret (results_cell_tmp2 rfl _ _ p _ rfl (ML W9 _ _ _ _ _ _ _ _ _ _ r9)) rfl ?_
      exact Fin.out W2 W9 r9 hb02 c9 5 hd.out
  · have hei : ¬ (e : Int) = 0 := by omega
    have hd : Hid (decW s.data.toList = (e, zm)) := Lib.hid (by unfold decW; rw [hG.out]; simp only; rw [if_pos he])
    have b0 := (h2 0 _ rfl).1
    have z0 := (h2 0 _ rfl).2
    have b1 := (h2 1 _ rfl).1
    have z1 := (h2 1 _ rfl).2
    have b2 := (h2 2 _ rfl).1
    have z2 := (h2 2 _ rfl).2
    have b3 := (h2 3 _ rfl).1
    have z3 := (h2 3 _ rfl).2
    have b4 := (h2 4 _ rfl).1
    have z4 := (h2 4 _ rfl).2
    have b5 := (h2 5 _ rfl).1
    have z5 := (h2 5 _ rfl).2
    have b6 := (h2 6 _ rfl).1
    have z6 := (h2 6 _ rfl).2
    have b7 := (h2 7 _ rfl).1
    have z7 := (h2 7 _ rfl).2
    have b8 := (h2 8 _ rfl).1
    have z8 := (h2 8 _ rfl).2
    go_wp2
    generalize hW9 : (((((((((W2.setCell ⟨p, 0, none⟩ _).setCell ⟨p, 1, none⟩ _).setCell ⟨p, 2, none⟩ _).setCell ⟨p, 3, none⟩ _).setCell ⟨p, 4, none⟩ _).setCell ⟨p, 5, none⟩ _).setCell ⟨p, 6, none⟩ _).setCell ⟨p, 7, none⟩ _).setCell ⟨p, 8, none⟩ _) = W9
    obtain ⟨r9, c9, _⟩ := h2.set9 rfl _ _ _ _ _ _ _ _ _ W9 hW9.symm
    refine bodyPost_ret (results_cell_tmp2 rfl _ _ p _ rfl (ML W9 _ _ _ _ _ _ _ _ _ _ r9)) rfl ?_
    exact Fin.out W2 W9 r9 hb02 c9 e hd.out
end Go.Proofs.Ytmaebileagfdaaa
