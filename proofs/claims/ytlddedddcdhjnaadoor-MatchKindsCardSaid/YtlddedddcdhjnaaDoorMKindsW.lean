/- The law of the kinds of matchers. -/
import Derived.Test.YtlddedddcdhjnaaDoorMMoreW
namespace Go.Proofs.YtlddedddcdhjnaaDoor
open Go.RowKit Lb Dig

namespace Lb
theorem getL_a (v : ByteArray) : getL [({ data := #[97] }, v)] { data := #[97] } = v := by simp [getL]
theorem getL_b (v : ByteArray) : getL [({ data := #[97] }, v)] { data := #[98] } = { data := #[] } := by
  have h : ¬ ({ data := #[97] } : ByteArray) = { data := #[98] } := by decide
  simp [getL, h]
theorem chk_k (k : Int) (n v : ByteArray) (hk : k = 2 ∨ k = 3) (hn : nameB n.data.toList = true) : chkM [(k, n, v)] = chkM [(1, { data := #[97] }, v)] := by
  rw [chkM_one, chkM_one]
  unfold rightM
  have h1 : nameB ({ data := #[97] } : ByteArray).data.toList = true := by decide
  simp only [hn, h1]
  rcases hk with rfl | rfl <;> simp
theorem holds_empty (v : ByteArray) : holdsM (3, { data := #[98] }, v) { data := #[] } = v.toList.isEmpty := by
  show Lib.hasPrefix ({ data := #[] } : ByteArray).data.toList v.data.toList = _
  rw [ByteArray.toList_eq]
  cases v.data.toList <;> rfl
theorem holds_not (v : ByteArray) : holdsM (2, { data := #[98] }, v) { data := #[] } = !v.toList.isEmpty := by
  show (!decide (({ data := #[] } : ByteArray) = v)) = _
  rw [empty_test]
  congr 1
  rw [Bool.eq_iff_iff]
  simp only [decide_eq_true_eq]
  constructor
  · intro h; rw [← h]; rfl
  · intro h
    have h1 : v.data.toList = [] := List.length_eq_zero_iff.mp (by rw [← size_toList]; exact h)
    rw [← mkS_toList v, h1]; rfl
end Lb
/-- What stands in memory while the law goes on: the matcher and the label. -/
structure KindAt (w W : World) (g h : Nat) (k : Int) (n ask vl : ByteArray) : Prop where
  row : RowV W g [.int .i64 k, .string n, .string ask]
  pair : RowV W h [.string { data := #[97] }, .string vl]
  bel : Below w.heap.size w W
  hg : w.heap.size ≤ g
  ne : g ≠ h
theorem KindAt.below {w W W' : World} {g h : Nat} {k : Int} {n ask vl : ByteArray} (x : KindAt w W g h k n ask vl) (hb : Below W.heap.size W W') : KindAt w W' g h k n ask vl :=
  ⟨x.row.below hb, x.pair.below hb, below_tr x.bel hb, x.hg, x.ne⟩
theorem KindAt.kind {w W : World} {g h : Nat} {k : Int} {n ask vl : ByteArray} (x : KindAt w W g h k n ask vl) (k' : Int) : KindAt w (W.setCell ⟨g, 0, none⟩ (.int .i64 k')) g h k' n ask vl :=
  ⟨x.row.set 0 (by simp) _, x.pair.keep (Chg.setCell W ⟨g, 0, none⟩ _) (fun e => x.ne e.symm), Chg.below_tr x.bel (Chg.setCell W ⟨g, 0, none⟩ _) (fun j hj e => by have h1 : j = g := e; have := x.hg; omega), x.hg, x.ne⟩
theorem KindAt.name {w W : World} {g h : Nat} {k : Int} {n ask vl : ByteArray} (x : KindAt w W g h k n ask vl) (n' : ByteArray) : KindAt w (W.setCell ⟨g, 1, none⟩ (.string n')) g h k n' ask vl :=
  ⟨x.row.set 1 (by simp) _, x.pair.keep (Chg.setCell W ⟨g, 1, none⟩ _) (fun e => x.ne e.symm), Chg.below_tr x.bel (Chg.setCell W ⟨g, 1, none⟩ _) (fun j hj e => by have h1 : j = g := e; have := x.hg; omega), x.hg, x.ne⟩
theorem KindAt.rowM {w W : World} {g h : Nat} {k : Int} {n ask vl : ByteArray} (x : KindAt w W g h k n ask vl) (hw : (Lit.int .i64 k).wf = true) (hn : n.size ≤ 140737488351232) (ha : ask.size ≤ 140737488351232) : RowM W (some ⟨g, 0, none⟩) [(k, n, ask)] :=
  RowM.of_rowV (l := [(k, n, ask)]) x.row (fun m hm => by simp at hm; subst hm; exact ⟨hw, hn, ha⟩)
theorem KindAt.rowQ {w W : World} {g h : Nat} {k : Int} {n ask vl : ByteArray} (x : KindAt w W g h k n ask vl) : RowQ W (some ⟨h, 0, none⟩) [({ data := #[97] }, vl)] := RowQ.of_rowV (l := [({ data := #[97] }, vl)]) x.pair

set_option maxRecDepth 100000 in
set_option maxHeartbeats 8000000 in
theorem matchKinds_walk (vl ask : ByteArray) (_hvl : vl.size ≤ 140737488351232) (hask : ask.size ≤ 140737488351232) (w : World) :
    Calls Tryd.prog 13 #[.string vl, .string ask] w fun e w' => e = .returned (.bool true) ∧ Below w.heap.size w w' := by
  have W1 := fun W => mworks_any W
  have sa : ({ data := #[97] } : ByteArray).size ≤ 140737488351232 := by decide
  have sb : ({ data := #[98] } : ByteArray).size ≤ 140737488351232 := by decide
  have CK := fun g W h => mcheck_any [(1, { data := #[97] }, ask)] (some ⟨g, 0, none⟩) 1 1 rfl (by omega) W h
  have IK := fun k n g h W (x y) => mis_any [(k, n, ask)] (some ⟨g, 0, none⟩) 1 1 [({ data := #[97] }, vl)] (some ⟨h, 0, none⟩) 1 1 rfl (by omega) rfl (by omega) W x y
  have I1 := fun g h W (x y) => IK 1 { data := #[97] } g h W x y
  have I2 := fun g h W (x y) => IK 3 { data := #[97] } g h W x y
  have I3 := fun g h W (x y) => IK 3 { data := #[98] } g h W x y
  have I4 := fun g h W (x y) => IK 2 { data := #[98] } g h W x y
  have I5 := fun g h W (x y) => mis_any [(4, { data := #[97] }, { data := #[] })] (some ⟨g, 0, none⟩) 1 1 [({ data := #[97] }, vl)] (some ⟨h, 0, none⟩) 1 1 rfl (by omega) rfl (by omega) W x y
  have I6 := fun g h W (x y) => mis_any [(4, { data := #[98] }, { data := #[] })] (some ⟨g, 0, none⟩) 1 1 [({ data := #[97] }, vl)] (some ⟨h, 0, none⟩) 1 1 rfl (by omega) rfl (by omega) W x y
  rw [isM_one] at I1 I2 I3 I4 I5 I6
  rw [chk_k 3 _ _ (.inr rfl) (by decide)] at I2
  rw [chk_k 3 _ _ (.inr rfl) (by decide)] at I3
  rw [chk_k 2 _ _ (.inl rfl) (by decide)] at I4
  obtain ⟨C, hC⟩ : ∃ C, Hid (chkM [(1, { data := #[97] }, ask)] = C) := ⟨_, Lib.hid rfl⟩
  rw [hC.out] at CK I1 I2 I3 I4
  rw [show chkM [(4, { data := #[97] }, { data := #[] })] = 0 from by decide] at I5
  rw [show chkM [(4, { data := #[98] }, { data := #[] })] = 0 from by decide] at I6
  simp only [getL_a, getL_b, holds_empty, holds_not] at I1 I2 I3 I4 I5 I6
  rw [show holdsM (1, { data := #[97] }, ask) vl = (vl.toList == ask.toList) from by rw [bs_eq]; rfl] at I1
  rw [show holdsM (4, { data := #[98] }, { data := #[] }) { data := #[] } = false from by decide] at I6
  rw [show holdsM (4, { data := #[97] }, { data := #[] }) vl = !vl.toList.isEmpty from by rw [empty_test]; rfl] at I5
  rw [show holdsM (3, { data := #[97] }, ask) vl = Lib.hasPrefix vl.data.toList ask.data.toList from rfl] at I2
  clear IK
  simp only [decide_true, Bool.true_and] at I5 I6
  have HI1 := Lib.hid I1
  have HI2 := Lib.hid I2
  have HI3 := Lib.hid I3
  have HI4 := Lib.hid I4
  have HI5 := Lib.hid I5
  have HI6 := Lib.hid I6
  clear I1 I2 I3 I4 I5 I6 hC
  have cells : ∀ (W : World) (g h : Nat) (k : Int) (n : ByteArray), KindAt w W g h k n ask vl → (W.cell? ⟨g, 0, none⟩ = some (.int .i64 k) ∧ W.frozen? ⟨g, 0, none⟩ = false) ∧ (W.cell? ⟨g, 1, none⟩ = some (.string n) ∧ W.frozen? ⟨g, 1, none⟩ = false) := fun W g h k n x => ⟨x.row 0 _ rfl, x.row 1 _ rfl⟩
  have Hcells := Lib.hid cells
  clear cells
  obtain ⟨B1, hB1⟩ : ∃ b, (vl.toList == ask.toList) = b := ⟨_, rfl⟩
  obtain ⟨B2, hB2⟩ : ∃ b, ask.toList.isEmpty = b := ⟨_, rfl⟩
  obtain ⟨BV, hBV⟩ : ∃ b, vl.toList.isEmpty = b := ⟨_, rfl⟩
  rw [hB1] at HI1
  rw [hB2] at HI3 HI4
  rw [hBV] at HI5
  go_enter Tryd.func13, Tryd.ntmps13
  go_upto_region 3 with (go_at_call 39; refine (W1 _).mono ?_; rintro y w1 ⟨rfl, hb1⟩; clear W1)
  have RP := RowV.new w1 [.string { data := #[97] }, .string vl] 38
  have BP : Below w1.heap.size w1 (w1.alloc (.cells #[.string { data := #[97] }, .string vl] 38)) := (Below.refl _ _).alloc (Nat.le_refl _) _
  have hgs : w1.heap.size < (w1.alloc (.cells #[.string { data := #[97] }, .string vl] 38)).heap.size := by simp
  go_upto_region 4 with (fail)
  generalize w1.alloc (.cells #[.string { data := #[97] }, .string vl] 38) = w2 at RP BP hgs ⊢
  have hlow := hb1.size
  generalize w1.heap.size = h at RP hgs hlow ⊢
  have hM := MtBox.new w2 1 { data := #[97] } ask
  go_upto_region 5 with (fail)
  generalize w2.alloc (.cells #[.int .i64 1, .string { data := #[97] }, .string ask] 51) = w3 at hM ⊢
  generalize w2.heap.size = g at hM hgs ⊢
  have K3 : KindAt w w3 g h 1 { data := #[97] } ask vl := ⟨hM.row, RP.below hM.bel, below_tr (below_tr hb1 BP) hM.bel, by omega, by omega⟩
  clear hM RP BP hb1 hgs hlow
  by_cases hC0 : C = 0
  · have hCi : (C : Int) = 0 := by omega
    have I1 := HI1.out
    rw [decide_eq_true hC0, Bool.true_and] at I1
    cases BV
    · have I2 := HI2.out
      have I3 := HI3.out
      have I4 := HI4.out
      have I5 := HI5.out
      have I6 := HI6.out
      rw [decide_eq_true hC0, Bool.true_and] at I2 I3 I4
      obtain ⟨P, hP⟩ : ∃ b, Hid (Lib.hasPrefix vl.data.toList ask.data.toList = b) := ⟨_, Lib.hid rfl⟩
      rw [hP.out] at I2
      clear HI1 HI2 HI3 HI4 HI5 HI6
      go_upto_region 8 with (first
        | (go_at_call 35; refine (CK _ _ (K3.rowM rfl sa hask)).mono ?_; rintro y w4 ⟨rfl, hb4⟩; have K4 := K3.below hb4; clear CK K3)
        | (go_at_call 37; refine (I1 _ _ _ (K4.rowM rfl sa hask) K4.rowQ).mono ?_; rintro y w5 ⟨rfl, hb5⟩; have K5 := K4.below hb5; clear I1 K4))
      obtain ⟨⟨f0, z0⟩, ⟨f1, z1⟩⟩ := Hcells.out _ _ _ _ _ K5
      go_upto_region 9 with (fail)
      have K6 := K5.kind 3
      generalize w5.setCell ⟨g, 0, none⟩ (.int .i64 3) = w6 at K6 ⊢
      clear K5 f0 z0 f1 z1
      go_upto_region 10 with (go_at_call 37; refine (I2 _ _ _ (K6.rowM rfl sa hask) K6.rowQ).mono ?_; rintro y w7 ⟨rfl, hb7⟩; have K7 := K6.below hb7; clear I2 K6)
      obtain ⟨⟨f0, z0⟩, ⟨f1, z1⟩⟩ := Hcells.out _ _ _ _ _ K7
      go_upto_region 11 with (fail)
      have K8 := K7.name { data := #[98] }
      generalize w7.setCell ⟨g, 1, none⟩ (.string { data := #[98] }) = w8 at K8 ⊢
      clear K7 f0 z0 f1 z1
      go_upto_region 12 with (go_at_call 37; refine (I3 _ _ _ (K8.rowM rfl sb hask) K8.rowQ).mono ?_; rintro y w9 ⟨rfl, hb9⟩; have K9 := K8.below hb9; clear I3 K8)
      obtain ⟨⟨f0, z0⟩, ⟨f1, z1⟩⟩ := Hcells.out _ _ _ _ _ K9
      go_upto_region 13 with (fail)
      have K10 := K9.kind 2
      generalize w9.setCell ⟨g, 0, none⟩ (.int .i64 2) = w10 at K10 ⊢
      clear K9 f0 z0 f1 z1
      go_upto_region 14 with (go_at_call 37; refine (I4 _ _ _ (K10.rowM rfl sb hask) K10.rowQ).mono ?_; rintro y w11 ⟨rfl, hb11⟩; have K11 := K10.below hb11; clear I4 K10)
      have M5 := MtBox.new w11 4 { data := #[97] } { data := #[] }
      have R5 : RowM (w11.alloc (.cells #[.int .i64 4, .string { data := #[97] }, .string { data := #[] }] 51)) (some ⟨w11.heap.size, 0, none⟩) [(4, { data := #[97] }, { data := #[] })] := RowM.of_rowV (l := [(4, { data := #[97] }, { data := #[] })]) M5.row (fun m hm => by simp at hm; subst hm; exact ⟨rfl, sa, by decide⟩)
      have K12 := K11.below M5.bel
      have R6 : ∀ W : World, RowM (W.alloc (.cells #[.int .i64 4, .string { data := #[98] }, .string { data := #[] }] 51)) (some ⟨W.heap.size, 0, none⟩) [(4, { data := #[98] }, { data := #[] })] := fun W => RowM.of_rowV (l := [(4, { data := #[98] }, { data := #[] })]) (MtBox.new W 4 { data := #[98] } { data := #[] }).row (fun m hm => by simp at hm; subst hm; exact ⟨rfl, sb, by decide⟩)
      by_cases hle : ask.size ≤ vl.size
      · have hlei : (ask.size : Int) ≤ (vl.size : Int) := by omega
        have hP2 : ((vl.extract 0 ask.size).toList == ask.toList) = P := by rw [← hP.out, ← prefix_test vl ask hle]
        go_wp2_with (first
          | (go_at_call 37; refine (I5 _ _ _ R5 K12.rowQ).mono ?_; rintro y w13 ⟨rfl, hb13⟩; have K13 := (K12.below hb13).below (MtBox.new w13 4 { data := #[98] } { data := #[] }).bel; clear I5)
          | (go_at_call 37; refine (I6 _ _ _ (R6 w13) K13.rowQ).mono ?_; rintro y w14 ⟨rfl, hb14⟩; have K14 := K13.below hb14; clear I6))
        go_ret
        exact ⟨rfl, K14.bel⟩
      · have hlei : ¬ (ask.size : Int) ≤ (vl.size : Int) := by omega
        have hP2 : P = false := by rw [← hP.out, prefix_short vl ask hle]
        subst hP2
        go_wp2_with (first
          | (go_at_call 37; refine (I5 _ _ _ R5 K12.rowQ).mono ?_; rintro y w13 ⟨rfl, hb13⟩; have K13 := (K12.below hb13).below (MtBox.new w13 4 { data := #[98] } { data := #[] }).bel; clear I5)
          | (go_at_call 37; refine (I6 _ _ _ (R6 w13) K13.rowQ).mono ?_; rintro y w14 ⟨rfl, hb14⟩; have K14 := K13.below hb14; clear I6))
        go_ret
        exact ⟨rfl, K14.bel⟩
    · clear HI2 HI3 HI4 HI5 HI6
      cases B1
      all_goals
        go_wp2_with (first
          | (go_at_call 35; refine (CK _ _ (K3.rowM rfl sa hask)).mono ?_; rintro y w4 ⟨rfl, hb4⟩; have K4 := K3.below hb4; clear CK)
          | (go_at_call 37; refine (I1 _ _ _ (K4.rowM rfl sa hask) K4.rowQ).mono ?_; rintro y w5 ⟨rfl, hb5⟩; have K5 := K4.below hb5; clear I1))
        go_ret
        exact ⟨rfl, K5.bel⟩
  · have hCi : ¬ (C : Int) = 0 := by omega
    have I1 := HI1.out
    rw [decide_eq_false hC0, Bool.false_and] at I1
    clear HI2 HI3 HI4 HI5 HI6
    go_wp2_with (first
      | (go_at_call 35; refine (CK _ _ (K3.rowM rfl sa hask)).mono ?_; rintro y w4 ⟨rfl, hb4⟩; have K4 := K3.below hb4; clear CK)
      | (go_at_call 37; refine (I1 _ _ _ (K4.rowM rfl sa hask) K4.rowQ).mono ?_; rintro y w5 ⟨rfl, hb5⟩; have K5 := K4.below hb5; clear I1))
    go_ret
    exact ⟨rfl, K5.bel⟩
end Go.Proofs.YtlddedddcdhjnaaDoor
