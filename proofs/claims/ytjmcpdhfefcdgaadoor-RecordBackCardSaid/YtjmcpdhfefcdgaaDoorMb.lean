/- Checks of matchers. -/
import Derived.Test.YtjmcpdhfefcdgaaDoorMa
namespace Go.Proofs.YtjmcpdhfefcdgaaDoor
open Go.RowKit Lb Dig Go.ChangeShapes Go.WideShapes

/-- A matcher's cells. -/
def mtC (m : Mt) : List Value := [.int .i64 m.1, .string m.2.1, .string m.2.2]
def isMt (_ : World) (cs : List Value) (m : Mt) : Prop := cs = mtC m ∧ (Lit.int .i64 m.1).wf = true ∧ m.2.1.size ≤ 140737488351232 ∧ m.2.2.size ≤ 140737488351232
theorem mtC_len (m : Mt) : (mtC m).length = 3 := rfl
theorem isMt_of {H : Type} {enc : TypeId × Value → H} {P : Program} {w : World} {base : Nat} {spare : Nat → Bool} {held : Bool} {e : TypeId} {f0 f1 f2 : Field} (he : P.underlying e = some (.struct #[f0, f1, f2])) (o0 : f0.offset = 0) (o1 : f1.offset = 1) (o2 : f2.offset = 2) (c0 : P.cellsOf f0.type = 1) (c1 : P.cellsOf f1.type = 1) (c2 : P.cellsOf f2.type = 1) (t0 : P.underlying f0.type = some (.int .i64)) (t1 : P.underlying f1.type = some .string) (t2 : P.underlying f2.type = some .string) :
    ∀ m cs (y : DataW H × List MemPlace), cs.length = 3 → DataW.trod enc P w base spare held m e cs = some y → Wt P e y.1 → ∃ z, isMt w cs z := by
  intro m cs y hl h hw
  obtain ⟨y0, m0, h0, w0⟩ := struct_field he h hw 0 f0 rfl
  obtain ⟨y1, m1, h1, w1⟩ := struct_field he h hw 1 f1 rfl
  obtain ⟨y2, m2, h2, w2⟩ := struct_field he h hw 2 f2 rfl
  match cs, hl with
  | [v0, v1, v2], _ =>
    rw [o0, c0] at h0
    rw [o1, c1] at h1
    rw [o2, c2] at h2
    obtain ⟨z, rfl, hz⟩ := intcell t0 h0
    obtain ⟨s1, rfl, hs1⟩ := cell_string t1 h1 w1
    obtain ⟨s2, rfl, hs2⟩ := cell_string t2 h2 w2
    exact ⟨(z, s1, s2), rfl, hz, hs1, hs2⟩
abbrev RowM (w : World) (a : Option Addr) (l : List Mt) : Prop := RowG isMt 3 w a l
theorem RowM.below {w w' : World} {a : Option Addr} {l : List Mt} (h : RowM w a l) (hb : Below w.heap.size w w') : RowM w' a l := RowG.keep h (Chg.of_below (fun _ => False) hb) (fun _ _ x => x) (fun _ _ x => x)
theorem RowM.at3 {w : World} {x : Addr} {l : List Mt} (h : RowM w (some x) l) {i : Nat} {k : Int} {n v : ByteArray} (hy : l[i]? = some (k, n, v)) :
    w.cell? (x.add (i * 3)) = some (.int .i64 k) ∧ w.cell? ⟨(x.add (i * 3)).block, (x.add (i * 3)).off + 1, none⟩ = some (.string n) ∧ w.cell? ⟨(x.add (i * 3)).block, (x.add (i * 3)).off + 2, none⟩ = some (.string v) ∧ (Lit.int .i64 k).wf = true ∧ n.size ≤ 140737488351232 ∧ v.size ≤ 140737488351232 := by
  obtain ⟨cs, _, h2, rfl, h3⟩ := RowG.at_ h hy
  have c1 := h2 1 _ rfl
  have c2 := h2 2 _ rfl
  rw [add_field _ _ _ (by decide)] at c1 c2
  exact ⟨h2 0 _ rfl, c1, c2, h3⟩

set_option maxRecDepth 100000 in
set_option maxHeartbeats 4000000 in
theorem mcheck_any (l : List Mt) (a : Option Addr) (n c : Nat) (hn : l.length = n) (hb : n ≤ 4611686018427387904) (w : World) (hr : RowM w a l) :
    Calls Tryd.prog 35 #[.slice a n c] w fun e w' => e = .returned (.int .i64 (chkM l : Nat)) ∧ Below w.heap.size w w' := by
  obtain ⟨E, hE⟩ : ∃ E, Hid (chkM l = E) := ⟨_, Lib.hid rfl⟩
  rw [hE.out]
  go_enter Tryd.func35, Tryd.ntmps35
  by_cases h8 : n ≤ 8
  · have h8i : (n : Int) ≤ 8 := by omega
    have hE2 : Hid (E = rightsM l) := Lib.hid (by rw [← hE.out]; unfold chkM; rw [if_neg (by omega)])
    go_upto_region 4 with (fail)
    go_loopw [11] (fun v11 wr => ∃ (j : Nat), j ≤ n ∧ v11 = .int .i64 j ∧ Hid (E = rightsM (l.drop j)) ∧ Below w.heap.size w wr) (fun v11 _ => n - (intOf v11).toNat)
    case atStart => exact ⟨0, by omega, rfl, hE2, Below.refl _ _⟩
    case round =>
      obtain ⟨j, hj, rfl, hok, hbw⟩ := hrel
      by_cases hlt : j < n
      · have hji : (j : Int) < (n : Int) := by omega
        obtain ⟨⟨k, nm, v⟩, hp⟩ : ∃ p, l[j]? = some p := ⟨_, List.getElem?_eq_getElem (by omega)⟩
        obtain ⟨x, rfl⟩ := RowG.some_ hr hp
        obtain ⟨c0, c1, c2, hw, hs1, hs2⟩ := RowM.at3 (RowM.below hr hbw) hp
        have hstep := Lib.hid (rights_drop hp)
        have MR := fun W => mright_any k nm v (by omega) (by omega) W
        obtain ⟨F, hF⟩ : ∃ F, Hid (rightM (k, nm, v) = F) := ⟨_, Lib.hid rfl⟩
        rw [hF.out] at MR
        have hq := MtBox.new wr k nm v
        clear hp hs1 hs2 hw
        go_upto_region 6 with (fail)
        generalize wr.alloc (.cells #[.int .i64 k, .string nm, .string v] 88) = W1 at hq ⊢
        generalize hpp : wr.heap.size = p at hq ⊢
        have k0 := (hq.row 0 _ rfl).1
        have k1 := (hq.row 1 _ rfl).1
        have k2 := (hq.row 2 _ rfl).1
        have hbel := below_tr hbw hq.bel
        by_cases hF0 : F = 0
        · have hFi : (F : Int) = 0 := by omega
          have hnext : Hid (E = rightsM (l.drop (j + 1))) := Lib.hid (by rw [hok.out, hstep.out, hF.out, if_neg (by omega)])
          go_wp2_with (go_at_call 56; refine (MR _).mono ?_; rintro y w2 ⟨rfl, hb2⟩)
          go_roundw
          case rel => exact ⟨j + 1, by omega, by go_num, hnext, below_tr hbel hb2⟩
          case measure => simp [intOf]; omega
        · have hFi : ¬ (F : Int) = 0 := by omega
          have hE3 : E = F := by rw [hok.out, hstep.out, hF.out, if_pos hF0]
          subst hE3
          go_wp2_with (go_at_call 56; refine (MR _).mono ?_; rintro y w2 ⟨rfl, hb2⟩)
          go_ret
          exact ⟨rfl, below_tr hbel hb2⟩
      · obtain rfl : j = n := by omega
        have hji : ¬ (j : Int) < (j : Int) := by omega
        have hE3 : E = 0 := by rw [hok.out, show l.drop j = [] from List.drop_eq_nil_iff.mpr (by omega)]; rfl
        subst hE3
        go_wp2
        go_ret
        exact ⟨rfl, hbw⟩
  · have h8i : ¬ (n : Int) ≤ 8 := by omega
    have hE2 : E = 8 := by rw [← hE.out]; unfold chkM; rw [if_pos (by omega)]
    subst hE2
    go_wp2
    go_ret
    exact ⟨rfl, Below.refl _ _⟩

set_option maxRecDepth 100000 in
set_option maxHeartbeats 4000000 in
theorem rmcheck_any (l : List Mt) (a : Option Addr) (n c : Nat) (hn : l.length = n) (hb : n ≤ 4611686018427387904) (w : World) (hr : RowM w a l) :
    Calls Tryd.prog 37 #[.slice a n c] w fun e w' => e = .returned (.int .i64 (chkM l : Nat)) ∧ Below w.heap.size w w' := by
  obtain ⟨E, hE⟩ : ∃ E, Hid (chkM l = E) := ⟨_, Lib.hid rfl⟩
  rw [hE.out]
  go_enter Tryd.func37, Tryd.ntmps37
  by_cases h8 : n ≤ 8
  · have h8i : (n : Int) ≤ 8 := by omega
    have hE2 : Hid (E = rightsM l) := Lib.hid (by rw [← hE.out]; unfold chkM; rw [if_neg (by omega)])
    go_upto_region 4 with (fail)
    go_loopw [3] (fun v3 wr => ∃ (j : Nat), j ≤ n ∧ v3 = .int .i64 j ∧ Hid (E = rightsM (l.drop j)) ∧ Below w.heap.size w wr) (fun v3 _ => n - (intOf v3).toNat)
    case atStart => exact ⟨0, by omega, rfl, hE2, Below.refl _ _⟩
    case round =>
      obtain ⟨j, hj, rfl, hok, hbw⟩ := hrel
      by_cases hlt : j < n
      · have hji : (j : Int) < (n : Int) := by omega
        obtain ⟨⟨k, nm, v⟩, hp⟩ : ∃ p, l[j]? = some p := ⟨_, List.getElem?_eq_getElem (by omega)⟩
        obtain ⟨x, rfl⟩ := RowG.some_ hr hp
        obtain ⟨c0, c1, c2, hw, hs1, hs2⟩ := RowM.at3 (RowM.below hr hbw) hp
        have hstep := Lib.hid (rights_drop hp)
        have MR := fun W => rmright_any k nm v (by omega) (by omega) W
        obtain ⟨F, hF⟩ : ∃ F, Hid (rightM (k, nm, v) = F) := ⟨_, Lib.hid rfl⟩
        rw [hF.out] at MR
        clear hp hs1 hs2 hw
        by_cases hF0 : F = 0
        · have hFi : (F : Int) = 0 := by omega
          have hnext : Hid (E = rightsM (l.drop (j + 1))) := Lib.hid (by rw [hok.out, hstep.out, hF.out, if_neg (by omega)])
          go_wp2_with (go_at_call 59; refine (MR _).mono ?_; rintro y w2 ⟨rfl, hb2⟩)
          go_roundw
          case rel => exact ⟨j + 1, by omega, by go_num, hnext, below_tr hbw hb2⟩
          case measure => simp [intOf]; omega
        · have hFi : ¬ (F : Int) = 0 := by omega
          have hE3 : E = F := by rw [hok.out, hstep.out, hF.out, if_pos hF0]
          subst hE3
          go_wp2_with (go_at_call 59; refine (MR _).mono ?_; rintro y w2 ⟨rfl, hb2⟩)
          go_ret
          exact ⟨rfl, below_tr hbw hb2⟩
      · obtain rfl : j = n := by omega
        have hji : ¬ (j : Int) < (j : Int) := by omega
        have hE3 : E = 0 := by rw [hok.out, show l.drop j = [] from List.drop_eq_nil_iff.mpr (by omega)]; rfl
        subst hE3
        go_wp2
        go_ret
        exact ⟨rfl, hbw⟩
  · have h8i : ¬ (n : Int) ≤ 8 := by omega
    have hE2 : E = 8 := by rw [← hE.out]; unfold chkM; rw [if_pos (by omega)]
    subst hE2
    go_wp2
    go_ret
    exact ⟨rfl, Below.refl _ _⟩
end Go.Proofs.YtjmcpdhfefcdgaaDoor
