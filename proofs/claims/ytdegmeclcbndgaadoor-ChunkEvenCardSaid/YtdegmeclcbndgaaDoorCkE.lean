/- The program's writer of points. -/
import Derived.Test.YtdegmeclcbndgaaDoorCk
import Derived.Test.YtdegmeclcbndgaaDoorDigW
import Derived.Test.YtdegmeclcbndgaaDoorSlice
import Derived.Deep.CutBlock
namespace Go.Proofs.YtdegmeclcbndgaaDoor
open Go.RowKit Bit Tim Xo Dig Ck

/-- A writer, a coder of times and one of patterns, apart, above a line; a block beside them. -/
structure E3 (w : World) (B p ct cx : Nat) (s : St) (x : XS) (L : List Bool) (q : Nat) (xs : List Value) : Prop where
  ex : ∃ v, CInv w ct s ∧ KInv w cx x ∧ WInv w p v (pack L) L.length ∧ ∀ g, v.ownBlock = some g → B ≤ g ∧ g ≠ ct ∧ g ≠ cx ∧ g ≠ q
  ap : ct ≠ cx ∧ ct ≠ p ∧ cx ≠ p
  aq : q ≠ p ∧ q ≠ ct ∧ q ≠ cx
  row : RowV w q xs
  ql : q < w.heap.size
  bb : B ≤ p ∧ B ≤ ct ∧ B ≤ cx
  tab : Tab w
  b0 : 0 < B
theorem E3.keep {w w' : World} {B p ct cx : Nat} {s : St} {x : XS} {L : List Bool} {q : Nat} {xs : List Value} (h : E3 w B p ct cx s x L q xs) (hb : Below w.heap.size w w') : E3 w' B p ct cx s x L q xs := by
  obtain ⟨v, h1, h2, h3, h4⟩ := h.ex
  exact ⟨⟨v, h1.keep (Chg.of_below (fun _ => False) hb) (fun x => x), h2.keep (Chg.of_below (fun _ => False) hb) (fun x => x), h3.keep (Chg.of_below (fun _ => False) hb) (fun _ _ x => x), h4⟩, h.ap, h.aq, h.row.below hb, Nat.lt_of_lt_of_le h.ql hb.size, h.bb, h.tab.below hb h.tab.pos, h.b0⟩
/-- Another block beside them: a new one. -/
theorem E3.beside {w w' : World} {B p ct cx : Nat} {s : St} {x : XS} {L : List Bool} {q : Nat} {xs : List Value} (h : E3 w B p ct cx s x L q xs) (hb : Below w.heap.size w w') (q' : Nat) (ys : List Value) (h1 : w.heap.size ≤ q') (h2 : RowV w' q' ys) (h3 : q' < w'.heap.size) : E3 w' B p ct cx s x L q' ys := by
  have hk := h.keep hb
  obtain ⟨v, g1, g2, g3, g4⟩ := h.ex
  have e1 : ct < w.heap.size := World.block_lt_of_cell? w _ g1.c0
  have e2 := g2.lt
  have e3 : p < w.heap.size := World.block_lt_of_cell? w _ g3.c0
  exact ⟨⟨v, g1.keep (Chg.of_below (fun _ => False) hb) (fun x => x), g2.keep (Chg.of_below (fun _ => False) hb) (fun x => x), g3.keep (Chg.of_below (fun _ => False) hb) (fun _ _ x => x), fun g hg => ⟨(g4 g hg).1, (g4 g hg).2.1, (g4 g hg).2.2.1, by have := owns_lt g3.own hg; omega⟩⟩,
    h.ap, ⟨by omega, by omega, by omega⟩, h2, h3, h.bb, hk.tab, h.b0⟩
theorem E3.alone {w : World} {B p ct cx : Nat} {s : St} {x : XS} {L : List Bool} {q : Nat} {xs : List Value} (h : E3 w B p ct cx s x L q xs) : E3 w B p ct cx s x L 0 [] := by
  obtain ⟨v, g1, g2, g3, g4⟩ := h.ex
  obtain ⟨b1, b2, b3⟩ := h.bb
  have b0 := h.b0
  exact ⟨⟨v, g1, g2, g3, fun g hg => ⟨(g4 g hg).1, (g4 g hg).2.1, (g4 g hg).2.2.1, by have := (g4 g hg).1; omega⟩⟩, h.ap, ⟨by omega, by omega, by omega⟩, fun j v hj => by simp at hj, h.tab.pos, h.bb, h.tab, h.b0⟩

theorem tput_e3 (w : World) (B p ct cx : Nat) (s : St) (x : XS) (L : List Bool) (q : Nat) (xs : List Value) (t : Int) (h : E3 w B p ct cx s x L q xs) (hB : B ≤ w.heap.size) (hL : L.length ≤ 1000000) :
    Calls Tryd.prog 45 #[.pointer (some ⟨ct, 0, none⟩), .pointer (some ⟨p, 0, none⟩), .int .i64 t] w fun e w' => e = .returned (.tuple #[]) ∧
      E3 w' B p ct cx (s.next t) x (L ++ encT s t) q xs ∧ Below B w w' := by
  obtain ⟨v, h1, h2, h3, h4⟩ := h.ex
  obtain ⟨a1, a2, a3⟩ := h.ap
  obtain ⟨q1, q2, q3⟩ := h.aq
  obtain ⟨b1, b2, b3⟩ := h.bb
  have hql := h.ql
  refine (tput_any w ct p s v L t ⟨h1, h3, a2, fun e => (h4 ct e).2.1 rfl⟩ (by omega)).mono ?_
  rintro e w' ⟨rfl, v', hc, hS⟩
  have hcl : ct < w.heap.size := World.block_lt_of_cell? w _ h1.c0
  have hxl := h2.lt
  have ho : ∀ g, v'.ownBlock = some g → B ≤ g ∧ g ≠ ct ∧ g ≠ cx ∧ g ≠ q := fun g hg => by
    rcases hS.own g hg with h5 | h5
    · exact h4 g h5
    · exact ⟨by omega, by omega, by omega, by omega⟩
  have hbel : Below B w w' := hS.chg.below hB (fun k hk hf => by
    rcases hf with (e | e) | e
    · omega
    · have := h4 k e; omega
    · omega)
  refine ⟨rfl, ⟨⟨v', hc, h2.keep hS.chg ?_, hS.inv, ho⟩, h.ap, h.aq, h.row.keep hS.chg ?_, Nat.lt_of_lt_of_le hql hS.chg.size, h.bb, h.tab.below hbel h.b0, h.b0⟩, hbel⟩
  · rintro ((e | e) | e)
    · exact a3 e
    · exact (h4 cx e).2.2.1 rfl
    · exact a1 e.symm
  · rintro ((e | e) | e)
    · exact q1 e
    · exact (h4 q e).2.2.2 rfl
    · exact q2 e
theorem vput_e3 (w : World) (B p ct cx : Nat) (s : St) (x : XS) (L : List Bool) (q : Nat) (xs : List Value) (y : Nat) (hy : y < 18446744073709551616) (h : E3 w B p ct cx s x L q xs) (hB : B ≤ w.heap.size) (hL : L.length ≤ 1000000) :
    Calls Tryd.prog 14 #[.pointer (some ⟨cx, 0, none⟩), .pointer (some ⟨p, 0, none⟩), .int .u64 y] w fun e w' => e = .returned (.tuple #[]) ∧
      E3 w' B p ct cx s (x.next y) (L ++ encV x y) q xs ∧ Below B w w' := by
  obtain ⟨v, h1, h2, h3, h4⟩ := h.ex
  obtain ⟨a1, a2, a3⟩ := h.ap
  obtain ⟨q1, q2, q3⟩ := h.aq
  obtain ⟨b1, b2, b3⟩ := h.bb
  have b0 := h.b0
  have hql := h.ql
  refine (vput_any w cx p x v L y hy h.tab (by omega) ⟨h2, h3, a3, fun e => (h4 cx e).2.2.1 rfl⟩ (by omega)).mono ?_
  rintro e w' ⟨rfl, v', hc, hS⟩
  have hcl : ct < w.heap.size := World.block_lt_of_cell? w _ h1.c0
  have hxl := h2.lt
  have ho : ∀ g, v'.ownBlock = some g → B ≤ g ∧ g ≠ ct ∧ g ≠ cx ∧ g ≠ q := fun g hg => by
    rcases hS.own g hg with h5 | h5
    · exact h4 g h5
    · exact ⟨by omega, by omega, by omega, by omega⟩
  have hbel : Below B w w' := hS.chg.below hB (fun k hk hf => by
    rcases hf with (e | e) | e
    · omega
    · have := h4 k e; omega
    · omega)
  refine ⟨rfl, ⟨⟨v', h1.keep hS.chg ?_, hc, hS.inv, ho⟩, h.ap, h.aq, h.row.keep hS.chg ?_, Nat.lt_of_lt_of_le hql hS.chg.size, h.bb, h.tab.below hbel h.b0, h.b0⟩, hbel⟩
  · rintro ((e | e) | e)
    · exact a2 e
    · exact (h4 ct e).2.1 rfl
    · exact a1 e
  · rintro ((e | e) | e)
    · exact q1 e
    · exact (h4 q e).2.2.2 rfl
    · exact q3 e
theorem len_e3 (w : World) (B p ct cx : Nat) (s : St) (x : XS) (L : List Bool) (q : Nat) (xs : List Value) (h : E3 w B p ct cx s x L q xs) : Calls Tryd.prog 16 #[.pointer (some ⟨p, 0, none⟩)] w fun e w' => e = .returned (.int .i64 (L.length : Nat)) ∧ w = w' := by
  obtain ⟨v, h1, h2, h3, h4⟩ := h.ex
  exact len_any w p v _ _ h3
theorem text_e3 (w : World) (B p ct cx : Nat) (s : St) (x : XS) (L : List Bool) (q : Nat) (xs : List Value) (h : E3 w B p ct cx s x L q xs) : Calls Tryd.prog 17 #[.pointer (some ⟨p, 0, none⟩)] w fun e w' => e = .returned (.string (mkS (pack L))) ∧ w = w' := by
  obtain ⟨v, h1, h2, h3, h4⟩ := h.ex
  exact text_any w p v _ _ h3

/-- Points as pairs of whole numbers. -/
def ptZ (l : List (Int × Nat)) : List (Int × Int) := l.map fun a => (a.1, (a.2 : Int))

set_option maxRecDepth 100000 in
set_option maxHeartbeats 2000000 in
theorem cenc_any (a : Option Addr) (len cap : Nat) (ps : List (Int × Nat)) (hz : ps.length = len) (hlen : len ≤ 4611686018427387904) (w : World) (hT : Tab w) (hr : RowP .i64 .u64 w a (ptZ ps)) :
    Calls Tryd.prog 25 #[.slice a len cap] w fun e w' => e = .returned (.tuple #[.string (mkS (encS ps)), .int .i64 (encE ps : Nat)]) ∧ Below w.heap.size w w' := by
  go_enter Tryd.func25, Tryd.ntmps25
  by_cases h1 : len < 1
  · have hE := Lib.hid (encE_big ps (.inl (by omega)))
    have h1i : (len : Int) < 1 := by omega
    go_wp2
    go_ret2
    rw [hE.out.1, hE.out.2]
    exact ⟨rfl, Below.refl _ _⟩
  have h1i : ¬ (len : Int) < 1 := by omega
  by_cases h64 : 64 < len
  · have hE := Lib.hid (encE_big ps (.inr (by omega)))
    have h64i : (64 : Int) < (len : Int) := by omega
    go_wp2
    go_ret2
    rw [hE.out.1, hE.out.2]
    exact ⟨rfl, Below.refl _ _⟩
  have h64i : ¬ (64 : Int) < (len : Int) := by omega
  go_upto_region 4 with (first
    | (go_at_call 13; refine (newwriter_any _).mono ?_; rintro e w1 ⟨rfl, hw1, hb1⟩)
    | (go_at_call 44; refine (timesnew_any _).mono ?_; rintro e w2 ⟨rfl, hc2, hb2⟩)
    | (go_at_call 12; refine (xornew_any _).mono ?_; rintro e w3 ⟨rfl, hc3, hb3⟩))
  have hl1 : w.heap.size < w1.heap.size := World.block_lt_of_cell? w1 _ hw1.c0
  have hl2 : w1.heap.size < w2.heap.size := World.block_lt_of_cell? w2 _ hc2.c0
  have hbel0 : Below w.heap.size w w3 := below_tr (below_tr hb1 hb2) hb3
  have hE0 : E3 w3 w.heap.size w.heap.size w1.heap.size w2.heap.size St.zero XS.zero [] 0 [] := by
    have h00 := hT.pos
    have h01 := hbel0.size
    refine ⟨⟨_, hc2.keep (Chg.of_below (fun _ => False) hb3) (fun x => x), hc3, (hw1.keep (Chg.of_below (fun _ => False) hb2) (fun _ _ x => x)).keep (Chg.of_below (fun _ => False) hb3) (fun _ _ x => x), fun g hg => by simp [Value.ownBlock] at hg⟩, ⟨by omega, by omega, by omega⟩, ⟨by omega, by omega, by omega⟩, fun j v hj => by simp at hj, by omega, ⟨by omega, by omega, by omega⟩, hT.below hbel0 hT.pos, hT.pos⟩
  obtain ⟨p, hp⟩ : ∃ p, Hid (p = w.heap.size) := ⟨_, Lib.hid rfl⟩
  obtain ⟨ct, hct⟩ : ∃ p, Hid (p = w1.heap.size) := ⟨_, Lib.hid rfl⟩
  obtain ⟨cx, hcx⟩ : ∃ p, Hid (p = w2.heap.size) := ⟨_, Lib.hid rfl⟩
  have hE1 : E3 w3 w.heap.size p ct cx St.zero XS.zero [] 0 [] := by rw [hp.out, hct.out, hcx.out]; exact hE0
  rw [← hct.out, ← hcx.out, ← hp.out]
  clear hE0 hb1 hb2 hb3 hw1 hc2 hc3 hl1 hl2
  go_wp2
  go_loopw [22] (fun i wr => ∃ j : Nat, j ≤ len ∧ i = .int .i64 j ∧ E3 wr w.heap.size p ct cx (stT St.zero (ps.take j)) (stX XS.zero (ps.take j)) (Ck.encB St.zero XS.zero (ps.take j)) 0 [] ∧ Hid (ascB (ps.take j) = true) ∧ Below w.heap.size w wr) (fun i _ => 64 - (intOf i).toNat)
  case atStart => exact ⟨0, by omega, rfl, hE1, Lib.hid (by simp [ascB]), hbel0⟩
  case round =>
    obtain ⟨j, hj, rfl, hE, hasc, hbel⟩ := hrel
    clear hE1 hbel0
    have hLb := encB_len (ps.take j) St.zero XS.zero
    have hLb2 : (Ck.encB St.zero XS.zero (ps.take j)).length ≤ 9280 := by rw [List.length_take] at hLb; omega
    have HLb := Lib.hid hLb2
    clear hLb hLb2
    by_cases hlt : j < len
    · have hjl : (j : Int) < (len : Int) := by omega
      have hr2 := hr.below hbel
      rcases hr2.row with h0 | ⟨x, rfl, hc⟩
      · have := congrArg List.length h0; simp [ptZ, hz] at this; omega
      have hzj := List.getElem?_eq_getElem (l := ps) (i := j) (by omega)
      obtain ⟨⟨t, y⟩, hVN⟩ : ∃ z, Hid (ps[j]'(by omega) = z) := ⟨_, Lib.hid rfl⟩
      rw [hVN.out] at hzj
      obtain ⟨hc0, hc1⟩ := hc j (t, (y : Int)) (by rw [ptZ, List.getElem?_map, hzj]; rfl)
      have hwf := hr.wf (t, (y : Int)) (List.mem_map.mpr ⟨(t, y), List.mem_of_getElem? hzj, rfl⟩)
      have hy := (wf_u64 hwf.2).2
      have hy2 : y < 18446744073709551616 := by simp only at hy; omega
      simp only at hc0 hc1
      have htk : ps.take (j + 1) = ps.take j ++ [(t, y)] := by rw [List.take_add_one, hzj]; rfl
      have Htk := Lib.hid htk
      have Hzj := Lib.hid hzj
      clear htk hzj hwf hy
      go_upto_region 7 with (fail)
      obtain ⟨q, hq⟩ : ∃ q, Hid (q = wr.heap.size) := ⟨_, Lib.hid rfl⟩
      have hba : Below wr.heap.size wr (wr.alloc (.cells #[.int .i64 t, .int .u64 (y : Nat)] 63)) := (Below.refl _ _).alloc (Nat.le_refl _) _
      have hQ : RowV (wr.alloc (.cells #[.int .i64 t, .int .u64 (y : Nat)] 63)) wr.heap.size [.int .i64 t, .int .u64 (y : Nat)] := RowV.new wr _ _
      have hbel2 := below_tr hbel hba
      have hr3 := hr.below hbel2
      have hqb : wr.heap.size < (wr.alloc (.cells #[.int .i64 t, .int .u64 (y : Nat)] 63)).heap.size := by simp
      have hE2 := hE.beside hba wr.heap.size _ (Nat.le_refl _) hQ hqb
      have hBw : w.heap.size ≤ wr.heap.size := hbel.size
      rw [← hq.out] at hQ hqb hE2 hBw ⊢
      clear hE hbel hr2 hc hc0 hc1 hba
      generalize (wr.alloc (.cells #[.int .i64 t, .int .u64 (y : Nat)] 63)) = w4 at hQ hE2 hbel2 hr3 hqb ⊢
      have q0 := (hQ 0 _ rfl).1
      have q1 := (hQ 1 _ rfl).1
      rcases hr3.row with h0 | ⟨x', hx', hc⟩
      · have := congrArg List.length h0; simp [ptZ, hz] at this; omega
      obtain rfl := Option.some.inj hx'
      cases j with
      | zero =>
        go_quiet (fail)
        have hb5 : Below w4.heap.size w4 (w4.drewN nq) := below_drewN (Below.refl _ _) _
        have hE5 := hE2.keep hb5
        have hbel5 := below_tr hbel2 hb5
        have hB5 : w.heap.size ≤ (w4.drewN nq).heap.size := hbel5.size
        clear hE2 hbel2 hQ q0 q1 hb5 hr3
        generalize w4.drewN nq = w5 at hE5 hbel5 hB5 ⊢
        have q0 := (hE5.row 0 _ rfl).1
        go_upto_region 10 with (go_at_call 45; refine (tput_e3 w5 _ _ _ _ _ _ _ _ _ t hE5 hB5 (by have := HLb.out; omega)).mono ?_; rintro e w6 ⟨rfl, hE6, hb6⟩)
        have hB6 : w.heap.size ≤ w6.heap.size := Nat.le_trans hB5 hb6.size
        have q1 := (hE6.row 1 _ rfl).1
        go_wp2_with (go_at_call 14; refine (vput_e3 w6 _ _ _ _ _ _ _ _ _ y hy2 hE6 hB6 (by have := HLb.out; have := encT_len (stT St.zero (List.take 0 ps)) t; rw [List.length_append]; omega)).mono ?_; rintro e w7 ⟨rfl, hE7, hb7⟩)
        go_roundw
        case rel =>
          refine ⟨0 + 1, by omega, by go_num, ?_, Lib.hid (by rw [Htk.out]; simp [ascB]), (hbel5.trans hb6).trans hb7⟩
          rw [Htk.out, Ck.encB_snoc, stT_snoc, stX_snoc, ← List.append_assoc]
          exact hE7.alone
        case measure => simp [intOf]
      | succ k =>
        have hzk := List.getElem?_eq_getElem (l := ps) (i := k) (by omega)
        obtain ⟨⟨t', y'⟩, hVN'⟩ : ∃ z, Hid (ps[k]'(by omega) = z) := ⟨_, Lib.hid rfl⟩
        rw [hVN'.out] at hzk
        obtain ⟨hd0, hd1⟩ := hc k (t', (y' : Int)) (by rw [ptZ, List.getElem?_map, hzk]; rfl)
        simp only at hd0
        have hst := Lib.hid (ascB_step ps k (t', y') (t, y) hzk Hzj.out)
        clear hzk hc hd1
        have hk0 : ((k + 1 : Nat) : Int) - 1 = (k : Int) := by omega
        have hkl : (k : Int) < (len : Int) := by omega
        have hk1 : (0 : Int) < ((k + 1 : Nat) : Int) := by omega
        by_cases hle : t ≤ t'
        · have hasc2 : ascB ps = false := by
            rcases Bool.eq_false_or_eq_true (ascB ps) with h | h
            · have h2 := ascB_take ps h (k + 2)
              rw [hst.out, hasc.out] at h2
              simp at h2; omega
            · exact h
          have hfin := Lib.hid (encE_ord ps (by omega) (by omega) hasc2)
          clear hasc2
          go_quiet (fail)
          go_wp2
          go_ret2
          rw [hfin.out.1, hfin.out.2]
          exact ⟨rfl, below_drewN hbel2 _⟩
        · go_quiet (fail)
          have hb5 : Below w4.heap.size w4 (w4.drewN nq) := below_drewN (Below.refl _ _) _
          have hE5 := hE2.keep hb5
          have hbel5 := below_tr hbel2 hb5
          have hB5 : w.heap.size ≤ (w4.drewN nq).heap.size := hbel5.size
          clear hE2 hbel2 hQ q0 q1 hb5 hr3
          generalize w4.drewN nq = w5 at hE5 hbel5 hB5 ⊢
          have q0 := (hE5.row 0 _ rfl).1
          go_upto_region 10 with (go_at_call 45; refine (tput_e3 w5 _ _ _ _ _ _ _ _ _ t hE5 hB5 (by have := HLb.out; omega)).mono ?_; rintro e w6 ⟨rfl, hE6, hb6⟩)
          have hB6 : w.heap.size ≤ w6.heap.size := Nat.le_trans hB5 hb6.size
          have q1 := (hE6.row 1 _ rfl).1
          go_wp2_with (go_at_call 14; refine (vput_e3 w6 _ _ _ _ _ _ _ _ _ y hy2 hE6 hB6 (by have := HLb.out; have := encT_len (stT St.zero (List.take (k + 1) ps)) t; rw [List.length_append]; omega)).mono ?_; rintro e w7 ⟨rfl, hE7, hb7⟩)
          go_roundw
          case rel =>
            refine ⟨(k + 1) + 1, by omega, by go_num, ?_, Lib.hid (by rw [hst.out, hasc.out]; simp; omega), (hbel5.trans hb6).trans hb7⟩
            rw [Htk.out, Ck.encB_snoc, stT_snoc, stX_snoc, ← List.append_assoc]
            exact hE7.alone
          case measure => simp [intOf]; omega
    · obtain rfl : j = len := by omega
      have hall : ps.take j = ps := List.take_of_length_le (by omega)
      rw [hall] at hE hasc
      have hfin := Lib.hid (encE_ok ps (by omega) (by omega) hasc.out)
      clear hall hlt
      have HLb2 : (Ck.encB St.zero XS.zero ps).length ≤ 9280 := by have := encB_len ps St.zero XS.zero; omega
      obtain ⟨L, hL⟩ : ∃ L, Hid (L = Ck.encB St.zero XS.zero ps) := ⟨_, Lib.hid rfl⟩
      rw [← hL.out] at hE HLb2
      have hl1 : IntKind.u64.wrap (j : Int) = (j : Int) := by rw [IntKind.wrap_u64]; omega
      have hl2 : IntKind.u64.wrap (L.length : Int) = (L.length : Int) := by rw [IntKind.wrap_u64]; omega
      have LN : ∀ W, Below wr.heap.size wr W → Calls Tryd.prog 16 #[.pointer (some ⟨p, 0, none⟩)] W fun e w' => e = .returned (.int .i64 (L.length : Nat)) ∧ W = w' := fun W hW => len_e3 _ _ _ _ _ _ _ _ _ _ (hE.keep hW)
      have TX : ∀ W, Below wr.heap.size wr W → Calls Tryd.prog 17 #[.pointer (some ⟨p, 0, none⟩)] W fun e w' => e = .returned (.string (mkS (pack L))) ∧ W = w' := fun W hW => text_e3 _ _ _ _ _ _ _ _ _ _ (hE.keep hW)
      have N1 := fun W => num_any j (by omega) W
      have N2 := fun W => num_any L.length (by omega) W
      have hji : ¬ (j : Int) < (j : Int) := by omega
      have hd1 := dig_len8 j (by omega)
      have hd2 := dig_len8 L.length (by omega)
      have hz1 : (mkS (numB j)).size + (mkS (numB L.length)).size ≤ 9223372036854775807 := by rw [mkS_size, mkS_size, numB_len, numB_len]; omega
      have hz2 : (mkS (numB j)).size + (mkS (numB L.length)).size + (mkS (pack L)).size ≤ 9223372036854775807 := by rw [mkS_size, mkS_size, mkS_size, numB_len, numB_len, pack_length]; omega
      clear hd1 hd2
      have tok : True := trivial
      go_upto_region 12 with (fail)
      go_wp2_with (first
        | (go_at_call 46; have _t := tok; refine (N1 _).mono ?_; rintro e w8 ⟨rfl, hb8⟩; clear tok)
        | (go_at_call 46; refine (N2 _).mono ?_; rintro e w9 ⟨rfl, hb9⟩)
        | (go_at_call 16; refine (LN _ hb8).mono ?_; rintro e w' ⟨rfl, rfl⟩)
        | (go_at_call 17; refine (TX _ (below_tr hb8 hb9)).mono ?_; rintro e w' ⟨rfl, rfl⟩))
      go_ret2
      rw [hfin.out.1, hfin.out.2]
      refine ⟨?_, below_tr (below_tr hbel hb8) hb9⟩
      show Ending.returned (.tuple #[.string (mkS (numB j) ++ mkS (numB L.length) ++ mkS (pack L)), .int .i64 0]) = _
      rw [mkS_append, mkS_append]
      unfold encBytes encBits
      rw [← hL.out, hz, List.append_assoc]; rfl
end Go.Proofs.YtdegmeclcbndgaaDoor
