/- The document's writer of points. -/
import Derived.Test.YtdegmeclcbndgaaDoorCkE
import Derived.Test.YtdegmeclcbndgaaDoorDigN
namespace Go.Proofs.YtdegmeclcbndgaaDoor
open Go.RowKit Bit Tim Xo Dig Ck

/-- The document's writer and coders, apart, above a line. -/
structure R3 (w : World) (B p ct cx : Nat) (s : St) (x : XS) (L : List Bool) : Prop where
  ex : ∃ v, CInv w ct s ∧ JInv w cx x ∧ RInv w p v L ∧ ∀ g, v.ownBlock = some g → B ≤ g ∧ g ≠ ct ∧ g ≠ cx
  ap : ct ≠ cx ∧ ct ≠ p ∧ cx ≠ p
  bb : B ≤ p ∧ B ≤ ct ∧ B ≤ cx
theorem R3.keep {w w' : World} {B p ct cx : Nat} {s : St} {x : XS} {L : List Bool} (h : R3 w B p ct cx s x L) (hb : Below w.heap.size w w') : R3 w' B p ct cx s x L := by
  obtain ⟨v, h1, h2, h3, h4⟩ := h.ex
  exact ⟨⟨v, h1.keep (Chg.of_below (fun _ => False) hb) (fun x => x), h2.keep (Chg.of_below (fun _ => False) hb) (fun x => x), h3.keep (Chg.of_below (fun _ => False) hb) (fun _ _ x => x), h4⟩, h.ap, h.bb⟩

theorem trput_r3 (w : World) (B p ct cx : Nat) (s : St) (x : XS) (L : List Bool) (t : Int) (h : R3 w B p ct cx s x L) (hB : B ≤ w.heap.size) (hL : L.length ≤ 1000000) :
    Calls Tryd.prog 47 #[.pointer (some ⟨ct, 0, none⟩), .pointer (some ⟨p, 0, none⟩), .int .i64 t] w fun e w' => e = .returned (.tuple #[]) ∧
      R3 w' B p ct cx (s.next t) x (L ++ encT s t) ∧ Below B w w' := by
  obtain ⟨v, h1, h2, h3, h4⟩ := h.ex
  obtain ⟨a1, a2, a3⟩ := h.ap
  obtain ⟨b1, b2, b3⟩ := h.bb
  refine (trput_any w ct p s v L t ⟨h1, h3, a2, fun e => (h4 ct e).2.1 rfl⟩ (by omega)).mono ?_
  rintro e w' ⟨rfl, v', hc, hS⟩
  have hcl : ct < w.heap.size := World.block_lt_of_cell? w _ h1.c0
  have hxl := h2.lt
  have ho : ∀ g, v'.ownBlock = some g → B ≤ g ∧ g ≠ ct ∧ g ≠ cx := fun g hg => by
    rcases hS.own g hg with h5 | h5
    · exact h4 g h5
    · exact ⟨by omega, by omega, by omega⟩
  have hbel : Below B w w' := hS.chg.below hB (fun k hk hf => by
    rcases hf with (e | e) | e
    · omega
    · have := h4 k e; omega
    · omega)
  refine ⟨rfl, ⟨⟨v', hc.cw, h2.keep hS.chg ?_, hc.ww, ho⟩, h.ap, h.bb⟩, hbel⟩
  rintro ((e | e) | e)
  · exact a3 e
  · exact (h4 cx e).2.2 rfl
  · exact a1 e.symm
theorem vrput_r3 (w : World) (B p ct cx : Nat) (s : St) (x : XS) (L : List Bool) (y : Nat) (hy : y < 18446744073709551616) (h : R3 w B p ct cx s x L) (hB : B ≤ w.heap.size) (hL : L.length ≤ 1000000) :
    Calls Tryd.prog 15 #[.pointer (some ⟨cx, 0, none⟩), .pointer (some ⟨p, 0, none⟩), .int .u64 y] w fun e w' => e = .returned (.tuple #[]) ∧
      R3 w' B p ct cx s (x.next y) (L ++ encV x y) ∧ Below B w w' := by
  obtain ⟨v, h1, h2, h3, h4⟩ := h.ex
  obtain ⟨a1, a2, a3⟩ := h.ap
  obtain ⟨b1, b2, b3⟩ := h.bb
  refine (vrput_any w cx p x v L y hy ⟨h2, h3, a3, fun e => (h4 cx e).2.2 rfl⟩ (by omega)).mono ?_
  rintro e w' ⟨rfl, v', hc, hS⟩
  have hcl : ct < w.heap.size := World.block_lt_of_cell? w _ h1.c0
  have hxl := h2.lt
  have ho : ∀ g, v'.ownBlock = some g → B ≤ g ∧ g ≠ ct ∧ g ≠ cx := fun g hg => by
    rcases hS.own g hg with h5 | h5
    · exact h4 g h5
    · exact ⟨by omega, by omega, by omega⟩
  have hbel : Below B w w' := hS.chg.below hB (fun k hk hf => by
    rcases hf with (e | e) | e
    · omega
    · have := h4 k e; omega
    · omega)
  refine ⟨rfl, ⟨⟨v', h1.keep hS.chg ?_, hc.cw, hc.ww, ho⟩, h.ap, h.bb⟩, hbel⟩
  rintro ((e | e) | e)
  · exact a2 e
  · exact (h4 ct e).2.1 rfl
  · exact a1 e

set_option maxRecDepth 100000 in
set_option maxHeartbeats 2000000 in
theorem rcenc_any (a : Option Addr) (len cap : Nat) (ps : List (Int × Nat)) (hz : ps.length = len) (hlen : len ≤ 4611686018427387904) (w : World) (hr : RowP .i64 .u64 w a (ptZ ps)) :
    Calls Tryd.prog 26 #[.slice a len cap] w fun e w' => e = .returned (.tuple #[.string (mkS (encS ps)), .int .i64 (encE ps : Nat)]) ∧ Below w.heap.size w w' := by
  go_enter Tryd.func26, Tryd.ntmps26
  by_cases h1 : len < 1
  · have hE := Lib.hid (encE_big ps (.inl (by omega)))
    have h1i : (len : Int) < 1 := by omega
    go_wp2
    go_ret2
    rw [hE.out.1, hE.out.2]
    exact ⟨rfl, Below.refl _ _⟩
  have h1i : ¬ (len : Int) < 1 := by omega
  by_cases h64 : 64 < len
  · have hE := Lib.hid (encE_big ps (.inr (by omega)))
    have h64i : (64 : Int) < (len : Int) := by omega
    go_wp2
    go_ret2
    rw [hE.out.1, hE.out.2]
    exact ⟨rfl, Below.refl _ _⟩
  have h64i : ¬ (64 : Int) < (len : Int) := by omega
  go_upto_region 5 with (fail)
  obtain ⟨wa, hwa⟩ : ∃ wa, Hid (wa = w.alloc (.cells #[.slice none 0 0] 34)) := ⟨_, Lib.hid rfl⟩
  have hba : Below w.heap.size w wa := by rw [hwa.out]; exact (Below.refl _ _).alloc (Nat.le_refl _) _
  have hRa : RInv wa w.heap.size (.slice none 0 0) [] := by rw [hwa.out]; exact ⟨by simp, by simp, World.ownsRow_nil _ _ _ _, by simp [Value.ownBlock]⟩
  have hsa : wa.heap.size = w.heap.size + 1 := by rw [hwa.out]; simp
  rw [← hwa.out]
  obtain ⟨wb, hwb⟩ : ∃ wb, Hid (wb = wa.alloc (.cells #[.bool false, .int .i64 0, .int .i64 0] 90)) := ⟨_, Lib.hid rfl⟩
  have hbb : Below wa.heap.size wa wb := by rw [hwb.out]; exact (Below.refl _ _).alloc (Nat.le_refl _) _
  have hCb : CInv wb wa.heap.size St.zero := by rw [hwb.out]; exact ⟨by simp [St.zero], by simp [St.zero], by simp [St.zero], by simp, by simp, by simp⟩
  have hsb : wb.heap.size = w.heap.size + 1 + 1 := by rw [hwb.out]; simp [hsa]
  rw [← hwb.out]
  obtain ⟨wc, hwc⟩ : ∃ wc, Hid (wc = wb.alloc (.cells #[.bool false, .int .u64 0, .bool false, .int .i64 0, .int .i64 0] 28)) := ⟨_, Lib.hid rfl⟩
  have hbc : Below wb.heap.size wb wc := by rw [hwc.out]; exact (Below.refl _ _).alloc (Nat.le_refl _) _
  have hJc : JInv wc wb.heap.size XS.zero := by rw [hwc.out]; exact ⟨RowV.new wb _ _, XOk.zero⟩
  rw [← hwc.out]
  have hbel0 : Below w.heap.size w wc := below_tr (below_tr hba hbb) hbc
  have hE0 : R3 wc w.heap.size w.heap.size (w.heap.size + 1) (w.heap.size + 1 + 1) St.zero XS.zero [] := by
    rw [hsa] at hCb
    rw [hsb] at hJc
    exact ⟨⟨_, hCb.keep (Chg.of_below (fun _ => False) hbc) (fun x => x), hJc, (hRa.keep (Chg.of_below (fun _ => False) hbb) (fun _ _ x => x)).keep (Chg.of_below (fun _ => False) hbc) (fun _ _ x => x), fun g hg => by simp [Value.ownBlock] at hg⟩, ⟨by omega, by omega, by omega⟩, ⟨by omega, by omega, by omega⟩⟩
  obtain ⟨p, hp⟩ : ∃ p, Hid (p = w.heap.size) := ⟨_, Lib.hid rfl⟩
  obtain ⟨ct, hct⟩ : ∃ p, Hid (p = w.heap.size + 1) := ⟨_, Lib.hid rfl⟩
  obtain ⟨cx, hcx⟩ : ∃ p, Hid (p = w.heap.size + 1 + 1) := ⟨_, Lib.hid rfl⟩
  have hE1 : R3 wc w.heap.size p ct cx St.zero XS.zero [] := by rw [hp.out, hct.out, hcx.out]; exact hE0
  rw [← hcx.out, ← hct.out, ← hp.out]
  clear hE0 hba hbb hbc hRa hCb hJc hsa hsb
  go_wp2
  go_loopw [7] (fun i wr => ∃ j : Nat, j ≤ len ∧ i = .int .i64 j ∧ R3 wr w.heap.size p ct cx (stT St.zero (ps.take j)) (stX XS.zero (ps.take j)) (Ck.encB St.zero XS.zero (ps.take j)) ∧ Hid (ascB (ps.take j) = true) ∧ Below w.heap.size w wr) (fun i _ => 64 - (intOf i).toNat)
  case atStart => exact ⟨0, by omega, rfl, hE1, Lib.hid (by simp [ascB]), hbel0⟩
  case round =>
    obtain ⟨j, hj, rfl, hE, hasc, hbel⟩ := hrel
    clear hE1 hbel0
    have hLb := encB_len (ps.take j) St.zero XS.zero
    have hLb2 : (Ck.encB St.zero XS.zero (ps.take j)).length ≤ 9280 := by rw [List.length_take] at hLb; omega
    have HLb := Lib.hid hLb2
    clear hLb hLb2
    by_cases hlt : j < len
    · have hjl : (j : Int) < (len : Int) := by omega
      have hr2 := hr.below hbel
      have hBw : w.heap.size ≤ wr.heap.size := hbel.size
      rcases hr2.row with h0 | ⟨x, rfl, hc⟩
      · have := congrArg List.length h0; simp [ptZ, hz] at this; omega
      have hzj := List.getElem?_eq_getElem (l := ps) (i := j) (by omega)
      obtain ⟨⟨t, y⟩, hVN⟩ : ∃ z, Hid (ps[j]'(by omega) = z) := ⟨_, Lib.hid rfl⟩
      rw [hVN.out] at hzj
      have hmz : (ptZ ps)[j]? = some (t, (y : Int)) := by rw [ptZ, List.getElem?_map, hzj]; rfl
      obtain ⟨hc0, hc1⟩ := hc j (t, (y : Int)) hmz
      have hwf := hr.wf (t, (y : Int)) (List.mem_map.mpr ⟨(t, y), List.mem_of_getElem? hzj, rfl⟩)
      have hy := (wf_u64 hwf.2).2
      have hy2 : y < 18446744073709551616 := by simp only at hy; omega
      simp only at hc0 hc1
      have htk : ps.take (j + 1) = ps.take j ++ [(t, y)] := by rw [List.take_add_one, hzj]; rfl
      have Htk := Lib.hid htk
      have Hzj := Lib.hid hzj
      have Hmz := Lib.hid hmz
      clear htk hzj hwf hy hmz
      by_cases hj0 : j = 0
      · have hj0n : decide (0 < j) = false := by simp [hj0]
        have Hj0 := Lib.hid hj0
        clear hj0
        go_upto_region 8 with (fail)
        go_quiet (fail)
        have hb5 : Below wr.heap.size wr (wr.drewN nq) := below_drewN (Below.refl _ _) _
        have hE5 := hE.keep hb5
        have hbel5 := below_tr hbel hb5
        have hB5 : w.heap.size ≤ (wr.drewN nq).heap.size := hbel5.size
        have hr5 := hr2.below hb5
        clear hE hbel hb5 hr2 hc hc0 hc1
        generalize wr.drewN nq = w5 at hE5 hbel5 hB5 hr5 ⊢
        rcases hr5.row with h0 | ⟨x', hx', hc⟩
        · have := congrArg List.length h0; simp [ptZ, hz] at this; omega
        obtain rfl := Option.some.inj hx'
        obtain ⟨hc0, hc1⟩ := hc j (t, (y : Int)) Hmz.out
        simp only at hc0 hc1
        clear hc
        go_upto_region 11 with (go_at_call 47; refine (trput_r3 w5 _ _ _ _ _ _ _ t hE5 hB5 (by have := HLb.out; omega)).mono ?_; rintro e w6 ⟨rfl, hE6, hb6⟩)
        have hB6 : w.heap.size ≤ w6.heap.size := Nat.le_trans hB5 hb6.size
        have hbel6 := hbel5.trans hb6
        have hr6 := hr.below hbel6
        rcases hr6.row with h0 | ⟨x', hx', hc⟩
        · have := congrArg List.length h0; simp [ptZ, hz] at this; omega
        obtain rfl := Option.some.inj hx'
        obtain ⟨hd0, hd1⟩ := hc j (t, (y : Int)) Hmz.out
        simp only at hd0 hd1
        clear hc hc0 hc1 hr5
        go_wp2_with (go_at_call 15; refine (vrput_r3 w6 _ _ _ _ _ _ _ y hy2 hE6 hB6 (by have := HLb.out; have := encT_len (stT St.zero (List.take (j) ps)) t; rw [List.length_append]; omega)).mono ?_; rintro e w7 ⟨rfl, hE7, hb7⟩)
        go_roundw
        case rel =>
          refine ⟨j + 1, by omega, by go_num, ?_, Lib.hid (by rw [Htk.out, Hj0.out]; simp [ascB]), hbel6.trans hb7⟩
          rw [Htk.out, Ck.encB_snoc, stT_snoc, stX_snoc, ← List.append_assoc]
          exact hE7
        case measure => simp [intOf]; omega
      · obtain ⟨k, rfl⟩ : ∃ k, j = k + 1 := ⟨j - 1, by omega⟩
        have hzk := List.getElem?_eq_getElem (l := ps) (i := k) (by omega)
        obtain ⟨⟨t', y'⟩, hVN'⟩ : ∃ z, Hid (ps[k]'(by omega) = z) := ⟨_, Lib.hid rfl⟩
        rw [hVN'.out] at hzk
        obtain ⟨hk0c, hk1c⟩ := hc k (t', (y' : Int)) (by rw [ptZ, List.getElem?_map, hzk]; rfl)
        simp only at hk0c
        have hst := Lib.hid (ascB_step ps k (t', y') (t, y) hzk Hzj.out)
        clear hzk hk1c hj0
        have hk0 : ((k + 1 : Nat) : Int) - 1 = (k : Int) := by omega
        have hkl : (k : Int) < (len : Int) := by omega
        have hk1 : (0 : Int) < ((k + 1 : Nat) : Int) := by omega
        by_cases hle : t ≤ t'
        · have hasc2 : ascB ps = false := by
            rcases Bool.eq_false_or_eq_true (ascB ps) with h | h
            · have h2 := ascB_take ps h (k + 2)
              rw [hst.out, hasc.out] at h2
              simp at h2; omega
            · exact h
          have hfin := Lib.hid (encE_ord ps (by omega) (by omega) hasc2)
          clear hasc2
          go_upto_region 8 with (fail)
          go_quiet (fail)
          go_wp2
          go_ret2
          rw [hfin.out.1, hfin.out.2]
          exact ⟨rfl, below_drewN hbel _⟩
        · go_upto_region 8 with (fail)
          go_quiet (fail)
          have hb5 : Below wr.heap.size wr (wr.drewN nq) := below_drewN (Below.refl _ _) _
          have hE5 := hE.keep hb5
          have hbel5 := below_tr hbel hb5
          have hB5 : w.heap.size ≤ (wr.drewN nq).heap.size := hbel5.size
          have hr5 := hr2.below hb5
          clear hE hbel hb5 hr2 hc hc0 hc1 hk0c
          generalize wr.drewN nq = w5 at hE5 hbel5 hB5 hr5 ⊢
          rcases hr5.row with h0 | ⟨x', hx', hc⟩
          · have := congrArg List.length h0; simp [ptZ, hz] at this; omega
          obtain rfl := Option.some.inj hx'
          obtain ⟨hc0, hc1⟩ := hc (k + 1) (t, (y : Int)) Hmz.out
          simp only at hc0 hc1
          clear hc
          go_upto_region 11 with (go_at_call 47; refine (trput_r3 w5 _ _ _ _ _ _ _ t hE5 hB5 (by have := HLb.out; omega)).mono ?_; rintro e w6 ⟨rfl, hE6, hb6⟩)
          have hB6 : w.heap.size ≤ w6.heap.size := Nat.le_trans hB5 hb6.size
          have hbel6 := hbel5.trans hb6
          have hr6 := hr.below hbel6
          rcases hr6.row with h0 | ⟨x', hx', hc⟩
          · have := congrArg List.length h0; simp [ptZ, hz] at this; omega
          obtain rfl := Option.some.inj hx'
          obtain ⟨hd0, hd1⟩ := hc (k + 1) (t, (y : Int)) Hmz.out
          simp only at hd0 hd1
          clear hc hc0 hc1 hr5
          go_wp2_with (go_at_call 15; refine (vrput_r3 w6 _ _ _ _ _ _ _ y hy2 hE6 hB6 (by have := HLb.out; have := encT_len (stT St.zero (List.take ((k + 1)) ps)) t; rw [List.length_append]; omega)).mono ?_; rintro e w7 ⟨rfl, hE7, hb7⟩)
          go_roundw
          case rel =>
            refine ⟨(k + 1) + 1, by omega, by go_num, ?_, Lib.hid (by rw [hst.out, hasc.out]; simp; omega), hbel6.trans hb7⟩
            rw [Htk.out, Ck.encB_snoc, stT_snoc, stX_snoc, ← List.append_assoc]
            exact hE7
          case measure => simp [intOf]; omega
    · obtain rfl : j = len := by omega
      have hall : ps.take j = ps := List.take_of_length_le (by omega)
      rw [hall] at hE hasc
      have hfin := Lib.hid (encE_ok ps (by omega) (by omega) hasc.out)
      clear hall hlt
      have HLb2 : (Ck.encB St.zero XS.zero ps).length ≤ 9280 := by have := encB_len ps St.zero XS.zero; omega
      obtain ⟨L, hL⟩ : ∃ L, Hid (L = Ck.encB St.zero XS.zero ps) := ⟨_, Lib.hid rfl⟩
      rw [← hL.out] at hE HLb2
      have hl1 : IntKind.u64.wrap (j : Int) = (j : Int) := by rw [IntKind.wrap_u64]; omega
      have hl2 : IntKind.u64.wrap (L.length : Int) = (L.length : Int) := by rw [IntKind.wrap_u64]; omega
      obtain ⟨v, hCI, hJI, hRI, _⟩ := hE.ex
      obtain ⟨ua, ucap, rfl⟩ := owns_slice hRI.own
      have N1 := fun W => refnum_any j (by omega) W
      have N2 := fun W => refnum_any L.length (by omega) W
      have hji : ¬ (j : Int) < (j : Int) := by omega
      have hd1 := dig_len8 j (by omega)
      have hd2 := dig_len8 L.length (by omega)
      have hz1 : (mkS (numB j)).size + (mkS (numB L.length)).size ≤ 9223372036854775807 := by rw [mkS_size, mkS_size, numB_len, numB_len]; omega
      have hz2 : (mkS (numB j)).size + (mkS (numB L.length)).size + (mkS (pack L)).size ≤ 9223372036854775807 := by rw [mkS_size, mkS_size, mkS_size, numB_len, numB_len, pack_length]; omega
      clear hd1 hd2
      go_upto_region 12 with (fail)
      refine wp_region_det_list (by kernel_rfl) (by kernel_rfl) (SL [eqv (.slice a j cap), eqv (.int .i64 (j : Nat)), eqv (.int .u64 (j : Nat)), eqv (.string (mkS (numB j))), eqv (.pointer (some ⟨p, 0, none⟩)), eqv (.pointer (some ⟨p, 0, none⟩)), eqv (.pointer (some ⟨p, 0, none⟩)), eqv (.slice ua L.length ucap), eqv (.int .i64 (L.length : Nat)), eqv (.int .u64 (L.length : Nat)), eqv (.string (mkS (numB L.length))), eqv (.string (mkS (numB j) ++ mkS (numB L.length))), eqv (.pointer (some ⟨p, 0, none⟩)), eqv (.string (mkS (pack L))), eqv (.string (mkS (numB j) ++ mkS (numB L.length) ++ mkS (pack L))), eqv (.string (mkS (numB j) ++ mkS (numB L.length) ++ mkS (pack L))), eqv (.int .i64 0)]) (fun W => Below wr.heap.size wr W) Grow ?hJ ?hX ?hop ?hend
      case hJ => exact (Below.refl wr.heap.size wr).drew
      case hX => exact SL_mono _ ⟨mono_eqv _, mono_eqv _, mono_eqv _, mono_eqv _, mono_eqv _, mono_eqv _, mono_eqv _, mono_eqv _, mono_eqv _, mono_eqv _, mono_eqv _, mono_eqv _, mono_eqv _, mono_eqv _, mono_eqv _, mono_eqv _, mono_eqv _, trivial⟩
      case hop =>
        refine ⟨fun vals W hJ hS => ?_, fun vals W hJ hS => ?_, fun vals W hJ hS => ?_, fun vals W hJ hS => ?_, fun vals W hJ hS => ?_, fun vals W hJ hS => ?_, fun vals W hJ hS => ?_, fun vals W hJ hS => ?_, fun vals W hJ hS => ?_, fun vals W hJ hS => ?_, fun vals W hJ hS => ?_, fun vals W hJ hS => ?_, fun vals W hJ hS => ?_, fun vals W hJ hS => ?_, fun vals W hJ hS => ?_, fun vals W hJ hS => ?_, fun vals W hJ hS => ?_, trivial⟩
        · clear hS
          simp only [fillTo]
          go_wp2
          exact ⟨rfl, SL_eq rfl rfl, hJ, Below.refl _ _⟩
        · have h0 := SL_val rfl (hS 0 (by kernel_rfl))
          clear hS
          simp only [fillTo]
          go_simp
          generalize vals 0 = v0 at h0 ⊢
          subst h0
          go_wp2
          exact ⟨rfl, SL_eq rfl rfl, hJ, Below.refl _ _⟩
        · have h1 := SL_val rfl (hS 1 (by kernel_rfl))
          clear hS
          simp only [fillTo]
          go_simp
          generalize vals 1 = v1 at h1 ⊢
          subst h1
          go_wp2
          exact ⟨rfl, SL_eq rfl rfl, hJ, Below.refl _ _⟩
        · have h2 := SL_val rfl (hS 2 (by kernel_rfl))
          clear hS
          simp only [fillTo]
          go_simp
          generalize vals 2 = v2 at h2 ⊢
          subst h2
          go_wp2_with ((go_at_call 48; refine (N1 _).mono ?_; rintro e w' ⟨rfl, hb⟩))
          exact ⟨rfl, SL_eq rfl rfl, hJ.trans (hb.mono hJ.size), hb⟩
        · clear hS
          simp only [fillTo]
          go_simp
          go_wp2
          exact ⟨rfl, SL_eq rfl rfl, hJ, Below.refl _ _⟩
        · have h4 := SL_val rfl (hS 4 (by kernel_rfl))
          clear hS
          simp only [fillTo]
          go_simp
          generalize vals 4 = v4 at h4 ⊢
          subst h4
          go_wp2
          exact ⟨rfl, SL_eq rfl rfl, hJ, Below.refl _ _⟩
        · have h5 := SL_val rfl (hS 5 (by kernel_rfl))
          clear hS
          simp only [fillTo]
          go_simp
          generalize vals 5 = v5 at h5 ⊢
          subst h5
          go_wp2
          exact ⟨rfl, SL_eq rfl rfl, hJ, Below.refl _ _⟩
        · have h6 := SL_val rfl (hS 6 (by kernel_rfl))
          have hkc := (hRI.keep (Chg.of_below (fun _ => False) hJ) (fun _ _ x => x)).c0
          clear hS
          simp only [fillTo]
          go_simp
          generalize vals 6 = v6 at h6 ⊢
          subst h6
          go_wp2
          exact ⟨rfl, SL_eq rfl rfl, hJ, Below.refl _ _⟩
        · have h7 := SL_val rfl (hS 7 (by kernel_rfl))
          clear hS
          simp only [fillTo]
          go_simp
          generalize vals 7 = v7 at h7 ⊢
          subst h7
          go_wp2
          exact ⟨rfl, SL_eq rfl rfl, hJ, Below.refl _ _⟩
        · have h8 := SL_val rfl (hS 8 (by kernel_rfl))
          clear hS
          simp only [fillTo]
          go_simp
          generalize vals 8 = v8 at h8 ⊢
          subst h8
          go_wp2
          exact ⟨rfl, SL_eq rfl rfl, hJ, Below.refl _ _⟩
        · have h9 := SL_val rfl (hS 9 (by kernel_rfl))
          clear hS
          simp only [fillTo]
          go_simp
          generalize vals 9 = v9 at h9 ⊢
          subst h9
          go_wp2_with ((go_at_call 48; refine (N2 _).mono ?_; rintro e w' ⟨rfl, hb⟩))
          exact ⟨rfl, SL_eq rfl rfl, hJ.trans (hb.mono hJ.size), hb⟩
        · have h3 := SL_val rfl (hS 3 (by kernel_rfl))
          have h10 := SL_val rfl (hS 10 (by kernel_rfl))
          clear hS
          simp only [fillTo]
          go_simp
          generalize vals 3 = v3 at h3 ⊢
          subst h3
          generalize vals 10 = v10 at h10 ⊢
          subst h10
          go_wp2
          exact ⟨rfl, SL_eq rfl rfl, hJ, Below.refl _ _⟩
        · clear hS
          simp only [fillTo]
          go_simp
          go_wp2
          exact ⟨rfl, SL_eq rfl rfl, hJ, Below.refl _ _⟩
        · have h12 := SL_val rfl (hS 12 (by kernel_rfl))
          clear hS
          simp only [fillTo]
          go_simp
          generalize vals 12 = v12 at h12 ⊢
          subst h12
          go_wp2_with ((go_at_call 18; refine (rreftext_any W _ _ _ (hRI.keep (Chg.of_below (fun _ => False) hJ) (fun _ _ x => x)) (by omega)).mono ?_; rintro e w' ⟨rfl, hb⟩))
          exact ⟨rfl, SL_eq rfl rfl, hJ.trans (hb.mono hJ.size), hb⟩
        · have h11 := SL_val rfl (hS 11 (by kernel_rfl))
          have h13 := SL_val rfl (hS 13 (by kernel_rfl))
          clear hS
          simp only [fillTo]
          go_simp
          generalize vals 11 = v11 at h11 ⊢
          subst h11
          generalize vals 13 = v13 at h13 ⊢
          subst h13
          go_wp2
          exact ⟨rfl, SL_eq rfl rfl, hJ, Below.refl _ _⟩
        · have h14 := SL_val rfl (hS 14 (by kernel_rfl))
          clear hS
          simp only [fillTo]
          go_simp
          generalize vals 14 = v14 at h14 ⊢
          subst h14
          go_wp2
          exact ⟨rfl, SL_eq rfl rfl, hJ, Below.refl _ _⟩
        · clear hS
          simp only [fillTo]
          go_simp
          go_wp2
          exact ⟨rfl, SL_eq rfl rfl, hJ, Below.refl _ _⟩
      case hend =>
        intro vals W hJ hS
        have h15 := SL_val rfl (hS 15 (by decide))
        have h16 := SL_val rfl (hS 16 (by decide))
        clear hS
        simp only [List.size_toArray, List.length_cons, List.length_nil, Nat.reduceAdd, fillTo]
        go_simp
        generalize vals 15 = v15 at h15 ⊢
        subst h15
        generalize vals 16 = v16 at h16 ⊢
        subst h16
        go_wp2
        go_ret2
        rw [hfin.out.1, hfin.out.2]
        refine ⟨?_, hbel.trans (hJ.mono hbel.size)⟩
        show Ending.returned (.tuple #[.string (mkS (numB j) ++ mkS (numB L.length) ++ mkS (pack L)), .int .i64 0]) = _
        rw [mkS_append, mkS_append]
        unfold encBytes encBits
        rw [← hL.out, hz, List.append_assoc]; rfl
end Go.Proofs.YtdegmeclcbndgaaDoor
