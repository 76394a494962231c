/- The law SnapBack. -/
import Derived.Test.YtmaebileagfdaaaSnapW
import Derived.Test.YtmaebileagfdaaaSlice
import Derived.Test.YtmaebileagfdaaaSnapLaw
import Derived.Laws.Strings
import Derived.Deep.RegionWith
namespace Go.Proofs.Ytmaebileagfdaaa
open Go.RowKit Crc Dk Snp

theorem encQ_set (l : List (Nat × List UInt8)) (j : Nat) (x : Nat × List UInt8) (hj : j < l.length) : ((encQ l).set (j * 2) (.int .i64 (x.1 : Nat))).set (j * 2 + 1) (.string (mkS x.2)) = encQ (l.set j x) := by
  induction l generalizing j with
  | nil => simp at hj
  | cons a l ih =>
    have e2 : ∀ (y : Nat × List UInt8) (r : List (Nat × List UInt8)), encQ (y :: r) = .int .i64 (y.1 : Nat) :: .string (mkS y.2) :: encQ r := fun y r => by simp [encQ]
    cases j with
    | zero => simp [e2]
    | succ j =>
      have e1 : (j + 1) * 2 = j * 2 + 2 := by omega
      rw [e1, e2, List.set_cons_succ, List.set_cons_succ, List.set_cons_succ, List.set_cons_succ, List.set_cons_succ, e2, ih j (by simpa using hj)]

theorem pieces_range (S : List UInt8) : pieces S = (List.range (npc S)).map (piece S) := rfl

set_option maxRecDepth 100000 in
set_option maxHeartbeats 2000000 in
theorem snapBack_walk (s : ByteArray) (a1 : Option Addr) (l1 p1 : Nat) (z1 : List Int) (a2 : Option Addr) (l2 p2 : Nat) (z2 : List Int) (hs : s.size ≤ 140737488351232) (hz1 : z1.length = l1) (hb1 : l1 * 8 ≤ 140737488351232) (hz2 : z2.length = l2) (hb2 : l2 * 8 ≤ 140737488351232) (w : World) (hr1 : RowI .i64 w a1 z1) (hr2 : RowI .i64 w a2 z2) :
    Calls Try.prog 6 #[.string s, .slice a1 l1 p1, .slice a2 l2 p2] w fun e w' => e = .returned (.bool true) ∧ Below w.heap.size w w' := by
  go_enter Try.func6, Try.ntmps6
  go_upto_region 3 with (go_at_call 25; refine (sworks_any _).mono ?_; rintro y w0 ⟨rfl, hb0⟩)
  by_cases he : s = { data := #[] }
  · subst he
    go_wp2
    go_ret
    exact ⟨rfl, hb0⟩
  have hs0 : s.size ≠ 0 := fun e => he (by apply ByteArray.ext; exact Array.eq_empty_of_size_eq_zero e)
  have hE0 : s.toList.isEmpty = false := by
    rw [ByteArray.toList_eq]
    cases hl : s.data.toList with
    | nil => have := size_toList s; rw [hl, List.length_nil] at this; omega
    | cons _ _ => rfl
  have hE1 : ¬ s.toList = [] := fun e => by rw [e] at hE0; cases hE0
  by_cases hbig : 4000 < (s.size : Int)
  · go_wp2
    go_ret
    exact ⟨rfl, hb0⟩
  obtain ⟨S, hS⟩ : ∃ S, Hid (S = s.data.toList) := ⟨_, Lib.hid rfl⟩
  have hSl : Hid (S.length = s.size) := Lib.hid (by rw [hS.out, ← size_toList])
  obtain ⟨m, hm⟩ : ∃ m, Hid (m = npc S) := ⟨_, Lib.hid rfl⟩
  have hm0 : 0 < m := by rw [hm.out, lt_npc, hSl.out]; omega
  have hm1 : m ≤ 1000 := by rw [hm.out, npc, hSl.out]; omega
  have C1 := fun W => cut_any s (by omega) W
  have K1 := fun W => keyof_any 1 s (by omega) W
  unfold keyV at K1
  rw [← hS.out, pieces_range, ← hm.out, List.length_map, List.length_range] at C1
  obtain ⟨M, hM⟩ : ∃ M, Hid (M = moreN 0 S) := ⟨_, Lib.hid rfl⟩
  obtain ⟨N, hN⟩ : ∃ N, Hid (N = S.length) := ⟨_, Lib.hid rfl⟩
  rw [← hS.out, ← hM.out, ← hN.out] at K1
  go_upto_region 6 with (first
    | (go_at_call 17; refine (C1 _).mono ?_; rintro y w1 ⟨v1, rfl, ho1, hv1, hb1⟩)
    | (go_at_call 15; refine (K1 _).mono ?_; rintro y w2 ⟨rfl, hb2⟩))
  obtain ⟨g, cap, rfl, hcap, hrp, hob⟩ := own_rowV ho1 hm0
  have hgw : w.heap.size ≤ g := Nat.le_trans hb0.size (hv1 g hob)
  have hgl : g < w1.heap.size := hrp.lt (by rw [encQ_len]; simp; omega)
  have hal : Below w2.heap.size w2 (w2.alloc (.cells #[.int .i64 1, .int .i64 (N : Nat), .int .u32 (M : Nat)] 24)) := (Below.refl _ _).alloc (Nat.le_refl _) _
  have hk3 : RowV (w2.alloc (.cells #[.int .i64 1, .int .i64 (N : Nat), .int .u32 (M : Nat)] 24)) w2.heap.size [.int .i64 1, .int .i64 (N : Nat), .int .u32 (M : Nat)] := RowV.new w2 [.int .i64 1, .int .i64 (N : Nat), .int .u32 (M : Nat)] 24
  have hB3 := below_tr (below_tr (below_tr hb0 hb1) hb2) hal
  have hr3 := (hrp.below hb2).below hal
  have hgK : g < w2.heap.size := Nat.lt_of_lt_of_le hgl hb2.size
  have hKw : w.heap.size ≤ w2.heap.size := by have := hb0.size; have := hb1.size; have := hb2.size; omega
  have hKl : w2.heap.size < (w2.alloc (.cells #[.int .i64 1, .int .i64 (N : Nat), .int .u32 (M : Nat)] 24)).heap.size := by simp
  generalize (w2.alloc (.cells #[.int .i64 1, .int .i64 (N : Nat), .int .u32 (M : Nat)] 24)) = w3 at hk3 hB3 hr3 hKl ⊢
  obtain ⟨KB, hKB⟩ : ∃ KB, KB = w2.heap.size := ⟨_, rfl⟩
  rw [← hKB] at hk3 hgK hKw hKl ⊢
  clear hKB hal hb2 hb1 hb0 hv1 ho1 hrp hob hgl C1 K1
  go_upto_block 0 with (fail)
  --MARK1
  go_cut [9, 10, 11] from 31 to 68 (fun _ _ _ wx => ∃ c : List Nat, Hid (Once m c) ∧ RowV wx g (encQ (c.map (piece S))) ∧ Chg (fun k => k = g) w3 wx)
  case first =>
    go_wp2
    go_loopw [9] (fun i wr => ∃ (j : Nat) (c : List Nat), j ≤ l1 ∧ j ≤ 50 ∧ i = .int .i64 j ∧ Hid (Once m c) ∧ RowV wr g (encQ (c.map (piece S))) ∧ Chg (fun k => k = g) w3 wr) (fun i _ => l1 - (intOf i).toNat)
    case atStart => exact ⟨0, List.range m, by omega, by omega, rfl, Lib.hid (Once.range m), hr3, Chg.refl _ _⟩
    case round =>
      obtain ⟨j, c, hj, hj5, rfl, hO, hr, hch⟩ := hrel
      by_cases hlt : j < l1
      · have hlti : (j : Int) < (l1 : Int) := by omega
        by_cases h50 : j < 50
        · have h50i : (j : Int) < 50 := by omega
          have hbw : Below w.heap.size w wr := hch.below_tr hB3 (fun k hk e => by omega)
          have hrz := hr1.below hbw
          obtain ⟨z, hz⟩ : ∃ z, Hid (z1[j]? = some z) := ⟨_, Lib.hid (List.getElem?_eq_getElem (by omega))⟩
          obtain ⟨_, hrow⟩ := hrz
          rcases hrow with h9 | ⟨ad, rfl, h9⟩
          · subst h9; simp at hz1; omega
          have t0 := h9 j z hz.out
          obtain ⟨a, ha, ha2⟩ := umod_k z (m : Int) (by omega) (by omega)
          have hjm : (j : Int) % (m : Int) = ((j % m : Nat) : Int) := rfl
          obtain ⟨b, hb⟩ : ∃ b, b = j % m := ⟨_, rfl⟩
          have hbm : b < m := by rw [hb]; exact Nat.mod_lt _ hm0
          rw [← hb] at hjm
          have hmne : ¬ (m : Int) = 0 := by omega
          clear h9
          go_upto_region 9 with (fail)
          go_cut [10, 11] from 41 to 54 (fun x y wx => x = .int .i64 a ∧ y = .int .i64 b ∧ Below wr.heap.size wr wx)
          case first =>
            go_quiet (fail)
            --MARK1
            go_wp2
            go_meet
            case rel => exact ⟨by rw [ha], by rw [hjm], below_drewN (Below.refl _ _) _⟩
          case rest =>
            obtain ⟨rfl, rfl, hbx⟩ := hcut
            have hcl := hO.out.len
            have ham : a < m := by omega
            obtain ⟨x, hx⟩ : ∃ x, Hid (c[a]? = some x) := ⟨_, Lib.hid (List.getElem?_eq_getElem (by omega))⟩
            obtain ⟨y, hy⟩ : ∃ y, Hid (c[b]? = some y) := ⟨_, Lib.hid (List.getElem?_eq_getElem (by omega))⟩
            have hrx := hr.below hbx
            have hpx : (c.map (piece S))[a]? = some (piece S x) := by rw [List.getElem?_map, hx.out]; rfl
            have hpy : (c.map (piece S))[b]? = some (piece S y) := by rw [List.getElem?_map, hy.out]; rfl
            obtain ⟨⟨c0, f0⟩, c1, f1⟩ := rowV_piece hrx a _ hpx
            obtain ⟨⟨d0, e0⟩, d1, e1⟩ := rowV_piece hrx b _ hpy
            clear hpx hpy ha hjm t0 hb
            obtain ⟨X, hX⟩ : ∃ X, Hid (X = piece S x) := ⟨_, Lib.hid rfl⟩
            obtain ⟨Y, hY⟩ : ∃ Y, Hid (Y = piece S y) := ⟨_, Lib.hid rfl⟩
            rw [← hX.out] at c0 c1
            rw [← hY.out] at d0 d1
            have hami : (a : Int) < (m : Int) := by omega
            have hbmi : (b : Int) < (m : Int) := by omega
            have k1 : ¬ a * 2 = b * 2 + 1 := by omega
            have k2 : ¬ b * 2 = a * 2 + 1 := by omega
            have k3 : ¬ a * 2 + 1 = b * 2 := by omega
            have k4 : ¬ b * 2 + 1 = a * 2 := by omega
            have hsw := hO.out.swap a b x y hx.out hy.out
            have hfin : ∀ W : World, W = (((wc.setCell ⟨g, a * 2, none⟩ (.int .i64 (Y.1 : Nat))).setCell ⟨g, a * 2 + 1, none⟩ (.string (mkS Y.2))).setCell ⟨g, b * 2, none⟩ (.int .i64 (X.1 : Nat))).setCell ⟨g, b * 2 + 1, none⟩ (.string (mkS X.2)) →
                RowV W g (encQ (((c.set a y).set b x).map (piece S))) ∧ Chg (fun k => k = g) wc W := fun W hW => by
              have hE : (((((encQ (c.map (piece S))).set (a * 2) (.int .i64 (Y.1 : Nat))).set (a * 2 + 1) (.string (mkS Y.2))).set (b * 2) (.int .i64 (X.1 : Nat))).set (b * 2 + 1) (.string (mkS X.2))) = encQ (((c.set a y).set b x).map (piece S)) := by
                rw [encQ_set _ a Y (by simp; omega), encQ_set _ b X (by simp; omega), hX.out, hY.out]
                simp [List.map_set]
              have hlen : (encQ (c.map (piece S))).length = m * 2 := by rw [encQ_len, List.length_map, hcl]
              have h4 := (((hrx.set (a * 2) (by omega) (.int .i64 (Y.1 : Nat))).set (a * 2 + 1) (by simp; omega) (.string (mkS Y.2))).set (b * 2) (by simp; omega) (.int .i64 (X.1 : Nat))).set (b * 2 + 1) (by simp; omega) (.string (mkS X.2))
              rw [hE] at h4
              subst hW
              exact ⟨h4, (((Chg.setCell wc ⟨g, a * 2, none⟩ _).trans (Chg.setCell _ ⟨g, a * 2 + 1, none⟩ _) (fun _ _ x => x)).trans (Chg.setCell _ ⟨g, b * 2, none⟩ _) (fun _ _ x => x)).trans (Chg.setCell _ ⟨g, b * 2 + 1, none⟩ _) (fun _ _ x => x)⟩
            have Hfin := Lib.hid hfin
            have Hsw := Lib.hid hsw
            clear hfin hsw hrx
            go_upto_region 10 with (fail)
            by_cases hab : a = b
            · subst hab
              obtain rfl : x = y := by have := hx.out.symm.trans hy.out; exact Option.some.inj this
              obtain rfl : X = Y := by rw [hX.out, hY.out]
              clear d0 d1 e0 e1
              go_region
              go_wp2
              go_roundw
              case rel =>
                obtain ⟨r, h⟩ := Hfin.out _ rfl
                refine ⟨j + 1, _, by omega, by omega, by go_num, Hsw, r.keep (Chg.drew (fun _ => False) _) (fun x => x), ((hch.trans (Chg.of_below _ hbx) (fun _ _ x => x)).trans h (fun _ _ x => x)).trans (Chg.drew _ _) (fun _ _ x => x)⟩
              case measure => simp [intOf]; omega
            · have hba : ¬ b = a := fun e => hab e.symm
              go_region
              --MARK2
              go_wp2
              go_roundw
              case rel =>
                obtain ⟨r, h⟩ := Hfin.out _ rfl
                refine ⟨j + 1, _, by omega, by omega, by go_num, Hsw, r.keep (Chg.drew (fun _ => False) _) (fun x => x), ((hch.trans (Chg.of_below _ hbx) (fun _ _ x => x)).trans h (fun _ _ x => x)).trans (Chg.drew _ _) (fun _ _ x => x)⟩
              case measure => simp [intOf]; omega
        · have h50i : ¬ (j : Int) < 50 := by omega
          go_wp2
          go_meet
          case rel => exact ⟨c, hO, hr, hch⟩
      · have hlti : ¬ (j : Int) < (l1 : Int) := by omega
        go_wp2
        go_meet
        case rel => exact ⟨c, hO, hr, hch⟩
  case rest =>
    obtain ⟨c, hO, hr, hch⟩ := hcut
    have hk5 := hk3.keep hch (by omega)
    have hB5 : Below w.heap.size w wc := hch.below_tr hB3 (fun k hk e => by omega)
    have hKl5 : KB < wc.heap.size := Nat.lt_of_lt_of_le hKl hch.size
    clear hch hr3 hk3 hB3 hKl
    obtain ⟨B, hB⟩ : ∃ B, Hid (B = wc.heap.size) := ⟨_, Lib.hid rfl⟩
    go_upto_region 12 with (go_at_call 21; refine (dnew_any _).mono ?_; rintro y w6 ⟨rfl, hd6, hb6⟩)
    rw [← hB.out] at hd6 hKl5 ⊢
    have hr6 := hr.below hb6
    have hk6 := hk5.below hb6
    have hB6 := below_tr hB5 hb6
    have hBw : w.heap.size ≤ B := by rw [hB.out]; exact hB5.size
    clear hb6 hk5 hr hB5
    have hS16 : S.length ≤ 16777216 := by rw [hSl.out]; omega
    have hcl := hO.out.len
    go_wp2
    go_loopw [13] (fun i wr => ∃ (j : Nat) (s : Option Book) (F : Nat → Prop) (Q : List Nat), j ≤ m ∧ i = .int .i64 j ∧ DkW wr F B s ∧ Hid (j < m → HInv S (hand s 1 (S.length : Nat) (M : Nat)) Q ∧ ∀ d, d ∈ Q ↔ d ∈ c.take j) ∧ Hid (∀ k, F k → B ≤ k) ∧ RowV wr g (encQ (c.map (piece S))) ∧ RowV wr KB [.int .i64 1, .int .i64 (N : Nat), .int .u32 (M : Nat)] ∧ Below w.heap.size w wr) (fun i _ => m - (intOf i).toNat)
    case atStart => exact ⟨0, none, (fun k => k = B), [], by omega, rfl, hd6, Lib.hid (fun _ => ⟨fresh_inv S 1 M, fun d => by simp⟩), Lib.hid (fun k e => by omega), hr6, hk6, hB6⟩
    case round =>
      obtain ⟨j, t, F, Q, hj, rfl, hd, hq, hF, hr, hk, hBr⟩ := hrel
      clear hd6 hr6 hk6 hB6
      by_cases hlt : j < m
      · have hlti : (j : Int) < (m : Int) := by omega
        obtain ⟨hv, hQ⟩ := hq.out hlt
        obtain ⟨x, hx⟩ : ∃ x, Hid (c[j]? = some x) := ⟨_, Lib.hid (List.getElem?_eq_getElem (by omega))⟩
        have hxm := hO.out.bnd _ _ hx.out
        have hxf := hO.out.fresh _ _ hx.out
        have Hv := Lib.hid hv
        have HQ := Lib.hid hQ
        have Hxf := Lib.hid hxf
        clear hv hQ hxf
        obtain ⟨dbl, hdbl⟩ : ∃ dbl, Hid (dbl = decide (j < l2 ∧ 0 < j)) := ⟨_, Lib.hid rfl⟩
        go_upto_region 15 with (fail)
        go_cut [83] from 76 to 82 (fun b wx => b = .bool dbl ∧ wr = wx)
        case first =>
          by_cases h1 : j < l2
          · have h1i : (j : Int) < (l2 : Int) := by omega
            by_cases h2 : 0 < j
            · have h2i : (0 : Int) < (j : Int) := by omega
              have e : dbl = true := by rw [hdbl.out]; simp [h1, h2]
              subst e
              go_wp2
              go_meet
              case rel => exact ⟨rfl, rfl⟩
            · have h2i : ¬ (0 : Int) < (j : Int) := by omega
              have e : dbl = false := by rw [hdbl.out]; simp [h2]
              subst e
              go_wp2
              go_meet
              case rel => exact ⟨rfl, rfl⟩
          · have h1i : ¬ (j : Int) < (l2 : Int) := by omega
            have e : dbl = false := by rw [hdbl.out]; simp [h1]
            subst e
            go_wp2
            go_meet
            case rel => exact ⟨rfl, rfl⟩
        case rest =>
          obtain ⟨rfl, rfl⟩ := hcut
          go_upto_if 83 with (fail)
          go_cut [14, 15] from 84 to 102 (fun _ _ wx => ∃ (t' : Option Book) (F' : Nat → Prop) (Q' : List Nat), DkW wx F' B t' ∧ Hid (HInv S (hand t' 1 (S.length : Nat) (M : Nat)) Q') ∧ Hid (∀ d, d ∈ Q' ↔ d ∈ c.take j) ∧ Hid (∀ k, F' k → B ≤ k) ∧ RowV wx g (encQ (c.map (piece S))) ∧ RowV wx KB [.int .i64 1, .int .i64 (N : Nat), .int .u32 (M : Nat)] ∧ Below w.heap.size w wx)
          case first =>
            cases dbl with
            | false =>
              go_wp2
              go_meet
              case rel => exact ⟨t, F, Q, hd, Hv, HQ, hF, hr, hk, hBr⟩
            | true =>
              have hj2 : j < l2 ∧ 0 < j := by have := hdbl.out; simpa using this
              obtain ⟨hj2, hj0⟩ := hj2
              have hrz := hr2.below hBr
              obtain ⟨z, hz⟩ : ∃ z, Hid (z2[j]? = some z) := ⟨_, Lib.hid (List.getElem?_eq_getElem (by omega))⟩
              obtain ⟨_, hrow⟩ := hrz
              rcases hrow with h9 | ⟨ad, rfl, h9⟩
              · subst h9; simp at hz2; omega
              have t0 := h9 j z hz.out
              obtain ⟨e, he, he2⟩ := umod_k z (j : Int) (by omega) (by omega)
              obtain ⟨E, hE⟩ : ∃ E, E = wrap64 ((IntKind.u64.wrap z).tmod (j : Int)) := ⟨_, rfl⟩
              obtain ⟨x2, hx2⟩ : ∃ x2, c[e]? = some x2 := ⟨_, List.getElem?_eq_getElem (by omega)⟩
              have hx2m := hO.out.bnd _ _ hx2
              have hx2t : x2 ∈ c.take j := by
                have : (c.take j)[e]? = some x2 := by rw [List.getElem?_take, if_pos (by omega)]; exact hx2
                exact List.mem_of_getElem? this
              obtain ⟨u1, u2, _⟩ := step_miss S hS16 t 1 (M : Nat) Q Hv.out x2 (by rw [← hm.out]; exact hx2m) x (by rw [← hm.out]; exact hxm) (by
                intro h
                rcases List.mem_cons.1 h with h | h
                · rw [h] at Hxf; exact Hxf.out hx2t
                · exact Hxf.out ((HQ.out x).1 h))
              obtain ⟨t2, ht2⟩ : ∃ t2, Hid (t2 = (deskStep t 1 (S.length : Nat) (M : Nat) ((256 * x2 : Nat) : Int) (piece S x2).2).1) := ⟨_, Lib.hid rfl⟩
              have Hst := Lib.hid (show deskStep t 1 (S.length : Nat) (M : Nat) ((256 * x2 : Nat) : Int) (piece S x2).2 = (t2, none) from Prod.ext ht2.out.symm u1)
              rw [← ht2.out] at u2
              have Hu2 := Lib.hid u2
              have Hm2 := Lib.hid (show ∀ d, d ∈ x2 :: Q ↔ d ∈ c.take j from fun d => by
                constructor
                · intro h
                  rcases List.mem_cons.1 h with h | h
                  · rw [h]; exact hx2t
                  · exact (HQ.out d).1 h
                · intro h; exact List.mem_cons_of_mem _ ((HQ.out d).2 h))
              clear u1 u2 hx2t ht2 h9
              have hpl : (piece S x2).2.length ≤ 256 := by simp [piece]; omega
              have hem : mkS [] = { data := #[] } := rfl
              have D1 := fun W (hW : Chg (fun _ => False) wr W) => dadd_any F B t 1 (S.length : Nat) (M : Nat) ((256 * x2 : Nat) : Int) (mkS (piece S x2).2) (by rw [mkS_size]; omega) W (hd.keep hW (fun _ _ x => x))
              simp only [mkS_data, Hst.out, txt, Option.getD_none, Option.isSome_none, hem] at D1
              rw [← hN.out] at D1
              have hpx : (c.map (piece S))[e]? = some (piece S x2) := by rw [List.getElem?_map, hx2]; rfl
              obtain ⟨⟨c0, _⟩, c1, _⟩ := rowV_piece hr e _ hpx
              have hp1 : (piece S x2).1 = 256 * x2 := rfl
              rw [hp1] at c0
              obtain ⟨A, hA⟩ : ∃ A, Hid (A = 256 * x2) := ⟨_, Lib.hid rfl⟩
              obtain ⟨T, hT⟩ : ∃ T, Hid (T = (piece S x2).2) := ⟨_, Lib.hid rfl⟩
              rw [← hA.out] at c0
              rw [← hT.out] at c1
              rw [← hA.out, ← hT.out] at D1
              have k0 := (hk 0 _ rfl).1
              have k1 := (hk 1 _ rfl).1
              have k2 := (hk 2 _ rfl).1
              have hji : ¬ (j : Int) = 0 := by omega
              have hjn : ¬ j = 0 := by omega
              have hj1000 : (j : Int) ≤ 1000 := by omega
              have hei : IntKind.i64.wrap ((IntKind.u64.wrap z).tmod (j : Int)) = (e : Int) := by
                rw [IntKind.wrap_i64]; unfold wrap64 at he; exact he
              have hwj : IntKind.u64.wrap (j : Int) = (j : Int) := by simp [IntKind.wrap, IntKind.bits, IntKind.signed]; omega
              have hj0i : (0 : Int) < (j : Int) := by omega
              have hjb : ((j : Int) == 0) = false := by rw [beq_eq_false_iff_ne]; omega
              have hem' : (e : Int) < (m : Int) := by omega
              have he0 : (0 : Int) ≤ (e : Int) := by omega
              clear hpx hp1 hpl hx2
              go_upto_region 16 with (fail)
              go_cut [14, 15] from 84 to 101 (fun x y wx => ∃ (F2 : Nat → Prop), y = .bool false ∧ DkW wx F2 B t2 ∧ Hid (∀ k, F2 k → B ≤ k) ∧ RowV wx g (encQ (c.map (piece S))) ∧ RowV wx KB [.int .i64 1, .int .i64 (N : Nat), .int .u32 (M : Nat)] ∧ Below w.heap.size w wx)
              case first =>
                --MARK3
                go_region_with (go_at_call 22; refine (D1 _ (Chg.drew _ _)).mono ?_; rintro y w7 ⟨rfl, F2, r1, r2, r3⟩)
                all_goals
                  go_simp
                  go_wp2
                  go_meet
                  case rel =>
                    have e7 : Chg F _ w7 := (Chg.drew F _).trans r2 (fun _ _ x => x)
                    refine ⟨F2, rfl, r1, Lib.hid (fun k hk => ?_), hr.keep e7 (fun h => by have := hF.out _ h; omega), hk.keep e7 (fun h => by have := hF.out _ h; omega), e7.below_tr hBr (fun k hk h => by have := hF.out k h; omega)⟩
                    rcases r3 k hk with h | h
                    · exact hF.out k h
                    · have hs7 := hd.2.1 B hd.1
                      have : (World.drew _).heap.size ≤ k := h
                      simp at this; omega
              case rest =>
                obtain ⟨F2, rfl, g1, g2, g3, g4, g5⟩ := hcut
                clear c0 c1 k0 k1 k2 D1
                go_wp2
                go_meet
                case rel => exact ⟨t2, F2, x2 :: Q, g1, Hu2, Hm2, g2, g3, g4, g5⟩
          case rest =>
            obtain ⟨t', F', Q', hd', hv', hQ', hF', hr', hk', hB'⟩ := hcut
            clear hd hq hF hr hk hBr Hv HQ
            obtain ⟨o, ho⟩ : ∃ o, Hid (o = if j + 1 = m then some S else none) := ⟨_, Lib.hid rfl⟩
            have hmem : ∀ d, d ∈ x :: Q' ↔ d ∈ c.take (j + 1) := fun d => by
              rw [List.take_add_one, hx.out]
              simp only [Option.toList_some, List.mem_append, List.mem_cons, List.not_mem_nil, or_false]
              rw [hQ'.out d]; exact or_comm
            have hstep : ∃ t2, deskStep t' 1 (S.length : Nat) (M : Nat) ((256 * x : Nat) : Int) (piece S x).2 = (t2, o) ∧ (j + 1 < m → HInv S (hand t2 1 (S.length : Nat) (M : Nat)) (x :: Q')) := by
              by_cases hjm : j + 1 = m
              · have := step_full S hS16 t' 1 (M : Nat) Q' hv'.out x (by rw [← hm.out]; exact hxm) (fun d hd => by
                  rw [hmem d, hjm, List.take_of_length_le (by omega)]
                  exact hO.out.all d (by rw [hm.out]; exact hd))
                rw [if_pos (by rw [hM.out])] at this
                exact ⟨none, by rw [this, ho.out, if_pos hjm], fun h => by omega⟩
              · obtain ⟨x3, hx3⟩ : ∃ x3, c[j + 1]? = some x3 := ⟨_, List.getElem?_eq_getElem (by omega)⟩
                obtain ⟨u1, u2, _⟩ := step_miss S hS16 t' 1 (M : Nat) Q' hv'.out x (by rw [← hm.out]; exact hxm) x3 (by rw [← hm.out]; exact hO.out.bnd _ _ hx3) (by rw [hmem]; exact hO.out.fresh _ _ hx3)
                exact ⟨_, Prod.ext rfl (by rw [u1, ho.out, if_neg hjm]), fun _ => u2⟩
            obtain ⟨t2, ht2, hv2⟩ := hstep
            have Ht2 := Lib.hid ht2
            have Hv2 := Lib.hid (show j + 1 < m → HInv S (hand t2 1 (S.length : Nat) (M : Nat)) (x :: Q') ∧ ∀ d, d ∈ x :: Q' ↔ d ∈ c.take (j + 1) from fun h => ⟨hv2 h, hmem⟩)
            clear ht2 hv2 hmem hv' hQ' Hxf
            have hpl : (piece S x).2.length ≤ 256 := by simp [piece]; omega
            have D1 := fun W (hW : Chg (fun _ => False) wc W) => dadd_any F' B t' 1 (S.length : Nat) (M : Nat) ((256 * x : Nat) : Int) (mkS (piece S x).2) (by rw [mkS_size]; omega) W (hd'.keep hW (fun _ _ x => x))
            simp only [mkS_data, Ht2.out] at D1
            rw [← hN.out] at D1
            have hpx : (c.map (piece S))[j]? = some (piece S x) := by rw [List.getElem?_map, hx.out]; rfl
            obtain ⟨⟨c0, _⟩, c1, _⟩ := rowV_piece hr' j _ hpx
            have hp1 : (piece S x).1 = 256 * x := rfl
            rw [hp1] at c0
            obtain ⟨A, hA⟩ : ∃ A, Hid (A = 256 * x) := ⟨_, Lib.hid rfl⟩
            obtain ⟨T, hT⟩ : ∃ T, Hid (T = (piece S x).2) := ⟨_, Lib.hid rfl⟩
            rw [← hA.out] at c0
            rw [← hT.out] at c1
            rw [← hA.out, ← hT.out] at D1
            have k0 := (hk' 0 _ rfl).1
            have k1 := (hk' 1 _ rfl).1
            have k2 := (hk' 2 _ rfl).1
            clear hpx hp1 hpl
            go_upto_region 19 with (fail)
            go_cut [16, 17] from 103 to 112 (fun x y wx => ∃ (F2 : Nat → Prop), x = txt o ∧ y = .bool o.isSome ∧ DkW wx F2 B t2 ∧ Hid (∀ k, F2 k → B ≤ k) ∧ RowV wx g (encQ (c.map (piece S))) ∧ RowV wx KB [.int .i64 1, .int .i64 (N : Nat), .int .u32 (M : Nat)] ∧ Below w.heap.size w wx)
            case first =>
              go_region_with (go_at_call 22; refine (D1 _ (Chg.drew _ _)).mono ?_; rintro y w7 ⟨rfl, F2, r1, r2, r3⟩)
              all_goals
                go_simp
                go_wp2
                go_meet
                case rel =>
                  have e7 : Chg F' _ w7 := (Chg.drew F' _).trans r2 (fun _ _ x => x)
                  refine ⟨F2, rfl, rfl, r1, Lib.hid (fun k hk => ?_), hr'.keep e7 (fun h => by have := hF'.out _ h; omega), hk'.keep e7 (fun h => by have := hF'.out _ h; omega), e7.below_tr hB' (fun k hk h => by have := hF'.out k h; omega)⟩
                  rcases r3 k hk with h | h
                  · exact hF'.out k h
                  · have hs7 := hd'.2.1 B hd'.1
                    have : (World.drew _).heap.size ≤ k := h
                    simp at this; omega
            case rest =>
              obtain ⟨F2, rfl, rfl, g1, g2, g3, g4, g5⟩ := hcut
              clear c0 c1 k0 k1 k2 D1 hd' hr' hk' hB'
              unfold txt
              by_cases hjm : j + 1 = m
              · have eo : o = some S := by rw [ho.out, if_pos hjm]
                subst eo
                have hje : (j : Int) = (m : Int) - 1 := by omega
                have hsS : mkS S = s := by rw [hS.out, mkS_toList]
                simp only [Option.getD_some, hsS]
                go_wp2
                --MARK4
                go_roundw
                case rel => exact ⟨j + 1, t2, F2, x :: Q', by omega, by go_num, g1, Hv2, g2, g3, g4, g5⟩
                case measure => simp [intOf]; omega
              · have eo : o = none := by rw [ho.out, if_neg hjm]
                subst eo
                have hje : ¬ (j : Int) = (m : Int) - 1 := by omega
                have hje2 : ((j : Int) == (m : Int) - 1) = false := by rw [beq_eq_false_iff_ne]; omega
                go_wp2
                go_roundw
                case rel => exact ⟨j + 1, t2, F2, x :: Q', by omega, by go_num, g1, Hv2, g2, g3, g4, g5⟩
                case measure => simp [intOf]; omega
      · have hlti : ¬ (j : Int) < (m : Int) := by omega
        go_wp2
        go_ret
        exact ⟨rfl, hBr⟩
end Go.Proofs.Ytmaebileagfdaaa
