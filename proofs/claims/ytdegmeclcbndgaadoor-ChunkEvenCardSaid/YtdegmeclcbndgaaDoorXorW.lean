/- The program's writer of patterns. -/
import Derived.Test.YtdegmeclcbndgaaDoorXor
import Derived.Test.YtdegmeclcbndgaaDoorShelf
import Derived.Test.YtdegmeclcbndgaaDoorTimW
import Derived.Test.YtdegmeclcbndgaaDoorXin
import Derived.Shelf.Spec.TrailingZeros
import Derived.StillTailTactics
import Derived.Deep.RegionHeld3
namespace Go.Proofs.YtdegmeclcbndgaaDoor
open Go.RowKit Bit Tim Xo

/-- The library's table, in its variable. -/
def Tab (w : World) : Prop := TabAt 0 Lib.deBruijn64tab w
theorem Tab.keep {F : Nat → Prop} {w w' : World} (h : Tab w) (hc : Chg F w w') (hf : ¬ F 0) : Tab w' := fun j hj => hc.cell (h j hj) hf
theorem Tab.pos {w : World} (h : Tab w) : 0 < w.heap.size := World.block_lt_of_cell? w _ (h 0 (by decide))
theorem Tab.below {B : Nat} {w w' : World} (h : Tab w) (hb : Below B w w') (hB : 0 < B) : Tab w' := fun j hj => by
  rw [hb.cell (p := ⟨0, j, none⟩) hB]; exact h j hj

theorem tz_core (x k idx : Nat) (w : World) (hx0 : ((x : Int) == 0) = false)
    (key : IntKind.u64.wrap (bits BinOp.and IntKind.u64 (x : Int) (IntKind.u64.wrap (-(x : Int))) * 285870213051353865) / 288230376151711744 = (idx : Int))
    (hi : idx < 64) (hk : k < 64) (hcell : w.cell? ⟨0, idx, none⟩ = some (.int .u8 k)) :
    Calls Tryd.prog 52 #[.int .u64 x] w fun e w' => e = .returned (.int .i64 k) ∧ w = w' := by
  go_enter Tryd.func52, Tryd.ntmps52
  go_wp2_with (simp only [key])
  go_ret
  exact ⟨rfl, rfl⟩

theorem tz_any (x : Nat) (hx : x < 18446744073709551616) (hx0 : x ≠ 0) (w : World) (hT : Tab w) :
    Calls Tryd.prog 52 #[.int .u64 x] w fun e w' => e = .returned (.int .i64 (tl x : Nat)) ∧ w = w' := by
  obtain ⟨hlow, hk⟩ := Lib.lowest_bit 64 x hx0 hx
  obtain ⟨hi, htab⟩ := Lib.deBruijn64_at _ hk
  have hcell := hT _ hi
  rw [htab] at hcell
  exact tz_core x _ _ w (by simp; omega) (tz64_key x _ hx hx0 hlow) hi hk hcell

theorem lz_any (x : Nat) (hx : x < 18446744073709551616) (w : World) :
    Calls Tryd.prog 51 #[.int .u64 x] w fun e w' => e = .returned (.int .i64 (64 - (Lib.bitLen x : Int))) ∧ w = w' := by
  refine (Tryd.bits_LeadingZeros64 (x : Int) w (by omega) (by omega)).mono ?_
  rintro e w' ⟨he, hw⟩
  exact ⟨by rw [he]; simp, hw.symm⟩

theorem xof_any (d : Nat) (hd : d < 18446744073709551616) (hd0 : d ≠ 0) (w : World) (hT : Tab w) :
    Calls Tryd.prog 34 #[.int .u64 d] w fun e w' => e = .returned (.agg #[.int .i64 (ld d : Nat), .int .i64 (tl d : Nat)]) ∧ Below w.heap.size w w' := by
  have hT2 : ∀ o, Tab (w.alloc o) := fun o => hT.below ((Below.refl w.heap.size w).alloc (Nat.le_refl _) o) hT.pos
  have hm : min (64 - (Lib.bitLen d : Int)) 31 = (ld d : Int) := by unfold ld; have := Lib.bitLen_le d 64 (by omega) hd; omega
  have Hm := Lib.hid hm
  clear hm
  go_enter Tryd.func34, Tryd.ntmps34
  go_wp2_with (first
    | (go_at_call 51; refine (lz_any d hd _).mono ?_; rintro e w1 ⟨rfl, rfl⟩)
    | (go_at_call 52; refine (tz_any d hd hd0 _ (hT2 _)).mono ?_; rintro e w1 ⟨rfl, rfl⟩))
  rw [Hm.out]
  exact bodyPost_ret (results_cell_row rfl _ _ w.heap.size _ _ _ _ rfl (heap_alloc_new w _) Tryd.underlying67 rfl (by kernel_rfl)) rfl ⟨rfl, (Below.refl _ _).alloc (Nat.le_refl _) _⟩

theorem xsize_any (l t : Nat) (h : l + t ≤ 63) (w : World) :
    Calls Tryd.prog 36 #[.agg #[.int .i64 (l : Nat), .int .i64 (t : Nat)]] w fun e w' => e = .returned (.int .i64 ((64 - l - t : Nat) : Int)) ∧ Below w.heap.size w w' := by
  have h1 : ((64 : Int) - (l : Int)) - (t : Int) = ((64 - l - t : Nat) : Int) := by omega
  have hl : (l : Int) ≤ 63 := by omega
  have ht : (t : Int) ≤ 63 := by omega
  have H1 := Lib.hid h1
  clear h1
  go_enter Tryd.func36, Tryd.ntmps36
  go_wp2
  go_ret
  exact ⟨ret_int H1.out, (Below.refl _ _).alloc (Nat.le_refl _) _⟩

/-- The program's coder of patterns. -/
structure KInv (w : World) (c : Nat) (s : XS) : Prop where
  c0 : w.cell? ⟨c, 0, none⟩ = some (.int .i64 (s.l : Nat))
  c1 : w.cell? ⟨c, 1, none⟩ = some (.int .i64 (s.t : Nat))
  c2 : w.cell? ⟨c, 2, none⟩ = some (.bool s.b)
  c3 : w.cell? ⟨c, 3, none⟩ = some (.int .u64 (s.v : Nat))
  c4 : w.cell? ⟨c, 4, none⟩ = some (.bool s.is)
  fz : ∀ j, j < 5 → w.frozen? ⟨c, j, none⟩ = false
  ok : XOk s

theorem KInv.lt {w : World} {c : Nat} {s : XS} (h : KInv w c s) : c < w.heap.size := World.block_lt_of_cell? w _ h.c0
theorem KInv.keep {F : Nat → Prop} {w w' : World} {c : Nat} {s : XS} (h : KInv w c s) (hc : Chg F w w') (hp : ¬ F c) : KInv w' c s :=
  ⟨hc.cell h.c0 hp, hc.cell h.c1 hp, hc.cell h.c2 hp, hc.cell h.c3 hp, hc.cell h.c4 hp, fun j hj => by rw [hc.frozen (a := ⟨c, j, none⟩) h.lt hp]; exact h.fz j hj, h.ok⟩
theorem KInv.row {w : World} {c : Nat} {s : XS} (h : KInv w c s) : RowV w c [.int .i64 (s.l : Nat), .int .i64 (s.t : Nat), .bool s.b, .int .u64 (s.v : Nat), .bool s.is] := fun j v hj => by
  match j, hj with
  | 0, hj => cases hj; exact ⟨h.c0, h.fz 0 (by decide)⟩
  | 1, hj => cases hj; exact ⟨h.c1, h.fz 1 (by decide)⟩
  | 2, hj => cases hj; exact ⟨h.c2, h.fz 2 (by decide)⟩
  | 3, hj => cases hj; exact ⟨h.c3, h.fz 3 (by decide)⟩
  | 4, hj => cases hj; exact ⟨h.c4, h.fz 4 (by decide)⟩
  | _ + 5, hj => simp at hj
theorem KInv.of_row {w : World} {c : Nat} {s : XS} (h : RowV w c [.int .i64 (s.l : Nat), .int .i64 (s.t : Nat), .bool s.b, .int .u64 (s.v : Nat), .bool s.is]) (ok : XOk s) : KInv w c s :=
  ⟨(h 0 _ rfl).1, (h 1 _ rfl).1, (h 2 _ rfl).1, (h 3 _ rfl).1, (h 4 _ rfl).1, fun j hj => by
    rcases (by omega : j = 0 ∨ j = 1 ∨ j = 2 ∨ j = 3 ∨ j = 4) with rfl | rfl | rfl | rfl | rfl
    · exact (h 0 _ rfl).2
    · exact (h 1 _ rfl).2
    · exact (h 2 _ rfl).2
    · exact (h 3 _ rfl).2
    · exact (h 4 _ rfl).2, ok⟩

theorem xornew_any (w : World) : Calls Tryd.prog 12 #[] w fun e w' => e = .returned (.pointer (some ⟨w.heap.size, 0, none⟩)) ∧ KInv w' w.heap.size XS.zero ∧ Below w.heap.size w w' := by
  go_enter Tryd.func12, Tryd.ntmps12
  go_wp2
  go_ret
  refine ⟨rfl, ⟨by simp [XS.zero], by simp [XS.zero], by simp [XS.zero], by simp [XS.zero], by simp [XS.zero], fun j hj => ?_, XOk.zero⟩, (Below.refl _ _).alloc (Nat.le_refl _) _⟩
  rcases (by omega : j = 0 ∨ j = 1 ∨ j = 2 ∨ j = 3 ∨ j = 4) with rfl | rfl | rfl | rfl | rfl <;> simp

theorem fits_any (w : World) (c : Nat) (s : XS) (l t : Nat) (h : KInv w c s) :
    Calls Tryd.prog 35 #[.pointer (some ⟨c, 0, none⟩), .agg #[.int .i64 (l : Nat), .int .i64 (t : Nat)]] w fun e w' => e = .returned (.bool (decide (s.is = true ∧ s.l ≤ l ∧ s.t ≤ t))) ∧ Below w.heap.size w w' := by
  have hlt := h.lt
  obtain ⟨c0, c1, c2, c3, c4, fz, ok⟩ := h
  obtain ⟨g1, g2, g3⟩ := ok
  have hb : ∀ n, Below w.heap.size w ((w.alloc (.cells #[.int .i64 (l : Nat), .int .i64 (t : Nat)] 67)).drewN n) := fun n => below_drewN ((Below.refl _ _).alloc (Nat.le_refl _) _) n
  have e0 := (hb 0).cell (p := ⟨c, 0, none⟩) hlt
  cases hs : s.is with
  | false =>
    rw [hs] at c4
    go_enter Tryd.func35, Tryd.ntmps35
    go_upto_region 1 with (fail)
    go_quiet (fail)
    go_wp2
    go_ret
    exact ⟨ret_bool (by simp), hb _⟩
  | true =>
    rw [hs] at c4
    by_cases h1 : s.l ≤ l
    · by_cases h2 : s.t ≤ t
      · have d1 : (s.l : Int) ≤ (l : Int) := by omega
        have d2 : (s.t : Int) ≤ (t : Int) := by omega
        go_enter Tryd.func35, Tryd.ntmps35
        go_upto_region 1 with (fail)
        go_quiet (fail)
        go_wp2
        go_ret
        exact ⟨ret_bool (by simp [h1, h2]), hb _⟩
      · have d1 : (s.l : Int) ≤ (l : Int) := by omega
        have d2 : ¬ (s.t : Int) ≤ (t : Int) := by omega
        go_enter Tryd.func35, Tryd.ntmps35
        go_upto_region 1 with (fail)
        go_quiet (fail)
        go_wp2
        go_ret
        exact ⟨ret_bool (by simp), hb _⟩
    · have d1 : ¬ (s.l : Int) ≤ (l : Int) := by omega
      go_enter Tryd.func35, Tryd.ntmps35
      go_upto_region 1 with (fail)
      go_quiet (fail)
      go_wp2
      go_ret
      exact ⟨ret_bool (by simp), hb _⟩

/-- The coder and the writer, apart. -/
structure KW (w : World) (c p : Nat) (s : XS) (v : Value) (L : List Bool) : Prop where
  cw : KInv w c s
  ww : WInv w p v (pack L) L.length
  ne : c ≠ p
  nv : v.ownBlock ≠ some c

theorem KW.below {w w' : World} {c p : Nat} {s : XS} {v : Value} {L : List Bool} (h : KW w c p s v L) (hb : Below w.heap.size w w') : KW w' c p s v L :=
  ⟨h.cw.keep (Chg.of_below (fun _ => False) hb) (fun x => x), h.ww.keep (Chg.of_below (fun _ => False) hb) (fun _ _ x => x), h.ne, h.nv⟩
theorem KW.belowS {w w' : World} {c p : Nat} {s : XS} {v : Value} {L : List Bool} (h : KW w c p s v L) (hb : Below w.heap.size w w') : WStep w w' p c v v L L :=
  WStep.other h.ww (Chg.of_below (fun _ => False) hb) (fun _ _ x => x.elim) h.ne h.nv
theorem KW.coder {w w' : World} {c p : Nat} {s s' : XS} {v : Value} {L : List Bool} (h : KW w c p s v L) (hc : KInv w' c s') (hb : Chg (fun k => k = c) w w') : KW w' c p s' v L ∧ WStep w w' p c v v L L := by
  have := WStep.other h.ww hb (fun _ _ x => x) h.ne h.nv
  exact ⟨⟨hc, this.inv, h.ne, h.nv⟩, this⟩

theorem kwput_any (w : World) (c p : Nat) (s : XS) (v : Value) (L : List Bool) (x n : Nat) (hx : x < 18446744073709551616) (hn : n ≤ 64) (h : KW w c p s v L) (hL : L.length ≤ 1099511627776) :
    Calls Tryd.prog 33 #[.pointer (some ⟨p, 0, none⟩), .int .u64 x, .int .i64 n] w fun e w' => e = .returned (.tuple #[]) ∧
      ∃ v', KW w' c p s v' (L ++ bitsOf x n) ∧ WStep w w' p c v v' L (L ++ bitsOf x n) := by
  have P1 := put_any w p v L x n hx h.ww hL (by omega) (by omega)
  have emm : (max (min (n : Int) 64) 0).toNat = n := by omega
  rw [emm] at P1
  refine P1.mono ?_
  rintro e w' ⟨rfl, v', h1, h2, h3⟩
  have hcl := h.cw.lt
  have hS : WStep w w' p c v v' L (L ++ bitsOf x n) := WStep.put (bitsOf_length _ _) h1 h2 h3
  refine ⟨rfl, v', ⟨h.cw.keep h3 ?_, hS.inv, h.ne, fun e => ?_⟩, hS⟩
  · rintro (hk | hk)
    · exact h.ne hk
    · exact h.nv hk
  · rcases h2 c e with h4 | h4
    · exact h.nv h4
    · omega

theorem shr_nat (d t : Nat) : ((d : Int) / 2 ^ t) = ((d / 2 ^ t : Nat) : Int) := by simp

/-- A window in a block of its own. -/
structure WQ (w : World) (q : Nat) (xs : List Value) (c p : Nat) (v : Value) : Prop where
  row : RowV w q xs
  lt : q < w.heap.size
  qc : q ≠ c
  qp : q ≠ p
  qv : v.ownBlock ≠ some q
theorem WQ.apart {w : World} {q : Nat} {xs : List Value} {c p : Nat} {v : Value} (h : WQ w q xs c p v) : ¬ (fpW p v q ∨ q = c) := by
  rintro ((e | e) | e)
  · exact h.qp e
  · exact h.qv e
  · exact h.qc e
theorem WQ.step {w w' : World} {q : Nat} {xs : List Value} {c p : Nat} {v v' : Value} {L L' : List Bool} (h : WQ w q xs c p v) (hS : WStep w w' p c v v' L L') : WQ w' q xs c p v' := by
  have hl := h.lt
  refine ⟨h.row.keep hS.chg h.apart, Nat.lt_of_lt_of_le hl hS.chg.size, h.qc, h.qp, fun e => ?_⟩
  rcases hS.own q e with h1 | h1
  · exact h.qv h1
  · omega
theorem WQ.below {w w' : World} {q : Nat} {xs : List Value} {c p : Nat} {v : Value} (h : WQ w q xs c p v) (hb : Below w.heap.size w w') : WQ w' q xs c p v :=
  ⟨h.row.below hb, Nat.lt_of_lt_of_le h.lt hb.size, h.qc, h.qp, h.qv⟩

set_option maxRecDepth 100000 in
set_option maxHeartbeats 2000000 in
theorem vput_any (w : World) (c p : Nat) (s : XS) (v : Value) (L : List Bool) (x : Nat) (hx : x < 18446744073709551616) (hT : Tab w) (hc0 : c ≠ 0) (h : KW w c p s v L) (hL : L.length ≤ 1099511620000) :
    Calls Tryd.prog 14 #[.pointer (some ⟨c, 0, none⟩), .pointer (some ⟨p, 0, none⟩), .int .u64 x] w fun e w' => e = .returned (.tuple #[]) ∧
      ∃ v', KInv w' c (s.next x) ∧ WStep w w' p c v v' L (L ++ encV s x) := by
  have hC := h.cw
  have hC2 := hC
  obtain ⟨c0, c1, c2, c3, c4, fz, ok⟩ := hC2
  have f2 := fz 2 (by decide)
  have f3 := fz 3 (by decide)
  have hxr : bits .xor .u64 (x : Int) (s.v : Nat) = ((x ^^^ s.v : Nat) : Int) := bits_xor_u64_nat x s.v hx ok.1
  have hdb := xor_lt hx ok.1
  cases hb : s.b with
  | false =>
    rw [hb] at c2
    have hnx : s.next x = ⟨true, x, s.is, s.l, s.t⟩ := by simp [XS.next, hb]
    have hen : encV s x = bitsOf x 64 := by simp [encV, hb]
    have h1 : KInv ((w.setCell ⟨c, 3, none⟩ (.int .u64 (x : Nat))).setCell ⟨c, 2, none⟩ (.bool true)) c ⟨true, x, s.is, s.l, s.t⟩ :=
      KInv.of_row ((hC.row.set 3 (by simp) (.int .u64 (x : Nat))).set 2 (by simp) (.bool true)) ⟨hx, ok.2⟩
    have hch : Chg (fun k => k = c) w ((w.setCell ⟨c, 3, none⟩ (.int .u64 (x : Nat))).setCell ⟨c, 2, none⟩ (.bool true)) := (Chg.setCell w ⟨c, 3, none⟩ _).trans (Chg.setCell _ ⟨c, 2, none⟩ _) (fun _ _ x => x)
    obtain ⟨hcw, hS⟩ := h.coder h1 hch
    rw [hnx, hen]
    clear hnx hen h1 hch
    go_enter Tryd.func14, Tryd.ntmps14
    go_upto_region 4 with (fail)
    generalize ((w.setCell ⟨c, 3, none⟩ (.int .u64 (x : Nat))).setCell ⟨c, 2, none⟩ (.bool true)) = w1 at hcw hS ⊢
    go_wp2_with (go_at_call 33; refine (kwput_any w1 c p _ v L x 64 hx (by omega) hcw (by omega)).mono ?_; rintro e w2 ⟨rfl, v2, hcw2, hS2⟩)
    refine bodyPost_ret (results_none rfl _ _ _) rfl ?_
    exact ⟨rfl, v2, hcw2.cw, hS.trans hS2⟩
  | true =>
    rw [hb] at c2
    obtain ⟨d, hd⟩ : ∃ d, Hid (d = x ^^^ s.v) := ⟨_, Lib.hid rfl⟩
    rw [← hd.out] at hxr hdb
    have h1 : KInv (w.setCell ⟨c, 3, none⟩ (.int .u64 (x : Nat))) c ⟨true, x, s.is, s.l, s.t⟩ := by
      have := hC.row.set 3 (by simp) (.int .u64 (x : Nat))
      rw [hb] at this
      exact KInv.of_row this ⟨hx, ok.2⟩
    have hch : Chg (fun k => k = c) w (w.setCell ⟨c, 3, none⟩ (.int .u64 (x : Nat))) := Chg.setCell w ⟨c, 3, none⟩ _
    have hT1 : Tab (w.setCell ⟨c, 3, none⟩ (.int .u64 (x : Nat))) := hT.keep hch (fun e => hc0 e.symm)
    obtain ⟨hcw, hS⟩ := h.coder h1 hch
    have hk2 := h1.c2
    clear h1 hch hT hC
    by_cases hd0 : d = 0
    · have hnx : s.next x = ⟨true, x, s.is, s.l, s.t⟩ := by unfold XS.next; rw [if_neg]; rw [← hd.out]; simp [hd0]
      have hen : encV s x = bitsOf 0 1 := by unfold encV encD; rw [hb, if_pos rfl, ← hd.out, if_pos hd0]
      rw [hnx, hen]
      clear hnx hen
      have Hd0 : ((d : Int) == 0) = true := by simp [hd0]
      have Hxr := Lib.hid hxr
      clear hxr
      go_enter Tryd.func14, Tryd.ntmps14
      go_upto_region 2 with (fail)
      rw [Hxr.out]
      generalize (w.setCell ⟨c, 3, none⟩ (.int .u64 (x : Nat))) = w1 at hcw hS hk2 ⊢
      go_wp2_with (go_at_call 33; refine (kwput_any w1 c p _ v L 0 1 (by omega) (by omega) hcw (by omega)).mono ?_; rintro e w2 ⟨rfl, v2, hcw2, hS2⟩)
      refine bodyPost_ret (results_none rfl _ _ _) rfl ?_
      exact ⟨rfl, v2, hcw2.cw, hS.trans hS2⟩
    · have Hd0 : ((d : Int) == 0) = false := by simp [hd0]
      have Hxr := Lib.hid hxr
      have hld := ld_tl d (by omega) hdb
      clear hxr
      go_enter Tryd.func14, Tryd.ntmps14
      go_upto_region 2 with (fail)
      rw [Hxr.out]
      clear c0 c1 c2 c3 c4 fz f2 f3 h
      generalize (w.setCell ⟨c, 3, none⟩ (.int .u64 (x : Nat))) = w1 at hcw hS hk2 hT1 ⊢
      go_upto_region 8 with (go_at_call 34; refine (xof_any d hdb hd0 w1 hT1).mono ?_; rintro e w2 ⟨rfl, hb2⟩)
      have hba : Below w1.heap.size w1 (w2.alloc (.cells #[.int .i64 (ld d : Nat), .int .i64 (tl d : Nat)] 67)) := hb2.alloc hb2.size _
      have hcw2 := hcw.below hba
      have hS2 := hS.trans (hcw.belowS hba)
      have hQ : WQ (w2.alloc (.cells #[.int .i64 (ld d : Nat), .int .i64 (tl d : Nat)] 67)) w2.heap.size [.int .i64 (ld d : Nat), .int .i64 (tl d : Nat)] c p v := by
        have e1 := hcw.cw.lt
        have e2 := World.block_lt_of_cell? w1 _ hcw.ww.c0
        have e3 := hb2.size
        have e2' : p < w1.heap.size := e2
        refine ⟨RowV.new w2 _ _, by simp, by omega, by omega, fun e => ?_⟩
        have := owns_lt hcw.ww.own e
        omega
      obtain ⟨q, hq⟩ : ∃ q, Hid (q = w2.heap.size) := ⟨_, Lib.hid rfl⟩
      rw [← hq.out] at hQ ⊢
      clear hT1 hS hb2 hba hcw hk2
      generalize (w2.alloc (.cells #[.int .i64 (ld d : Nat), .int .i64 (tl d : Nat)] 67)) = w3 at hQ hcw2 hS2 ⊢
      obtain ⟨lead, hl⟩ : ∃ l, Hid (l = ld d) := ⟨_, Lib.hid rfl⟩
      obtain ⟨tail, ht⟩ : ∃ t, Hid (t = tl d) := ⟨_, Lib.hid rfl⟩
      have hld2 := ld_le d
      rw [← hl.out, ← ht.out] at hQ hld ⊢
      rw [← hl.out] at hld2
      have k0 := (hQ.row 0 _ rfl).1
      have k1 := (hQ.row 1 _ rfl).1
      obtain ⟨s1, hs1⟩ : ∃ s1 : XS, Hid (s1 = ⟨true, x, s.is, s.l, s.t⟩) := ⟨_, Lib.hid rfl⟩
      rw [← hs1.out] at hcw2
      have FT := fun W h => fits_any W c s1 lead tail h
      by_cases hf : Fits s d
      · have hfd : decide (s1.is = true ∧ s1.l ≤ lead ∧ s1.t ≤ tail) = true := by
          rw [hs1.out, hl.out, ht.out]; exact decide_eq_true hf
        rw [hfd] at FT
        have hen : encV s x = bitsOf 2 2 ++ bitsOf (d / 2 ^ s1.t) (64 - s1.l - s1.t) := by
          unfold encV encD; rw [hb, if_pos rfl, ← hd.out, if_neg hd0, if_pos hf, hs1.out]; rfl
        have hnx : s.next x = s1 := by unfold XS.next; rw [if_neg, hs1.out]; rw [← hd.out]; simp [hf]
        have Hen := Lib.hid hen
        have Hnx := Lib.hid hnx
        clear hen hnx hfd
        go_upto_region 9 with (go_at_call 35; refine (FT _ hcw2.cw).mono ?_; rintro e w4 ⟨rfl, hb4⟩)
        have hcw4 := hcw2.below hb4
        have hS4 := hS2.trans (hcw2.belowS hb4)
        clear hcw2 hS2 hb4 FT hQ k0 k1
        go_upto_region 14 with (go_at_call 33; refine (kwput_any w4 c p _ v L 2 2 (by omega) (by omega) hcw4 (by omega)).mono ?_; rintro e w5 ⟨rfl, v5, hcw5, hS5⟩)
        have hS6 := hS4.trans hS5
        clear hcw4 hS4 hS5
        obtain ⟨c0, c1, c2, c3, c4, fz, ok5⟩ := id hcw5.cw
        have SZ : ∀ W, (W.cell? ⟨c, 0, none⟩ = some (.int .i64 (s1.l : Nat)) ∧ W.cell? ⟨c, 1, none⟩ = some (.int .i64 (s1.t : Nat))) → Calls Tryd.prog 36 #[.agg #[.int .i64 (s1.l : Nat), .int .i64 (s1.t : Nat)]] W fun e w' => e = .returned (.int .i64 ((64 - s1.l - s1.t : Nat) : Int)) ∧ Below W.heap.size W w' ∧
            w'.cell? ⟨c, 0, none⟩ = some (.int .i64 (s1.l : Nat)) ∧ w'.cell? ⟨c, 1, none⟩ = some (.int .i64 (s1.t : Nat)) := fun W hW => (xsize_any s1.l s1.t ok5.2.1 W).mono (by
          rintro e w' ⟨rfl, hb⟩
          have hl := World.block_lt_of_cell? W _ hW.1
          exact ⟨rfl, hb, by rw [hb.cell (p := ⟨c, 0, none⟩) hl]; exact hW.1, by rw [hb.cell (p := ⟨c, 1, none⟩) hl]; exact hW.2⟩)
        have PT : ∀ W, Below w5.drew.heap.size w5.drew W → Calls Tryd.prog 33 #[.pointer (some ⟨p, 0, none⟩), .int .u64 ((d : Int) / 2 ^ min s1.t 64), .int .i64 (64 - s1.l - s1.t : Nat)] W fun e w' => e = .returned (.tuple #[]) ∧ (w'.cell? ⟨c, 0, none⟩ = some (.int .i64 (s1.l : Nat)) ∧ w'.cell? ⟨c, 1, none⟩ = some (.int .i64 (s1.t : Nat))) ∧
            ∃ v', KW w' c p s1 v' (L ++ bitsOf 2 2 ++ bitsOf (d / 2 ^ s1.t) (64 - s1.l - s1.t)) ∧ WStep w w' p c v v' L (L ++ bitsOf 2 2 ++ bitsOf (d / 2 ^ s1.t) (64 - s1.l - s1.t)) := fun W hW0 => by
          have hW : Below w5.heap.size w5 W := ⟨hW0.os, hW0.tape, hW0.output, hW0.size, hW0.block⟩
          rw [show min s1.t 64 = s1.t from by have := ok5.2.1; omega, shr_nat]
          refine (kwput_any W c p s1 v5 _ (d / 2 ^ s1.t) (64 - s1.l - s1.t) (Nat.lt_of_le_of_lt (Nat.div_le_self _ _) hdb) (by omega) (hcw5.below hW) (by rw [List.length_append, bitsOf_length]; omega)).mono ?_
          rintro e w' ⟨rfl, v', h1, h2⟩
          exact ⟨rfl, ⟨h1.cw.c0, h1.cw.c1⟩, v', h1, hS6.trans ((hcw5.belowS hW).trans h2)⟩
        go_region_held3 (fun w' => w'.cell? ⟨c, 0, none⟩ = some (.int .i64 (s1.l : Nat)) ∧ w'.cell? ⟨c, 1, none⟩ = some (.int .i64 (s1.t : Nat))) (go_keep)
          (first
            | (go_at_call 36; refine (SZ _ ⟨by assumption, by assumption⟩).mono ?_; rintro e w6 ⟨rfl, hb6, hk0, hk1⟩)
            | (go_at_call 33; refine (PT _ hb6).mono ?_; rintro e w7 ⟨rfl, ⟨hk7, hk8⟩, v7, hcw7, hS7⟩))
        go_end0
        rw [Hnx.out, Hen.out, ← List.append_assoc]
        exact ⟨rfl, v7, hcw7.cw, hS7⟩
      · have hfd : decide (s1.is = true ∧ s1.l ≤ lead ∧ s1.t ≤ tail) = false := by
          rw [hs1.out, hl.out, ht.out]; exact decide_eq_false hf
        rw [hfd] at FT
        obtain ⟨s2, hs2⟩ : ∃ s2 : XS, Hid (s2 = ⟨true, x, true, lead, tail⟩) := ⟨_, Lib.hid rfl⟩
        have hen : encV s x = bitsOf 3 2 ++ (bitsOf lead 5 ++ (bitsOf (64 - lead - tail - 1) 6 ++ bitsOf (d / 2 ^ tail) (64 - lead - tail))) := by
          unfold encV encD; rw [hb, if_pos rfl, ← hd.out, if_neg hd0, if_neg hf, hl.out, ht.out]; unfold encNew
          rw [show 64 - ld d - tl d - 1 = 63 - ld d - tl d from by omega]
        have hnx : s.next x = s2 := by unfold XS.next; rw [if_pos, hs2.out, hl.out, ht.out, hd.out]; rw [← hd.out]; exact ⟨hb, hd0, hf⟩
        have Hen := Lib.hid hen
        have Hnx := Lib.hid hnx
        clear hen hnx hfd
        go_upto_region 9 with (go_at_call 35; refine (FT _ hcw2.cw).mono ?_; rintro e w4 ⟨rfl, hb4⟩)
        have hcw4 := hcw2.below hb4
        have hS4 := hS2.trans (hcw2.belowS hb4)
        have hQ4 := hQ.below hb4
        clear hcw2 hS2 hb4 FT hQ k0 k1
        go_upto_region 11 with (go_at_call 33; refine (kwput_any w4 c p _ v L 3 2 (by omega) (by omega) hcw4 (by omega)).mono ?_; rintro e w5 ⟨rfl, v5, hcw5, hS5⟩)
        have hS6 := hS4.trans hS5
        have hQ5 := hQ4.step hS5
        clear hcw4 hS4 hS5 hQ4
        have k0 := (hQ5.row 0 _ rfl).1
        have hlw : IntKind.u64.wrap (lead : Int) = (lead : Int) := by rw [IntKind.wrap_u64]; omega
        go_upto_region 12 with (go_at_call 33; refine (kwput_any w5 c p _ v5 _ lead 5 (by omega) (by omega) hcw5 (by rw [List.length_append, bitsOf_length]; omega)).mono ?_; rintro e w6 ⟨rfl, v6, hcw6, hS7⟩)
        have hS8 := hS6.trans hS7
        have hQ6 := hQ5.step hS7
        clear hcw5 hS6 hS7 hQ5 k0
        have k0 := (hQ6.row 0 _ rfl).1
        have k1 := (hQ6.row 1 _ rfl).1
        obtain ⟨Z, hZ⟩ : ∃ Z, Hid (Z = 64 - lead - tail) := ⟨_, Lib.hid rfl⟩
        have hZb : 1 ≤ Z ∧ Z ≤ 64 := by have := hZ.out; omega
        have SZ := fun W => xsize_any lead tail hld W
        rw [← hZ.out] at SZ
        have hZ1 : (1 : Int) ≤ (Z : Int) := by omega
        have hZ2 : (Z : Int) ≤ 64 := by omega
        have hZw : IntKind.u64.wrap ((Z : Int) - 1) = ((Z - 1 : Nat) : Int) := by rw [IntKind.wrap_u64]; omega
        go_upto_region 13 with (first
          | (go_at_call 36; refine (SZ _).mono ?_; rintro e w7 ⟨rfl, hb7⟩)
          | (go_at_call 33; refine (kwput_any w7 c p _ v6 _ (Z - 1) 6 (by omega) (by omega) (hcw6.below hb7) (by rw [List.length_append, bitsOf_length, List.length_append, bitsOf_length]; omega)).mono ?_; rintro e w8 ⟨rfl, v8, hcw8, hS9⟩))
        have hS10 := hS8.trans ((hcw6.belowS hb7).trans hS9)
        have hQ8 := (hQ6.below hb7).step hS9
        clear hcw6 hS8 hS9 hQ6 k0 k1 hb7 SZ
        have k0 := (hQ8.row 0 _ rfl).1
        have k1 := (hQ8.row 1 _ rfl).1
        obtain ⟨c0, c1, c2, c3, c4, fz, ok5⟩ := id hcw8.cw
        have f0 := fz 0 (by decide)
        have f1 := fz 1 (by decide)
        have f4 := fz 4 (by decide)
        go_upto_region 14 with (fail)
        have h9 : KInv (((w8.setCell ⟨c, 0, none⟩ (.int .i64 (lead : Nat))).setCell ⟨c, 1, none⟩ (.int .i64 (tail : Nat))).setCell ⟨c, 4, none⟩ (.bool true)) c s2 := by
          have hr := ((hcw8.cw.row.set 0 (by simp) (.int .i64 (lead : Nat))).set 1 (by simp) (.int .i64 (tail : Nat))).set 4 (by simp) (.bool true)
          rw [hs1.out] at hr
          rw [hs2.out]
          exact KInv.of_row hr ⟨hx, hld, hld2⟩
        have hch9 : Chg (fun k => k = c) w8 (((w8.setCell ⟨c, 0, none⟩ (.int .i64 (lead : Nat))).setCell ⟨c, 1, none⟩ (.int .i64 (tail : Nat))).setCell ⟨c, 4, none⟩ (.bool true)) :=
          ((Chg.setCell w8 ⟨c, 0, none⟩ _).trans (Chg.setCell _ ⟨c, 1, none⟩ _) (fun _ _ x => x)).trans (Chg.setCell _ ⟨c, 4, none⟩ _) (fun _ _ x => x)
        obtain ⟨hcw9, hS9⟩ := hcw8.coder h9 hch9
        have hS11 := hS10.trans hS9
        obtain ⟨L1, hL1⟩ : ∃ L1, Hid (L1 = L ++ bitsOf 3 2 ++ bitsOf lead 5 ++ bitsOf (Z - 1) 6) := ⟨_, Lib.hid rfl⟩
        have hll : L1.length ≤ 1099511627000 := by rw [hL1.out]; simp only [List.length_append, bitsOf_length]; omega
        rw [← hL1.out] at hcw9 hS11
        have hsl : s2.l = lead ∧ s2.t = tail := by rw [hs2.out]; exact ⟨rfl, rfl⟩
        have Hsl := Lib.hid hsl
        clear hcw8 hS10 hS9 h9 hch9 hQ8 k0 k1 c0 c1 c2 c3 c4 fz f0 f1 f4 ok5 hsl
        generalize (((w8.setCell ⟨c, 0, none⟩ (.int .i64 (lead : Nat))).setCell ⟨c, 1, none⟩ (.int .i64 (tail : Nat))).setCell ⟨c, 4, none⟩ (.bool true)) = w9 at hcw9 hS11 ⊢
        obtain ⟨c0, c1, c2, c3, c4, fz, ok9⟩ := id hcw9.cw
        have SZ : ∀ W, (W.cell? ⟨c, 0, none⟩ = some (.int .i64 (s2.l : Nat)) ∧ W.cell? ⟨c, 1, none⟩ = some (.int .i64 (s2.t : Nat))) → Calls Tryd.prog 36 #[.agg #[.int .i64 (s2.l : Nat), .int .i64 (s2.t : Nat)]] W fun e w' => e = .returned (.int .i64 ((64 - s2.l - s2.t : Nat) : Int)) ∧ Below W.heap.size W w' ∧
            w'.cell? ⟨c, 0, none⟩ = some (.int .i64 (s2.l : Nat)) ∧ w'.cell? ⟨c, 1, none⟩ = some (.int .i64 (s2.t : Nat)) := fun W hW => (xsize_any s2.l s2.t ok9.2.1 W).mono (by
          rintro e w' ⟨rfl, hb⟩
          have hl := World.block_lt_of_cell? W _ hW.1
          exact ⟨rfl, hb, by rw [hb.cell (p := ⟨c, 0, none⟩) hl]; exact hW.1, by rw [hb.cell (p := ⟨c, 1, none⟩) hl]; exact hW.2⟩)
        have PT : ∀ W, Below w9.drew.heap.size w9.drew W → Calls Tryd.prog 33 #[.pointer (some ⟨p, 0, none⟩), .int .u64 ((d : Int) / 2 ^ min s2.t 64), .int .i64 (64 - s2.l - s2.t : Nat)] W fun e w' => e = .returned (.tuple #[]) ∧ (w'.cell? ⟨c, 0, none⟩ = some (.int .i64 (s2.l : Nat)) ∧ w'.cell? ⟨c, 1, none⟩ = some (.int .i64 (s2.t : Nat))) ∧
            ∃ v', KW w' c p s2 v' (L1 ++ bitsOf (d / 2 ^ s2.t) (64 - s2.l - s2.t)) ∧ WStep w w' p c v v' L (L1 ++ bitsOf (d / 2 ^ s2.t) (64 - s2.l - s2.t)) := fun W hW0 => by
          have hW : Below w9.heap.size w9 W := ⟨hW0.os, hW0.tape, hW0.output, hW0.size, hW0.block⟩
          rw [show min s2.t 64 = s2.t from by have := ok9.2.1; omega, shr_nat]
          refine (kwput_any W c p s2 v8 _ (d / 2 ^ s2.t) (64 - s2.l - s2.t) (Nat.lt_of_le_of_lt (Nat.div_le_self _ _) hdb) (by omega) (hcw9.below hW) (by omega)).mono ?_
          rintro e w' ⟨rfl, v', h1, h2⟩
          exact ⟨rfl, ⟨h1.cw.c0, h1.cw.c1⟩, v', h1, hS11.trans ((hcw9.belowS hW).trans h2)⟩
        go_region_held3 (fun w' => w'.cell? ⟨c, 0, none⟩ = some (.int .i64 (s2.l : Nat)) ∧ w'.cell? ⟨c, 1, none⟩ = some (.int .i64 (s2.t : Nat))) (go_keep)
          (first
            | (go_at_call 36; refine (SZ _ ⟨by assumption, by assumption⟩).mono ?_; rintro e w6 ⟨rfl, hb6, hk0, hk1⟩)
            | (go_at_call 33; refine (PT _ hb6).mono ?_; rintro e w7 ⟨rfl, ⟨hk7, hk8⟩, v7, hcw7, hS7⟩))
        go_end0
        rw [Hnx.out, Hen.out]
        have hall : L1 ++ bitsOf (d / 2 ^ s2.t) (64 - s2.l - s2.t) = L ++ (bitsOf 3 2 ++ (bitsOf lead 5 ++ (bitsOf (64 - lead - tail - 1) 6 ++ bitsOf (d / 2 ^ tail) (64 - lead - tail)))) := by
          rw [Hsl.out.1, Hsl.out.2, hL1.out, hZ.out]; simp only [List.append_assoc]
        rw [hall] at hS7
        exact ⟨rfl, v7, hcw7.cw, hS7⟩
end Go.Proofs.YtdegmeclcbndgaaDoor
