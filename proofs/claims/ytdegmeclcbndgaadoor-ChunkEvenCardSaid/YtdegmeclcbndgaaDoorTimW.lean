/- The writers of times, of the program and of the document. -/
import Derived.Test.YtdegmeclcbndgaaDoorTim
import Derived.Test.YtdegmeclcbndgaaDoorBitLaw
import Derived.Laws.Rows
namespace Go.Proofs.YtdegmeclcbndgaaDoor
open Go.RowKit Bit Tim

structure CInv (w : World) (c : Nat) (s : St) : Prop where
  c0 : w.cell? ⟨c, 0, none⟩ = some (.bool s.b)
  c1 : w.cell? ⟨c, 1, none⟩ = some (.int .i64 s.t)
  c2 : w.cell? ⟨c, 2, none⟩ = some (.int .i64 s.d)
  f0 : w.frozen? ⟨c, 0, none⟩ = false
  f1 : w.frozen? ⟨c, 1, none⟩ = false
  f2 : w.frozen? ⟨c, 2, none⟩ = false

theorem CInv.keep {F : Nat → Prop} {w w' : World} {c : Nat} {s : St} (h : CInv w c s) (hc : Chg F w w') (hp : ¬ F c) : CInv w' c s := by
  have hlt := World.block_lt_of_cell? w _ h.c0
  exact ⟨hc.cell h.c0 hp, hc.cell h.c1 hp, hc.cell h.c2 hp, by rw [hc.frozen (a := ⟨c, 0, none⟩) hlt hp]; exact h.f0, by rw [hc.frozen (a := ⟨c, 1, none⟩) hlt hp]; exact h.f1, by rw [hc.frozen (a := ⟨c, 2, none⟩) hlt hp]; exact h.f2⟩

theorem off_ne {c i j : Nat} (h : i ≠ j) : (⟨c, i, none⟩ : Addr) ≠ ⟨c, j, none⟩ := fun e => h (by simpa using congrArg Addr.off e)

theorem CInv.st {w : World} {c : Nat} {s : St} (h : CInv w c s) (t : Int) : CInv (w.setCell ⟨c, 1, none⟩ (.int .i64 t)) c ⟨s.b, t, s.d⟩ := by
  refine ⟨?_, World.cell?_setCell_same _ _ _ h.c1, ?_, ?_, ?_, ?_⟩
  · rw [World.cell?_setCell_other _ _ _ _ (off_ne (by decide))]; exact h.c0
  · rw [World.cell?_setCell_other _ _ _ _ (off_ne (by decide))]; exact h.c2
  · rw [World.frozen?_setCell]; exact h.f0
  · rw [World.frozen?_setCell]; exact h.f1
  · rw [World.frozen?_setCell]; exact h.f2
theorem CInv.sd {w : World} {c : Nat} {s : St} (h : CInv w c s) (d : Int) : CInv (w.setCell ⟨c, 2, none⟩ (.int .i64 d)) c ⟨s.b, s.t, d⟩ := by
  refine ⟨?_, ?_, World.cell?_setCell_same _ _ _ h.c2, ?_, ?_, ?_⟩
  · rw [World.cell?_setCell_other _ _ _ _ (off_ne (by decide))]; exact h.c0
  · rw [World.cell?_setCell_other _ _ _ _ (off_ne (by decide))]; exact h.c1
  · rw [World.frozen?_setCell]; exact h.f0
  · rw [World.frozen?_setCell]; exact h.f1
  · rw [World.frozen?_setCell]; exact h.f2
theorem CInv.sb {w : World} {c : Nat} {s : St} (h : CInv w c s) (b : Bool) : CInv (w.setCell ⟨c, 0, none⟩ (.bool b)) c ⟨b, s.t, s.d⟩ := by
  refine ⟨World.cell?_setCell_same _ _ _ h.c0, ?_, ?_, ?_, ?_, ?_⟩
  · rw [World.cell?_setCell_other _ _ _ _ (off_ne (by decide))]; exact h.c1
  · rw [World.cell?_setCell_other _ _ _ _ (off_ne (by decide))]; exact h.c2
  · rw [World.frozen?_setCell]; exact h.f0
  · rw [World.frozen?_setCell]; exact h.f1
  · rw [World.frozen?_setCell]; exact h.f2

theorem timesnew_any (w : World) : Calls Tryd.prog 44 #[] w fun e w' => e = .returned (.pointer (some ⟨w.heap.size, 0, none⟩)) ∧ CInv w' w.heap.size St.zero ∧ Below w.heap.size w w' := by
  go_enter Tryd.func44, Tryd.ntmps44
  go_wp2
  go_ret
  refine ⟨rfl, ⟨by simp [St.zero], by simp [St.zero], by simp [St.zero], by simp, by simp, by simp⟩, (Below.refl _ _).alloc (Nat.le_refl _) _⟩

theorem pass_any (w : World) (c : Nat) (s : St) (t : Int) (h : CInv w c s) :
    Calls Tryd.prog 54 #[.pointer (some ⟨c, 0, none⟩), .int .i64 t] w fun e w' => e = .returned (.tuple #[]) ∧ CInv w' c ⟨s.b, t, wrap64 (t - s.t)⟩ ∧ Chg (fun k => k = c) w w' := by
  have h2 := h.sd (wrap64 (t - s.t))
  have h3 := h2.st t
  have hc : Chg (fun k => k = c) w ((w.setCell ⟨c, 2, none⟩ (.int .i64 (wrap64 (t - s.t)))).setCell ⟨c, 1, none⟩ (.int .i64 t)) :=
    (Chg.setCell w ⟨c, 2, none⟩ _).trans (Chg.setCell _ ⟨c, 1, none⟩ _) (fun _ _ x => x)
  obtain ⟨c0, c1, c2, f0, f1, f2⟩ := h
  go_enter Tryd.func54, Tryd.ntmps54
  go_wp2
  go_end0
  exact ⟨rfl, h3, hc⟩

theorem spans_any (w : World) : Calls Tryd.prog 55 #[] w fun e w' => e = .returned (.agg #[.int .i64 (-63), .int .i64 64, .int .i64 7, .int .i64 (-255), .int .i64 256, .int .i64 9, .int .i64 (-2047), .int .i64 2048, .int .i64 12]) ∧ Below w.heap.size w w' := by
  go_enter Tryd.func55, Tryd.ntmps55
  go_wp2
  exact bodyPost_ret (results_cell_row rfl _ _ w.heap.size _ _ _ _ rfl (heap_alloc_new w _) Tryd.underlying101 rfl (by kernel_rfl)) rfl ⟨rfl, (Below.refl _ _).alloc (Nat.le_refl _) _⟩

/-- Bits written, upon whatever else was done outside of the writer's memory. -/
structure WStep (w w' : World) (p c : Nat) (v v' : Value) (L L' : List Bool) : Prop where
  inv : WInv w' p v' (pack L') L'.length
  own : ∀ g, v'.ownBlock = some g → v.ownBlock = some g ∨ w.heap.size ≤ g
  chg : Chg (fun k => fpW p v k ∨ k = c) w w'

theorem WStep.refl {w : World} {p c : Nat} {v : Value} {L : List Bool} (h : WInv w p v (pack L) L.length) : WStep w w p c v v L L := ⟨h, fun _ hg => .inl hg, Chg.refl _ _⟩

theorem WStep.trans {w w1 w2 : World} {p c : Nat} {v v1 v2 : Value} {L L1 L2 : List Bool} (h : WStep w w1 p c v v1 L L1) (k : WStep w1 w2 p c v1 v2 L1 L2) : WStep w w2 p c v v2 L L2 := by
  have hs := h.chg.size
  refine ⟨k.inv, fun g hg => ?_, h.chg.trans k.chg (fun b hb hf => ?_)⟩
  · rcases k.own g hg with h1 | h1
    · exact h.own g h1
    · right; omega
  · rcases hf with (rfl | h1) | h1
    · exact .inl (.inl rfl)
    · rcases h.own b h1 with h2 | h2
      · exact .inl (.inr h2)
      · omega
    · exact .inr h1

theorem WStep.put {w w' : World} {p c : Nat} {v v' : Value} {L : List Bool} {b : List Bool} {n : Nat} (hn : b.length = n) (h : WInv w' p v' (pack (L ++ b)) (L.length + n)) (ho : ∀ g, v'.ownBlock = some g → v.ownBlock = some g ∨ w.heap.size ≤ g) (hc : Chg (fpW p v) w w') :
    WStep w w' p c v v' L (L ++ b) := ⟨by rw [List.length_append, hn]; exact h, ho, hc.mono (fun _ _ x => .inl x)⟩

/-- Something else was done. -/
theorem WStep.other {w w' : World} {p c : Nat} {v : Value} {L : List Bool} {F : Nat → Prop} (h : WInv w p v (pack L) L.length) (hc : Chg F w w') (hF : ∀ k, k < w.heap.size → F k → k = c) (hcp : c ≠ p) (hcv : v.ownBlock ≠ some c) :
    WStep w w' p c v v L L := by
  have hp := World.block_lt_of_cell? w _ h.c0
  refine ⟨h.keep hc ?_, fun _ hg => .inl hg, hc.mono (fun b hb x => .inr (hF b hb x))⟩
  rintro k (rfl | hk) hf
  · exact hcp (hF _ hp hf).symm
  · have := hF k (owns_lt h.own hk) hf
    rw [this] at hk; exact hcv hk
def spansV : Value := .agg #[.int .i64 (-63), .int .i64 64, .int .i64 7, .int .i64 (-255), .int .i64 256, .int .i64 9, .int .i64 (-2047), .int .i64 2048, .int .i64 12]
theorem spans_at (W : World) : (Instr.index 101 spansV (.int .i64 0)).run Tryd.prog W = .ok (.agg #[.int .i64 (-63), .int .i64 64, .int .i64 7]) W ∧
    (Instr.index 101 spansV (.int .i64 1)).run Tryd.prog W = .ok (.agg #[.int .i64 (-255), .int .i64 256, .int .i64 9]) W ∧
    (Instr.index 101 spansV (.int .i64 2)).run Tryd.prog W = .ok (.agg #[.int .i64 (-2047), .int .i64 2048, .int .i64 12]) W := by
  refine ⟨?_, ?_, ?_⟩ <;> kernel_rfl

/-- The coder and the writer, apart. -/
structure CW (w : World) (c p : Nat) (s : St) (v : Value) (L : List Bool) : Prop where
  cw : CInv w c s
  ww : WInv w p v (pack L) L.length
  ne : c ≠ p
  nv : v.ownBlock ≠ some c

theorem CW.below {w w' : World} {c p : Nat} {s : St} {v : Value} {L : List Bool} (h : CW w c p s v L) (hb : Below w.heap.size w w') : CW w' c p s v L :=
  ⟨h.cw.keep (Chg.of_below (fun _ => False) hb) (fun x => x), h.ww.keep (Chg.of_below (fun _ => False) hb) (fun _ _ x => x), h.ne, h.nv⟩
theorem CW.belowS {w w' : World} {c p : Nat} {s : St} {v : Value} {L : List Bool} (h : CW w c p s v L) (hb : Below w.heap.size w w') : WStep w w' p c v v L L :=
  WStep.other h.ww (Chg.of_below (fun _ => False) hb) (fun _ _ x => x.elim) h.ne h.nv
theorem CW.coder {w w' : World} {c p : Nat} {s s' : St} {v : Value} {L : List Bool} (h : CW w c p s v L) (hc : CInv w' c s') (hb : Chg (fun k => k = c) w w') : CW w' c p s' v L ∧ WStep w w' p c v v L L := by
  have := WStep.other h.ww hb (fun _ _ x => x) h.ne h.nv
  exact ⟨⟨hc, this.inv, h.ne, h.nv⟩, this⟩

theorem cwput_any (w : World) (c p : Nat) (s : St) (v : Value) (L : List Bool) (x n : Nat) (hx : x < 18446744073709551616) (hn : n ≤ 64) (h : CW w c p s v L) (hL : L.length ≤ 1099511627776) :
    Calls Tryd.prog 33 #[.pointer (some ⟨p, 0, none⟩), .int .u64 x, .int .i64 n] w fun e w' => e = .returned (.tuple #[]) ∧
      ∃ v', CW w' c p s v' (L ++ bitsOf x n) ∧ WStep w w' p c v v' L (L ++ bitsOf x n) := by
  have P1 := put_any w p v L x n hx h.ww hL (by omega) (by omega)
  have emm : (max (min (n : Int) 64) 0).toNat = n := by omega
  rw [emm] at P1
  refine P1.mono ?_
  rintro e w' ⟨rfl, v', h1, h2, h3⟩
  have hcl : c < w.heap.size := World.block_lt_of_cell? w _ h.cw.c0
  have hS : WStep w w' p c v v' L (L ++ bitsOf x n) := WStep.put (bitsOf_length _ _) h1 h2 h3
  refine ⟨rfl, v', ⟨h.cw.keep h3 ?_, hS.inv, h.ne, fun e => ?_⟩, hS⟩
  · rintro (hk | hk)
    · exact h.ne hk
    · exact h.nv hk
  · rcases h2 c e with h4 | h4
    · exact h.nv h4
    · omega

theorem CW.fresh {wr w4 : World} {c p : Nat} {s : St} {v v4 : Value} {L L' L'' : List Bool} {o : Obj} (h : CW wr c p s v L) (hS : WStep (wr.alloc o) w4 p c v v4 L' L'') {i : Nat} {x : Value} (hx : (wr.alloc o).cell? ⟨wr.heap.size, i, none⟩ = some x) :
    w4.cell? ⟨wr.heap.size, i, none⟩ = some x := by
  have hp : p < wr.heap.size := World.block_lt_of_cell? wr _ h.ww.c0
  have hc : c < wr.heap.size := World.block_lt_of_cell? wr _ h.cw.c0
  refine hS.chg.cell hx ?_
  intro hf
  rcases hf with (e | e) | e
  · have e2 : wr.heap.size = p := e
    omega
  · have := owns_lt h.ww.own e
    have e2 : wr.heap.size < wr.heap.size := this
    omega
  · have e2 : wr.heap.size = c := e
    omega

set_option maxRecDepth 100000 in
set_option maxHeartbeats 2000000 in
theorem tput_any (w : World) (c p : Nat) (s : St) (v : Value) (L : List Bool) (t : Int) (h : CW w c p s v L) (hL : L.length ≤ 1099511620000) :
    Calls Tryd.prog 45 #[.pointer (some ⟨c, 0, none⟩), .pointer (some ⟨p, 0, none⟩), .int .i64 t] w fun e w' => e = .returned (.tuple #[]) ∧
      ∃ v', CInv w' c (s.next t) ∧ WStep w w' p c v v' L (L ++ encT s t) := by
  have hC := h.cw
  have hC2 := hC
  obtain ⟨c0, c1, c2, f0, f1, f2⟩ := hC2
  cases hb : s.b with
  | false =>
    rw [hb] at c0
    have h1 := (hC.sb true).st t
    have hch : Chg (fun k => k = c) w ((w.setCell ⟨c, 0, none⟩ (.bool true)).setCell ⟨c, 1, none⟩ (.int .i64 t)) := (Chg.setCell w ⟨c, 0, none⟩ _).trans (Chg.setCell _ ⟨c, 1, none⟩ _) (fun _ _ x => x)
    obtain ⟨hcw, hS⟩ := h.coder h1 hch
    obtain ⟨U, hU⟩ : ∃ U, Hid (U = (IntKind.u64.wrap t).toNat) := ⟨_, Lib.hid rfl⟩
    have hUw : IntKind.u64.wrap t = (U : Int) := by rw [hU.out, IntKind.wrap_u64]; omega
    have hUb : U < 18446744073709551616 := by have := hU.out; rw [IntKind.wrap_u64] at this; omega
    have hnx : s.next t = ⟨true, t, s.d⟩ := by simp [St.next, hb]
    have hen : encT s t = bitsOf U 64 := by simp [encT, hb, hU.out]
    rw [hnx, hen]
    clear hnx hen h1 hch
    go_enter Tryd.func45, Tryd.ntmps45
    go_upto_region 2 with (fail)
    generalize ((w.setCell ⟨c, 0, none⟩ (.bool true)).setCell ⟨c, 1, none⟩ (.int .i64 t)) = w1 at hcw hS ⊢
    go_wp2_with (go_at_call 33; refine (cwput_any w1 c p _ v L U 64 hUb (by omega) hcw (by omega)).mono ?_; rintro e w2 ⟨rfl, v2, hcw2, hS2⟩)
    refine bodyPost_ret (results_none rfl _ _ _) rfl ?_
    exact ⟨rfl, v2, hcw2.cw, hS.trans hS2⟩
  | true =>
    rw [hb] at c0
    obtain ⟨s2, hs2⟩ : ∃ s2 : St, Hid (s2 = ⟨true, t, wrap64 (t - s.t)⟩) := ⟨_, Lib.hid rfl⟩
    have hnx : s.next t = s2 := by simp [St.next, hb, hs2.out]
    obtain ⟨x, hx⟩ : ∃ x, Hid (x = chgX s t) := ⟨_, Lib.hid rfl⟩
    have hen : encT s t = encX x := by simp [encT, hb, hx.out]
    rw [hnx, hen]
    clear hnx hen
    have hxw : wrap64 (wrap64 (t - s.t) - s.d) = x := by rw [hx.out]; rfl
    have hxb : -9223372036854775808 ≤ x ∧ x < 9223372036854775808 := by rw [← hxw]; unfold wrap64; omega
    have hps : ∀ m, CInv (w.drewN m) c s := fun m => hC.keep (Chg.drewN (fun _ => False) _ _) (fun y => y)
    go_enter Tryd.func45, Tryd.ntmps45
    go_upto_region 3 with (fail)
    go_quiet (fail)
    go_upto_region 5 with (go_at_call 54; refine (pass_any _ c s t (hps _)).mono ?_; rintro e w1 ⟨rfl, h1, hch⟩)
    rw [hb, ← hs2.out] at h1
    have hch2 : Chg (fun k => k = c) w w1 := (Chg.drewN _ w nq).trans hch (fun _ _ y => y)
    obtain ⟨hcw, hS⟩ := h.coder h1 hch2
    clear h1 hch hch2 hps
    by_cases hx0 : x = 0
    · have hen : encX x = bitsOf 0 1 := by rw [hx0]; rfl
      go_wp2_with (go_at_call 33; refine (cwput_any w1 c p _ v L 0 1 (by omega) (by omega) hcw (by omega)).mono ?_; rintro e w2 ⟨rfl, v2, hcw2, hS2⟩)
      refine bodyPost_ret (results_none rfl _ _ _) rfl ?_
      rw [hen]
      exact ⟨rfl, v2, hcw2.cw, hS.trans hS2⟩
    · go_upto_region 8 with (go_at_call 55; refine (spans_any _).mono ?_; rintro e w2 ⟨rfl, hb2⟩)
      have hcw2 := hcw.below hb2
      have hS2 := hS.trans (hcw.belowS hb2)
      clear hcw hS hb2
      have hb11 : bitsOf 1 1 = [true] := by decide
      have hb01 : bitsOf 0 1 = [false] := by decide
      go_wp2
      go_loopw [44] (fun i wr => ∃ (j : Nat) (v1 : Value), j ≤ 3 ∧ i = .int .i64 j ∧ CW wr c p s2 v1 (L ++ List.replicate j true) ∧ WStep w wr p c v v1 L (L ++ List.replicate j true) ∧
        Hid ((1 ≤ j → ¬ (-63 ≤ x ∧ x ≤ 64)) ∧ (2 ≤ j → ¬ (-255 ≤ x ∧ x ≤ 256)) ∧ (3 ≤ j → ¬ (-2047 ≤ x ∧ x ≤ 2048)))) (fun i _ => 3 - (intOf i).toNat)
      case atStart =>
        exact ⟨0, v, by omega, rfl, by simpa using hcw2, by simpa using hS2, Lib.hid (by omega)⟩
      case round =>
        obtain ⟨j, v1, hj, rfl, hcw3, hS3, hnot⟩ := hrel
        have hll : (L ++ List.replicate j true).length ≤ 1099511620003 := by rw [List.length_append, List.length_replicate]; omega
        have hi0 := fun W => (spans_at W).1
        have hi1 := fun W => (spans_at W).2.1
        have hi2 := fun W => (spans_at W).2.2
        unfold spansV at hi0 hi1 hi2
        rcases (by omega : j = 0 ∨ j = 1 ∨ j = 2 ∨ j = 3) with rfl | rfl | rfl | rfl
        · go_upto_region 11 with (go_at_call 33; refine (cwput_any _ c p _ v1 _ 1 1 (by omega) (by omega) (hcw3.below ((Below.refl _ _).alloc (Nat.le_refl _) _)) (by omega)).mono ?_; rintro e w4 ⟨rfl, v4, hcw4, hS4⟩)
          have hk0 := hcw3.fresh hS4 (i := 0) (x := .int .i64 (-63)) (by simp)
          have hk1 := hcw3.fresh hS4 (i := 1) (x := .int .i64 64) (by simp)
          have hS14 := hS3.trans ((hcw3.belowS ((Below.refl _ _).alloc (Nat.le_refl _) _)).trans hS4)
          have hrep : L ++ List.replicate 0 true ++ bitsOf 1 1 = L ++ List.replicate (0 + 1) true := by rw [List.append_assoc, hb11, ← List.replicate_succ']
          rw [hrep] at hcw4 hS4 hS14
          by_cases hin : -63 ≤ x ∧ x ≤ 64
          · obtain ⟨hin1, hin2⟩ := hin
            go_upto_region 13 with (go_at_call 33; refine (cwput_any _ c p _ v4 _ 0 1 (by omega) (by omega) hcw4 (by rw [List.length_append, List.length_replicate]; omega)).mono ?_; rintro e w5 ⟨rfl, v5, hcw5, hS5⟩)
            have hj0 := hcw3.fresh (hS4.trans hS5) (i := 0) (x := .int .i64 (-63)) (by simp)
            have hj2 := hcw3.fresh (hS4.trans hS5) (i := 2) (x := .int .i64 7) (by simp)
            obtain ⟨U, hU⟩ : ∃ U, Hid (U = (x + 63).toNat) := ⟨_, Lib.hid rfl⟩
            have hUw : x + 63 = (U : Int) := by rw [hU.out]; omega
            have hUb : U < 18446744073709551616 := by have := hU.out; omega
            have hUw2 : IntKind.u64.wrap (U : Int) = (U : Int) := by rw [IntKind.wrap_u64]; omega
            go_wp2_with (go_at_call 33; refine (cwput_any _ c p _ v5 _ U 7 hUb (by omega) hcw5 (by rw [List.length_append, List.length_append, List.length_replicate, bitsOf_length]; omega)).mono ?_; rintro e w6 ⟨rfl, v6, hcw6, hS6⟩)
            refine bodyPost_ret (results_none rfl _ _ _) rfl ?_
            have hen : encX x = bitsOf 2 2 ++ bitsOf U 7 := by
              have hno := hnot.out
              unfold encX
              simp only [hU.out]
              repeat rw [if_neg (by omega)]
              rw [if_pos (by omega)]
            have hfr : List.replicate (0 + 1) true ++ bitsOf 0 1 = bitsOf 2 2 := by decide
            have hall : L ++ List.replicate (0 + 1) true ++ bitsOf 0 1 ++ bitsOf U 7 = L ++ encX x := by rw [hen, ← hfr]; simp only [List.append_assoc]
            rw [hall] at hS6
            exact ⟨rfl, v6, hcw6.cw, hS14.trans (hS5.trans hS6)⟩
          · have hout : (x < -63) ∨ (-63 ≤ x ∧ 64 < x) := by omega
            rcases hout with ho | ⟨ho1, ho2⟩
            all_goals
              go_wp2
              go_roundw
              case rel => exact ⟨0 + 1, v4, by omega, by go_num, hcw4, hS14, Lib.hid (by have := hnot.out; omega)⟩
              case measure => simp [intOf]
        · go_upto_region 11 with (go_at_call 33; refine (cwput_any _ c p _ v1 _ 1 1 (by omega) (by omega) (hcw3.below ((Below.refl _ _).alloc (Nat.le_refl _) _)) (by omega)).mono ?_; rintro e w4 ⟨rfl, v4, hcw4, hS4⟩)
          have hk0 := hcw3.fresh hS4 (i := 0) (x := .int .i64 (-255)) (by simp)
          have hk1 := hcw3.fresh hS4 (i := 1) (x := .int .i64 256) (by simp)
          have hS14 := hS3.trans ((hcw3.belowS ((Below.refl _ _).alloc (Nat.le_refl _) _)).trans hS4)
          have hrep : L ++ List.replicate 1 true ++ bitsOf 1 1 = L ++ List.replicate (1 + 1) true := by rw [List.append_assoc, hb11, ← List.replicate_succ']
          rw [hrep] at hcw4 hS4 hS14
          by_cases hin : -255 ≤ x ∧ x ≤ 256
          · obtain ⟨hin1, hin2⟩ := hin
            go_upto_region 13 with (go_at_call 33; refine (cwput_any _ c p _ v4 _ 0 1 (by omega) (by omega) hcw4 (by rw [List.length_append, List.length_replicate]; omega)).mono ?_; rintro e w5 ⟨rfl, v5, hcw5, hS5⟩)
            have hj0 := hcw3.fresh (hS4.trans hS5) (i := 0) (x := .int .i64 (-255)) (by simp)
            have hj2 := hcw3.fresh (hS4.trans hS5) (i := 2) (x := .int .i64 9) (by simp)
            obtain ⟨U, hU⟩ : ∃ U, Hid (U = (x + 255).toNat) := ⟨_, Lib.hid rfl⟩
            have hUw : x + 255 = (U : Int) := by rw [hU.out]; omega
            have hUb : U < 18446744073709551616 := by have := hU.out; omega
            have hUw2 : IntKind.u64.wrap (U : Int) = (U : Int) := by rw [IntKind.wrap_u64]; omega
            go_wp2_with (go_at_call 33; refine (cwput_any _ c p _ v5 _ U 9 hUb (by omega) hcw5 (by rw [List.length_append, List.length_append, List.length_replicate, bitsOf_length]; omega)).mono ?_; rintro e w6 ⟨rfl, v6, hcw6, hS6⟩)
            refine bodyPost_ret (results_none rfl _ _ _) rfl ?_
            have hen : encX x = bitsOf 6 3 ++ bitsOf U 9 := by
              have hno := hnot.out
              unfold encX
              simp only [hU.out]
              repeat rw [if_neg (by omega)]
              rw [if_pos (by omega)]
            have hfr : List.replicate (1 + 1) true ++ bitsOf 0 1 = bitsOf 6 3 := by decide
            have hall : L ++ List.replicate (1 + 1) true ++ bitsOf 0 1 ++ bitsOf U 9 = L ++ encX x := by rw [hen, ← hfr]; simp only [List.append_assoc]
            rw [hall] at hS6
            exact ⟨rfl, v6, hcw6.cw, hS14.trans (hS5.trans hS6)⟩
          · have hout : (x < -255) ∨ (-255 ≤ x ∧ 256 < x) := by omega
            rcases hout with ho | ⟨ho1, ho2⟩
            all_goals
              go_wp2
              go_roundw
              case rel => exact ⟨1 + 1, v4, by omega, by go_num, hcw4, hS14, Lib.hid (by have := hnot.out; omega)⟩
              case measure => simp [intOf]
        · go_upto_region 11 with (go_at_call 33; refine (cwput_any _ c p _ v1 _ 1 1 (by omega) (by omega) (hcw3.below ((Below.refl _ _).alloc (Nat.le_refl _) _)) (by omega)).mono ?_; rintro e w4 ⟨rfl, v4, hcw4, hS4⟩)
          have hk0 := hcw3.fresh hS4 (i := 0) (x := .int .i64 (-2047)) (by simp)
          have hk1 := hcw3.fresh hS4 (i := 1) (x := .int .i64 2048) (by simp)
          have hS14 := hS3.trans ((hcw3.belowS ((Below.refl _ _).alloc (Nat.le_refl _) _)).trans hS4)
          have hrep : L ++ List.replicate 2 true ++ bitsOf 1 1 = L ++ List.replicate (2 + 1) true := by rw [List.append_assoc, hb11, ← List.replicate_succ']
          rw [hrep] at hcw4 hS4 hS14
          by_cases hin : -2047 ≤ x ∧ x ≤ 2048
          · obtain ⟨hin1, hin2⟩ := hin
            go_upto_region 13 with (go_at_call 33; refine (cwput_any _ c p _ v4 _ 0 1 (by omega) (by omega) hcw4 (by rw [List.length_append, List.length_replicate]; omega)).mono ?_; rintro e w5 ⟨rfl, v5, hcw5, hS5⟩)
            have hj0 := hcw3.fresh (hS4.trans hS5) (i := 0) (x := .int .i64 (-2047)) (by simp)
            have hj2 := hcw3.fresh (hS4.trans hS5) (i := 2) (x := .int .i64 12) (by simp)
            obtain ⟨U, hU⟩ : ∃ U, Hid (U = (x + 2047).toNat) := ⟨_, Lib.hid rfl⟩
            have hUw : x + 2047 = (U : Int) := by rw [hU.out]; omega
            have hUb : U < 18446744073709551616 := by have := hU.out; omega
            have hUw2 : IntKind.u64.wrap (U : Int) = (U : Int) := by rw [IntKind.wrap_u64]; omega
            go_wp2_with (go_at_call 33; refine (cwput_any _ c p _ v5 _ U 12 hUb (by omega) hcw5 (by rw [List.length_append, List.length_append, List.length_replicate, bitsOf_length]; omega)).mono ?_; rintro e w6 ⟨rfl, v6, hcw6, hS6⟩)
            refine bodyPost_ret (results_none rfl _ _ _) rfl ?_
            have hen : encX x = bitsOf 14 4 ++ bitsOf U 12 := by
              have hno := hnot.out
              unfold encX
              simp only [hU.out]
              repeat rw [if_neg (by omega)]
              rw [if_pos (by omega)]
            have hfr : List.replicate (2 + 1) true ++ bitsOf 0 1 = bitsOf 14 4 := by decide
            have hall : L ++ List.replicate (2 + 1) true ++ bitsOf 0 1 ++ bitsOf U 12 = L ++ encX x := by rw [hen, ← hfr]; simp only [List.append_assoc]
            rw [hall] at hS6
            exact ⟨rfl, v6, hcw6.cw, hS14.trans (hS5.trans hS6)⟩
          · have hout : (x < -2047) ∨ (-2047 ≤ x ∧ 2048 < x) := by omega
            rcases hout with ho | ⟨ho1, ho2⟩
            all_goals
              go_wp2
              go_roundw
              case rel => exact ⟨2 + 1, v4, by omega, by go_num, hcw4, hS14, Lib.hid (by have := hnot.out; omega)⟩
              case measure => simp [intOf]
        · obtain ⟨U, hU⟩ : ∃ U, Hid (U = (IntKind.u64.wrap x).toNat) := ⟨_, Lib.hid rfl⟩
          have hUw : IntKind.u64.wrap x = (U : Int) := by rw [hU.out, IntKind.wrap_u64]; omega
          have hUb : U < 18446744073709551616 := by have := hU.out; rw [IntKind.wrap_u64] at this; omega
          go_upto_region 16 with (go_at_call 33; refine (cwput_any _ c p _ v1 _ 1 1 (by omega) (by omega) hcw3 (by omega)).mono ?_; rintro e w4 ⟨rfl, v4, hcw4, hS4⟩)
          go_wp2_with (go_at_call 33; refine (cwput_any _ c p _ v4 _ U 64 hUb (by omega) hcw4 (by rw [List.length_append, bitsOf_length]; omega)).mono ?_; rintro e w6 ⟨rfl, v6, hcw6, hS6⟩)
          go_end0
          have hen : encX x = bitsOf 15 4 ++ bitsOf U 64 := by
            have hno := hnot.out
            unfold encX
            simp only [hU.out]
            repeat rw [if_neg (by omega)]
          have hfr : List.replicate 3 true ++ bitsOf 1 1 = bitsOf 15 4 := by decide
          have hall : L ++ List.replicate 3 true ++ bitsOf 1 1 ++ bitsOf U 64 = L ++ encX x := by rw [hen, ← hfr]; simp only [List.append_assoc]
          rw [hall] at hS6
          exact ⟨rfl, v6, hcw6.cw, hS3.trans (hS4.trans hS6)⟩
end Go.Proofs.YtdegmeclcbndgaaDoor
