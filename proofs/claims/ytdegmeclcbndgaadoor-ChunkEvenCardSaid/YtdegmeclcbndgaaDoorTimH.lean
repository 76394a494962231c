/- The program's reader of bits by the bits that are left; the reader of changes. -/
import Derived.Test.YtdegmeclcbndgaaDoorTimG
namespace Go.Proofs.YtdegmeclcbndgaaDoor
open Go.RowKit Bit Tim

/-- The program's reader, by the bits that are left. -/
structure DR (w : World) (p : Nat) (R : List Bool) : Prop where
  ex : ∃ (s : ByteArray) (a e : Nat), DInv w p s a e ∧ a ≤ e ∧ e ≤ 8 * s.size ∧ s.size ≤ 17592186044416 ∧ R = ((bitsT s.data.toList).take e).drop a

theorem DR.keep {F : Nat → Prop} {w w' : World} {p : Nat} {R : List Bool} (h : DR w p R) (hc : Chg F w w') (hp : ¬ F p) : DR w' p R := by
  obtain ⟨s, a, e, h1, h2⟩ := h.ex
  exact ⟨s, a, e, h1.keep hc hp, h2⟩
theorem DR.lt {w : World} {p : Nat} {R : List Bool} (h : DR w p R) : p < w.heap.size := by
  obtain ⟨s, a, e, h1, h2⟩ := h.ex
  exact World.block_lt_of_cell? w _ h1.c0

theorem left_len {s : ByteArray} {a e : Nat} (he : e ≤ 8 * s.size) : (((bitsT s.data.toList).take e).drop a).length = e - a := by
  have hlen : (bitsT s.data.toList).length = 8 * s.size := by rw [bitsT_length, ← size_toList]
  rw [List.length_drop, List.length_take]; omega
theorem left_take {s : ByteArray} {a e n : Nat} (hn : a + n ≤ e) : (((bitsT s.data.toList).take e).drop a).take n = ((bitsT s.data.toList).drop a).take n := by
  rw [List.drop_take, List.take_take]; congr 1; omega

theorem dget_some (w : World) (p n : Nat) (R : List Bool) (h : DR w p R) (hn : n ≤ 64) (hl : n ≤ R.length) :
    Calls Tryd.prog 40 #[.pointer (some ⟨p, 0, none⟩), .int .i64 n] w fun x w' => x = .returned (.tuple #[.int .u64 (valB (R.take n) : Nat), .bool true]) ∧ DR w' p (R.drop n) ∧ Chg (fun k => k = p) w w' := by
  obtain ⟨s, a, e, h1, h2, h3, h4, rfl⟩ := h.ex
  rw [left_len h3] at hl
  refine (rget_some w p s a e n h1 h2 h3 (by omega) hn (by omega)).mono ?_
  rintro x w' ⟨rfl, h5, h6⟩
  refine ⟨by rw [left_take (by omega)], ⟨s, a + n, e, h5, by omega, h3, h4, by rw [List.drop_drop]⟩, h6⟩
theorem dget_none (w : World) (p n : Nat) (R : List Bool) (h : DR w p R) (hl : R.length < n) :
    Calls Tryd.prog 40 #[.pointer (some ⟨p, 0, none⟩), .int .i64 n] w fun x w' => x = .returned (.tuple #[.int .u64 0, .bool false]) ∧ DR w' p R ∧ Chg (fun k => k = p) w w' := by
  obtain ⟨s, a, e, h1, h2, h3, h4, rfl⟩ := h.ex
  rw [left_len h3] at hl
  refine (rget_none w p s a e n h1 h2 (by omega) (by omega)).mono ?_
  rintro x w' ⟨rfl, m, rfl⟩
  exact ⟨rfl, ⟨s, a, e, h1.keep (Chg.drewN (fun _ => False) _ _) (fun x => x), h2, h3, h4, rfl⟩, Chg.drewN _ _ _⟩
theorem dleft (w : World) (p : Nat) (R : List Bool) (h : DR w p R) :
    Calls Tryd.prog 24 #[.pointer (some ⟨p, 0, none⟩)] w fun x w' => x = .returned (.int .i64 (R.length : Nat)) ∧ ∃ m, w' = w.drewN m := by
  obtain ⟨s, a, e, h1, h2, h3, h4, rfl⟩ := h.ex
  exact left_d w p s a e _ h1 h2 (by omega) (by rw [left_len h3])

theorem bitval {b : Bool} : valB [b] = if b then 1 else 0 := by cases b <;> rfl

theorem within_left (w : World) (p : Nat) (R : List Bool) (k : Nat) (hk : k ≤ 3) (h : DR w p R) :
    Calls Tryd.prog 62 #[.pointer (some ⟨p, 0, none⟩), spanV k] w fun y w' => ∃ (x : Int) (ok : Bool) (R' : List Bool), y = .returned (.tuple #[.int .i64 x, .bool ok]) ∧ DR w' p R' ∧ R'.length ≤ R.length ∧ Chg (fun k => k = p) w w' ∧
      (ok = true → decX (frontB k ++ R) = some (x, frOf k + wOf k) ∧ R' = R.drop (wOf k)) ∧ (ok = false → decX (frontB k ++ R) = none) := by
  obtain ⟨s, a, e, h1, h2, h3, h4, hR⟩ := h.ex
  have hl : R.length = e - a := by rw [hR, left_len h3]
  refine (within_any w p s a e k hk h1 h2 h3 h4).mono ?_
  rintro y w' ⟨x, ok, c, rfl, g1, g2, g3, g4, g5, g6⟩
  have ht : a + wOf k ≤ e → ((bitsT s.data.toList).drop a).take (wOf k) = R.take (wOf k) := fun hh => by rw [hR, left_take hh]
  refine ⟨x, ok, ((bitsT s.data.toList).take e).drop c, rfl, ⟨s, c, e, g1, g3, h3, h4, rfl⟩, by rw [left_len h3]; omega, g4, fun ho => ?_, fun ho => ?_⟩
  · obtain ⟨e1, e2, e3⟩ := g5 ho
    rw [ht (by omega)] at e2
    refine ⟨?_, by rw [e1, hR, List.drop_drop]⟩
    rw [dec_ok k (by omega) R (by omega) x e2, if_pos e3]
  · by_cases hs : wOf k ≤ R.length
    · have e3 := g6 ho
      rw [ht (by omega)] at e3
      rw [dec_ok k (by omega) R hs _ rfl, if_neg]
      rcases e3 with e3 | e3
      · omega
      · exact e3
    · rw [dec_front k (by omega) R, if_neg hs]

theorem frontB_of (j : Nat) (hj : j ≤ 3) : List.replicate j true ++ [false] = frontB j := by
  rcases (by omega : j = 0 ∨ j = 1 ∨ j = 2 ∨ j = 3) with rfl | rfl | rfl | rfl <;> rfl

def spLo : Nat → Int
  | 0 => 0 | 1 => -63 | 2 => -255 | _ => -2047
def spHi : Nat → Int
  | 0 => 0 | 1 => 64 | 2 => 256 | _ => 2048
def spB : Nat → Int
  | 0 => 0 | 1 => 7 | 2 => 9 | _ => 12

/-- A span in memory. -/
structure SpanAt (w : World) (b j : Nat) : Prop where
  c0 : w.cell? ⟨b, 0, none⟩ = some (.int .i64 (spLo j))
  c1 : w.cell? ⟨b, 1, none⟩ = some (.int .i64 (spHi j))
  c2 : w.cell? ⟨b, 2, none⟩ = some (.int .i64 (spB j))
  f0 : w.frozen? ⟨b, 0, none⟩ = false
  f1 : w.frozen? ⟨b, 1, none⟩ = false
  f2 : w.frozen? ⟨b, 2, none⟩ = false
theorem SpanAt.keep {F : Nat → Prop} {w w' : World} {b j : Nat} (h : SpanAt w b j) (hc : Chg F w w') (hp : ¬ F b) : SpanAt w' b j := by
  have hlt := World.block_lt_of_cell? w _ h.c0
  exact ⟨hc.cell h.c0 hp, hc.cell h.c1 hp, hc.cell h.c2 hp, by rw [hc.frozen (a := ⟨b, 0, none⟩) hlt hp]; exact h.f0, by rw [hc.frozen (a := ⟨b, 1, none⟩) hlt hp]; exact h.f1, by rw [hc.frozen (a := ⟨b, 2, none⟩) hlt hp]; exact h.f2⟩

theorem SpanAt.stored {w : World} {b j : Nat} (h : SpanAt w b j) (k : Nat) {x y z : Int} (hx : x = spLo k) (hy : y = spHi k) (hz : z = spB k) :
    SpanAt (((w.setCell ⟨b, 0, none⟩ (.int .i64 x)).setCell ⟨b, 1, none⟩ (.int .i64 y)).setCell ⟨b, 2, none⟩ (.int .i64 z)) b k ∧
    Chg (fun k => k = b) w (((w.setCell ⟨b, 0, none⟩ (.int .i64 x)).setCell ⟨b, 1, none⟩ (.int .i64 y)).setCell ⟨b, 2, none⟩ (.int .i64 z)) := by
  subst hx hy hz
  obtain ⟨c0, c1, c2, f0, f1, f2⟩ := h
  have d1 := World.cell?_setCell_same w ⟨b, 0, none⟩ (.int .i64 (spLo k)) c0
  have d2 : (w.setCell ⟨b, 0, none⟩ (.int .i64 (spLo k))).cell? ⟨b, 1, none⟩ = some (.int .i64 (spHi j)) := by rw [World.cell?_setCell_other _ _ _ _ (off_ne (by decide))]; exact c1
  have d3 := World.cell?_setCell_same (w.setCell ⟨b, 0, none⟩ (.int .i64 (spLo k))) ⟨b, 1, none⟩ (.int .i64 (spHi k)) d2
  have d4 : ((w.setCell ⟨b, 0, none⟩ (.int .i64 (spLo k))).setCell ⟨b, 1, none⟩ (.int .i64 (spHi k))).cell? ⟨b, 2, none⟩ = some (.int .i64 (spB j)) := by
    rw [World.cell?_setCell_other _ _ _ _ (off_ne (by decide)), World.cell?_setCell_other _ _ _ _ (off_ne (by decide))]; exact c2
  refine ⟨⟨?_, ?_, World.cell?_setCell_same _ _ _ d4, ?_, ?_, ?_⟩, ?_⟩
  · rw [World.cell?_setCell_other _ _ _ _ (off_ne (by decide)), World.cell?_setCell_other _ _ _ _ (off_ne (by decide))]; exact d1
  · rw [World.cell?_setCell_other _ _ _ _ (off_ne (by decide))]; exact d3
  · rw [World.frozen?_setCell, World.frozen?_setCell, World.frozen?_setCell]; exact f0
  · rw [World.frozen?_setCell, World.frozen?_setCell, World.frozen?_setCell]; exact f1
  · rw [World.frozen?_setCell, World.frozen?_setCell, World.frozen?_setCell]; exact f2
  · exact ((Chg.setCell w ⟨b, 0, none⟩ _).trans (Chg.setCell _ ⟨b, 1, none⟩ _) (fun _ _ x => x)).trans (Chg.setCell _ ⟨b, 2, none⟩ _) (fun _ _ x => x)

structure ChOut (w : World) (p : Nat) (R : List Bool) (y : Ending) (w' : World) : Prop where
  ex : ∃ (x : Int) (ok : Bool) (R' : List Bool), y = .returned (.tuple #[.int .i64 x, .bool ok]) ∧ DR w' p R' ∧ R'.length ≤ R.length ∧ Chg (fun k => k = p) w w' ∧
      (ok = true → ∃ n, decX R = some (x, n) ∧ R' = R.drop n) ∧ (ok = false → decX R = none)

set_option maxRecDepth 100000 in
set_option maxHeartbeats 2000000 in
theorem change_any (w : World) (p : Nat) (R : List Bool) (h : DR w p R) :
    Calls Tryd.prog 61 #[.pointer (some ⟨p, 0, none⟩)] w (ChOut w p R) := by
  have hpl : p < w.heap.size := h.lt
  go_enter Tryd.func61, Tryd.ntmps61
  go_upto_region 3 with (go_at_call 55; refine (spans_any _).mono ?_; rintro y w2 ⟨rfl, hb2⟩)
  have hi0 := fun W => (spans_at W).1
  have hi1 := fun W => (spans_at W).2.1
  have hi2 := fun W => (spans_at W).2.2
  unfold spansV at hi0 hi1 hi2
  have hba : Below w.heap.size w (w.alloc (.cells #[.int .i64 0, .int .i64 0, .int .i64 0] 100)) := (Below.refl _ _).alloc (Nat.le_refl _) _
  have hbw : Below w.heap.size w w2 := below_tr hba hb2
  have hs0 : SpanAt w2 w.heap.size 0 := by
    have : SpanAt (w.alloc (.cells #[.int .i64 0, .int .i64 0, .int .i64 0] 100)) w.heap.size 0 := ⟨by simp [spLo], by simp [spHi], by simp [spB], by simp, by simp, by simp⟩
    exact this.keep (Chg.of_below (fun _ => False) hb2) (fun x => x)
  obtain ⟨B, hB⟩ : ∃ B, Hid (B = w.heap.size) := ⟨_, Lib.hid rfl⟩
  rw [← hB.out] at hs0 ⊢
  have hBp : p ≠ B := by rw [hB.out]; omega
  clear hba hb2
  go_loopw [15] (fun i wr => ∃ j : Nat, j ≤ 3 ∧ i = .int .i64 j ∧ SpanAt wr B j ∧ DR wr p (R.drop j) ∧ Hid (R.take j = List.replicate j true) ∧ Chg (fun k => k = p) w wr) (fun i _ => 3 - (intOf i).toNat)
  case atStart => exact ⟨0, by omega, rfl, hs0, h.keep (Chg.of_below (fun _ => False) hbw) (fun x => x), Lib.hid rfl, Chg.of_below _ hbw⟩
  case round =>
    obtain ⟨j, hj, rfl, hs, hd, htk, hch⟩ := hrel
    clear hs0 hbw
    have Hd0 : ∀ b R2, R.drop j = b :: R2 → R = List.replicate j true ++ (b :: R2) := by
      intro b R2 e
      conv => lhs; rw [← List.take_append_drop j R]
      rw [htk.out, e]
    have Hd1 : R.drop j = [] → j ≤ 3 → decX R = none := by
      intro e hj
      have : R = List.replicate j true := by
        conv => lhs; rw [← List.take_append_drop j R]
        rw [htk.out, e, List.append_nil]
      rw [this]; exact dec_short j hj
    have HD0 := Lib.hid Hd0
    have HD1 := Lib.hid Hd1
    clear Hd0 Hd1
    rcases (by omega : j = 0 ∨ j = 1 ∨ j = 2 ∨ j = 3) with rfl | rfl | rfl | rfl
    · cases hD : R.drop 0 with
      | nil =>
        rw [hD] at hd
        go_upto_region 6 with (go_at_call 40; refine (dget_none _ p 1 [] (hd.keep (Chg.alloc (fun _ => False) _ _) (fun x => x)) (by simp)).mono ?_; rintro y w3 ⟨rfl, h3, hc3⟩)
        go_wp2
        go_ret2
        exact ⟨0, false, [], rfl, h3, by simp, hch.trans ((Chg.alloc (fun k => k = p) _ _).trans hc3 (fun _ _ x => x)) (fun _ _ x => x), by simp, fun _ => HD1.out hD (by omega)⟩
      | cons b R2 =>
        have hlen : (R.drop 0).length = R2.length + 1 := by rw [hD]; rfl
        rw [List.length_drop] at hlen
        rw [hD] at hd
        have hRe := HD0.out b R2 hD
        obtain ⟨B2, hB2⟩ : ∃ B2, Hid (B2 = wr.heap.size) := ⟨_, Lib.hid rfl⟩
        have hBl : B < wr.heap.size := World.block_lt_of_cell? wr _ hs.c0
        have hpl2 : p < wr.heap.size := hd.lt
        have hsn : SpanAt (wr.alloc (.cells #[.int .i64 (-63), .int .i64 64, .int .i64 7] 100)) B2 1 := by
          rw [hB2.out]; exact ⟨by simp [spLo], by simp [spHi], by simp [spB], by simp, by simp, by simp⟩
        go_upto_region 6 with (go_at_call 40; refine (dget_some _ p 1 (b :: R2) (hd.keep (Chg.alloc (fun _ => False) _ _) (fun x => x)) (by omega) (by simp)).mono ?_; rintro y w3 ⟨rfl, h3, hc3⟩)
        have hs3 : SpanAt w3 B 0 := (hs.keep (Chg.alloc (fun _ => False) _ _) (fun x => x)).keep hc3 (fun e => hBp e.symm)
        have hsn3 : SpanAt w3 B2 1 := hsn.keep hc3 (by show ¬ B2 = p; rw [hB2.out]; omega)
        have hch3 : Chg (fun k => k = p) w w3 := hch.trans ((Chg.alloc (fun k => k = p) _ _).trans hc3 (fun _ _ x => x)) (fun _ _ x => x)
        have h3' : DR w3 p R2 := h3
        have hB2B : B ≠ B2 := by rw [hB2.out]; omega
        rw [← hB2.out]
        clear hc3 hsn hs hd h3 hch
        cases b with
        | false =>
          obtain ⟨q0, q1, q2, _, _, _⟩ := hs3
          simp only [spLo, spHi, spB] at q0 q1 q2
          have hfr : decX R = decX (frontB 0 ++ R2) := by rw [hRe, ← frontB_of 0 (by omega), List.append_assoc]; rfl
          have W3 := within_left w3 p R2 0 (by omega) h3'
          rw [← hfr] at W3
          unfold spanV at W3
          go_wp2_with (go_at_call 62; refine W3.mono ?_; rintro y w4 ⟨x, ok, R', rfl, g1, g2, g3, g4, g5⟩)
          go_ret2
          refine ⟨x, ok, R', rfl, g1, by omega, hch3.trans g3 (fun _ _ x => x), fun ho => ?_, g5⟩
          obtain ⟨e1, e2⟩ := g4 ho
          refine ⟨_, e1, ?_⟩
          rw [e2, hRe]
          rfl
        | true =>
          obtain ⟨q0, q1, q2, _, _, _⟩ := hsn3
          have st := hs3.stored 1 (x := -63) (y := 64) (z := 7) rfl rfl rfl
          obtain ⟨r0, r1, r2, z0, z1, z2⟩ := hs3
          simp only [spLo, spHi, spB] at q0 q1 q2
          go_wp2
          go_roundw
          case rel =>
            refine ⟨1, by omega, rfl, st.1, ?_, Lib.hid ?_, ?_⟩
            · have e : R.drop 1 = R2 := by rw [hRe]; rfl
              rw [e]
              exact h3'.keep st.2 hBp
            · rw [hRe]; rfl
            · refine hch3.trans st.2 (fun b hb e => ?_)
              have := hB.out; omega
          case measure => simp [intOf]
    · cases hD : R.drop 1 with
      | nil =>
        rw [hD] at hd
        go_upto_region 6 with (go_at_call 40; refine (dget_none _ p 1 [] (hd.keep (Chg.alloc (fun _ => False) _ _) (fun x => x)) (by simp)).mono ?_; rintro y w3 ⟨rfl, h3, hc3⟩)
        go_wp2
        go_ret2
        exact ⟨0, false, [], rfl, h3, by simp, hch.trans ((Chg.alloc (fun k => k = p) _ _).trans hc3 (fun _ _ x => x)) (fun _ _ x => x), by simp, fun _ => HD1.out hD (by omega)⟩
      | cons b R2 =>
        have hlen : (R.drop 1).length = R2.length + 1 := by rw [hD]; rfl
        rw [List.length_drop] at hlen
        rw [hD] at hd
        have hRe := HD0.out b R2 hD
        obtain ⟨B2, hB2⟩ : ∃ B2, Hid (B2 = wr.heap.size) := ⟨_, Lib.hid rfl⟩
        have hBl : B < wr.heap.size := World.block_lt_of_cell? wr _ hs.c0
        have hpl2 : p < wr.heap.size := hd.lt
        have hsn : SpanAt (wr.alloc (.cells #[.int .i64 (-255), .int .i64 256, .int .i64 9] 100)) B2 2 := by
          rw [hB2.out]; exact ⟨by simp [spLo], by simp [spHi], by simp [spB], by simp, by simp, by simp⟩
        go_upto_region 6 with (go_at_call 40; refine (dget_some _ p 1 (b :: R2) (hd.keep (Chg.alloc (fun _ => False) _ _) (fun x => x)) (by omega) (by simp)).mono ?_; rintro y w3 ⟨rfl, h3, hc3⟩)
        have hs3 : SpanAt w3 B 1 := (hs.keep (Chg.alloc (fun _ => False) _ _) (fun x => x)).keep hc3 (fun e => hBp e.symm)
        have hsn3 : SpanAt w3 B2 2 := hsn.keep hc3 (by show ¬ B2 = p; rw [hB2.out]; omega)
        have hch3 : Chg (fun k => k = p) w w3 := hch.trans ((Chg.alloc (fun k => k = p) _ _).trans hc3 (fun _ _ x => x)) (fun _ _ x => x)
        have h3' : DR w3 p R2 := h3
        have hB2B : B ≠ B2 := by rw [hB2.out]; omega
        rw [← hB2.out]
        clear hc3 hsn hs hd h3 hch
        cases b with
        | false =>
          obtain ⟨q0, q1, q2, _, _, _⟩ := hs3
          simp only [spLo, spHi, spB] at q0 q1 q2
          have hfr : decX R = decX (frontB 1 ++ R2) := by rw [hRe, ← frontB_of 1 (by omega), List.append_assoc]; rfl
          have W3 := within_left w3 p R2 1 (by omega) h3'
          rw [← hfr] at W3
          unfold spanV at W3
          go_wp2_with (go_at_call 62; refine W3.mono ?_; rintro y w4 ⟨x, ok, R', rfl, g1, g2, g3, g4, g5⟩)
          go_ret2
          refine ⟨x, ok, R', rfl, g1, by omega, hch3.trans g3 (fun _ _ x => x), fun ho => ?_, g5⟩
          obtain ⟨e1, e2⟩ := g4 ho
          refine ⟨_, e1, ?_⟩
          rw [e2, hRe]
          rfl
        | true =>
          obtain ⟨q0, q1, q2, _, _, _⟩ := hsn3
          have st := hs3.stored 2 (x := -255) (y := 256) (z := 9) rfl rfl rfl
          obtain ⟨r0, r1, r2, z0, z1, z2⟩ := hs3
          simp only [spLo, spHi, spB] at q0 q1 q2
          go_wp2
          go_roundw
          case rel =>
            refine ⟨2, by omega, rfl, st.1, ?_, Lib.hid ?_, ?_⟩
            · have e : R.drop 2 = R2 := by rw [hRe]; rfl
              rw [e]
              exact h3'.keep st.2 hBp
            · rw [hRe]; rfl
            · refine hch3.trans st.2 (fun b hb e => ?_)
              have := hB.out; omega
          case measure => simp [intOf]
    · cases hD : R.drop 2 with
      | nil =>
        rw [hD] at hd
        go_upto_region 6 with (go_at_call 40; refine (dget_none _ p 1 [] (hd.keep (Chg.alloc (fun _ => False) _ _) (fun x => x)) (by simp)).mono ?_; rintro y w3 ⟨rfl, h3, hc3⟩)
        go_wp2
        go_ret2
        exact ⟨0, false, [], rfl, h3, by simp, hch.trans ((Chg.alloc (fun k => k = p) _ _).trans hc3 (fun _ _ x => x)) (fun _ _ x => x), by simp, fun _ => HD1.out hD (by omega)⟩
      | cons b R2 =>
        have hlen : (R.drop 2).length = R2.length + 1 := by rw [hD]; rfl
        rw [List.length_drop] at hlen
        rw [hD] at hd
        have hRe := HD0.out b R2 hD
        obtain ⟨B2, hB2⟩ : ∃ B2, Hid (B2 = wr.heap.size) := ⟨_, Lib.hid rfl⟩
        have hBl : B < wr.heap.size := World.block_lt_of_cell? wr _ hs.c0
        have hpl2 : p < wr.heap.size := hd.lt
        have hsn : SpanAt (wr.alloc (.cells #[.int .i64 (-2047), .int .i64 2048, .int .i64 12] 100)) B2 3 := by
          rw [hB2.out]; exact ⟨by simp [spLo], by simp [spHi], by simp [spB], by simp, by simp, by simp⟩
        go_upto_region 6 with (go_at_call 40; refine (dget_some _ p 1 (b :: R2) (hd.keep (Chg.alloc (fun _ => False) _ _) (fun x => x)) (by omega) (by simp)).mono ?_; rintro y w3 ⟨rfl, h3, hc3⟩)
        have hs3 : SpanAt w3 B 2 := (hs.keep (Chg.alloc (fun _ => False) _ _) (fun x => x)).keep hc3 (fun e => hBp e.symm)
        have hsn3 : SpanAt w3 B2 3 := hsn.keep hc3 (by show ¬ B2 = p; rw [hB2.out]; omega)
        have hch3 : Chg (fun k => k = p) w w3 := hch.trans ((Chg.alloc (fun k => k = p) _ _).trans hc3 (fun _ _ x => x)) (fun _ _ x => x)
        have h3' : DR w3 p R2 := h3
        have hB2B : B ≠ B2 := by rw [hB2.out]; omega
        rw [← hB2.out]
        clear hc3 hsn hs hd h3 hch
        cases b with
        | false =>
          obtain ⟨q0, q1, q2, _, _, _⟩ := hs3
          simp only [spLo, spHi, spB] at q0 q1 q2
          have hfr : decX R = decX (frontB 2 ++ R2) := by rw [hRe, ← frontB_of 2 (by omega), List.append_assoc]; rfl
          have W3 := within_left w3 p R2 2 (by omega) h3'
          rw [← hfr] at W3
          unfold spanV at W3
          go_wp2_with (go_at_call 62; refine W3.mono ?_; rintro y w4 ⟨x, ok, R', rfl, g1, g2, g3, g4, g5⟩)
          go_ret2
          refine ⟨x, ok, R', rfl, g1, by omega, hch3.trans g3 (fun _ _ x => x), fun ho => ?_, g5⟩
          obtain ⟨e1, e2⟩ := g4 ho
          refine ⟨_, e1, ?_⟩
          rw [e2, hRe]
          rfl
        | true =>
          obtain ⟨q0, q1, q2, _, _, _⟩ := hsn3
          have st := hs3.stored 3 (x := -2047) (y := 2048) (z := 12) rfl rfl rfl
          obtain ⟨r0, r1, r2, z0, z1, z2⟩ := hs3
          simp only [spLo, spHi, spB] at q0 q1 q2
          go_wp2
          go_roundw
          case rel =>
            refine ⟨3, by omega, rfl, st.1, ?_, Lib.hid ?_, ?_⟩
            · have e : R.drop 3 = R2 := by rw [hRe]; rfl
              rw [e]
              exact h3'.keep st.2 hBp
            · rw [hRe]; rfl
            · refine hch3.trans st.2 (fun b hb e => ?_)
              have := hB.out; omega
          case measure => simp [intOf]
    · cases hD : R.drop 3 with
      | nil =>
        rw [hD] at hd
        go_upto_region 13 with (go_at_call 40; refine (dget_none _ p 1 [] hd (by simp)).mono ?_; rintro y w3 ⟨rfl, h3, hc3⟩)
        go_wp2
        go_ret2
        exact ⟨0, false, [], rfl, h3, by simp, hch.trans hc3 (fun _ _ x => x), by simp, fun _ => HD1.out hD (by omega)⟩
      | cons b R2 =>
        have hlen : (R.drop 3).length = R2.length + 1 := by rw [hD]; rfl
        rw [List.length_drop] at hlen
        rw [hD] at hd
        have hRe := HD0.out b R2 hD
        go_upto_region 13 with (go_at_call 40; refine (dget_some _ p 1 (b :: R2) hd (by omega) (by simp)).mono ?_; rintro y w3 ⟨rfl, h3, hc3⟩)
        have hs3 : SpanAt w3 B 3 := hs.keep hc3 (fun e => hBp e.symm)
        have hch3 : Chg (fun k => k = p) w w3 := hch.trans hc3 (fun _ _ x => x)
        have h3' : DR w3 p R2 := h3
        clear hc3 hs hd h3 hch
        obtain ⟨q0, q1, q2, _, _, _⟩ := hs3
        simp only [spLo, spHi, spB] at q0 q1 q2
        cases b with
        | false =>
          have hfr : decX R = decX (frontB 3 ++ R2) := by rw [hRe, ← frontB_of 3 (by omega), List.append_assoc]; rfl
          have W3 := within_left w3 p R2 3 (by omega) h3'
          rw [← hfr] at W3
          unfold spanV at W3
          go_wp2_with (go_at_call 62; refine W3.mono ?_; rintro y w4 ⟨x, ok, R', rfl, g1, g2, g3, g4, g5⟩)
          go_ret2
          refine ⟨x, ok, R', rfl, g1, by omega, hch3.trans g3 (fun _ _ x => x), fun ho => ?_, g5⟩
          obtain ⟨e1, e2⟩ := g4 ho
          refine ⟨_, e1, ?_⟩
          rw [e2, hRe]
          rfl
        | true =>
          have hfr : decX R = decX (frontB 4 ++ R2) := by rw [hRe]; rfl
          have HRe := Lib.hid hRe
          clear hRe
          by_cases h64 : 64 ≤ R2.length
          · have hdo := dec_ok 4 (by omega) R2 h64 _ rfl
            rw [← hfr] at hdo
            obtain ⟨V, hV⟩ : ∃ V, Hid (V = valB (R2.take 64)) := ⟨_, Lib.hid rfl⟩
            have G1 := dget_some w3 p 64 R2 h3' (by omega) h64
            obtain ⟨x, hx⟩ : ∃ x, Hid (x = wrap64 (V : Nat)) := ⟨_, Lib.hid rfl⟩
            simp only [wOf, offOf, frOf] at hdo
            rw [← hV.out] at G1 hdo
            have e0 : wrap64 (wrap64 (V : Nat) - 0) = x := by rw [hx.out]; unfold wrap64; omega
            rw [e0] at hdo
            have hgb : ∃ g : Bool, Hid (g = true ↔ okX 4 x) ∧ Hid (decX R = if g then some (x, 68) else none) := by
              by_cases ho : okX 4 x
              · exact ⟨true, Lib.hid (by simp [ho]), Lib.hid (by rw [hdo, if_pos ho]; rfl)⟩
              · exact ⟨false, Lib.hid (by simp [ho]), Lib.hid (by rw [hdo, if_neg ho]; rfl)⟩
            obtain ⟨g, hg, hdg⟩ := hgb
            clear hdo
            go_upto_region 18 with (go_at_call 40; refine G1.mono ?_; rintro y w4 ⟨rfl, h4, hc4⟩)
            have hxw : wrap64 (V : Nat) = x := by rw [hx.out]
            have q0' := hc4.cell q0 (fun e => hBp e.symm)
            have q1' := hc4.cell q1 (fun e => hBp e.symm)
            have hch4 : Chg (fun k => k = p) w w4 := hch3.trans hc4 (fun _ _ x => x)
            clear q0 q1 q2 hc4 G1
            go_upto_region 19 with (fail)
            rw [hxw]
            have hfin : ∀ m, DR (w4.drewN m) p (R2.drop 64) ∧ Chg (fun k => k = p) w (w4.drewN m) := fun m => ⟨h4.keep (Chg.drewN (fun _ => False) _ _) (fun x => x), hch4.trans (Chg.drewN (fun _ => False) _ _) (fun _ _ x => x.elim)⟩
            have Hfin := Lib.hid hfin
            clear hfin
            rcases (by omega : x < -2047 ∨ (¬ x < -2047 ∧ 2048 < x) ∨ (¬ x < -2047 ∧ ¬ 2048 < x)) with hc | ⟨hc, hc'⟩ | ⟨hc, hc'⟩
            · go_quiet (fail)
              go_wp2
              go_ret2
              refine ⟨x, true, R2.drop 64, rfl, (Hfin.out _).1, by rw [List.length_drop]; omega, (Hfin.out _).2, fun _ => ⟨68, ?_, by rw [HRe.out]; rfl⟩, by simp⟩
              have : g = true := hg.out.mpr (by simp only [okX]; omega)
              rw [hdg.out, this]; rfl
            · go_quiet (fail)
              go_wp2
              go_ret2
              refine ⟨x, true, R2.drop 64, rfl, (Hfin.out _).1, by rw [List.length_drop]; omega, (Hfin.out _).2, fun _ => ⟨68, ?_, by rw [HRe.out]; rfl⟩, by simp⟩
              have : g = true := hg.out.mpr (by simp only [okX]; omega)
              rw [hdg.out, this]; rfl
            · go_quiet (fail)
              go_wp2
              go_ret2
              refine ⟨x, false, R2.drop 64, rfl, (Hfin.out _).1, by rw [List.length_drop]; omega, (Hfin.out _).2, by simp, fun _ => ?_⟩
              have : g = false := by
                cases hgc : g with
                | false => rfl
                | true => have := hg.out.mp hgc; simp only [okX] at this; omega
              rw [hdg.out, this]; rfl
          · have hdo := dec_front 4 (by omega) R2
            rw [if_neg (by simpa [wOf] using h64), ← hfr] at hdo
            have G1 := dget_none w3 p 64 R2 h3' (by omega)
            go_upto_region 18 with (go_at_call 40; refine G1.mono ?_; rintro y w4 ⟨rfl, h4, hc4⟩)
            have hch4 : Chg (fun k => k = p) w w4 := hch3.trans hc4 (fun _ _ x => x)
            have q0' := hc4.cell q0 (fun e => hBp e.symm)
            have q1' := hc4.cell q1 (fun e => hBp e.symm)
            clear q0 q1 q2 hc4 G1
            go_upto_region 19 with (fail)
            go_quiet (fail)
            go_wp2
            go_ret2
            exact ⟨_, false, R2, rfl, h4.keep (Chg.drewN (fun _ => False) _ _) (fun x => x), by omega, hch4.trans (Chg.drewN (fun _ => False) _ _) (fun _ _ x => x.elim), by simp, fun _ => hdo⟩
end Go.Proofs.YtdegmeclcbndgaaDoor
