/- The program's reading of a message. -/
import Derived.Test.YtmaebileagfdaaaWrN
import Derived.BigRegion
import Derived.Deep.RegionLaw
namespace Go.Proofs.Ytmaebileagfdaaa
open Go.RowKit Dig Wr

/-- The cells of the message that is read, of the sum and of the count. -/
structure PaAt (w0 w : World) (p : Nat) (acc : List Nat) : Prop where
  box : RowV w p (boxOf acc)
  sum : RowV w (p + 1) [.int .i64 (acc.getD 6 0 : Nat)]
  cnt : RowV w (p + 2) [.int .i64 (acc.getD 7 0 : Nat)]
  bel : Below w0.heap.size w0 w
  le : w0.heap.size ≤ p
theorem PaAt.below {w0 w w' : World} {p : Nat} {acc : List Nat} (h : PaAt w0 w p acc) (hb : Below w.heap.size w w') : PaAt w0 w' p acc :=
  ⟨h.box.below hb, h.sum.below hb, h.cnt.below hb, below_tr h.bel hb, h.le⟩
theorem PaAt.drewN {w0 w : World} {p : Nat} {acc : List Nat} (h : PaAt w0 w p acc) (m : Nat) : PaAt w0 (w.drewN m) p acc := h.below (below_drewN (Below.refl _ _) m)
theorem PaAt.drew {w0 w : World} {p : Nat} {acc : List Nat} (h : PaAt w0 w p acc) : PaAt w0 w.drew p acc := h.below ⟨rfl, rfl, rfl, Nat.le_refl _, fun _ _ => rfl⟩
theorem PaAt.set {w0 w : World} {p : Nat} {acc : List Nat} (h : PaAt w0 w p acc) (v i q f : Nat) (hi : acc.length = i) (h8 : i < 8) (hq : q = if i < 6 then p else p + (i - 5)) (hf : f = if i < 6 then i else 0) : PaAt w0 (w.setCell ⟨q, f, none⟩ (.int .i64 (v : Nat))) p (acc ++ [v]) := by
  have hc := Chg.setCell w ⟨q, f, none⟩ (.int .i64 (v : Nat))
  have hle := h.le
  have hbel : Below w0.heap.size w0 (w.setCell ⟨q, f, none⟩ (.int .i64 (v : Nat))) := Chg.below_tr h.bel hc (fun k hk e => by
    simp only at e; subst e; rw [hq] at hk; split at hk <;> omega)
  by_cases h6 : i < 6
  · rw [if_pos h6] at hq hf
    subst hq hf
    refine ⟨?_, ?_, ?_, hbel, hle⟩
    · rw [← box_set acc v f hi h6]
      exact h.box.set f (by simp [boxOf]; omega) _
    · rw [getD_app, if_neg (by omega)]
      exact h.sum.keep hc (by simp)
    · rw [getD_app, if_neg (by omega)]
      exact h.cnt.keep hc (by simp)
  · rw [if_neg h6] at hq hf
    subst hf
    have hb := h.box.keep hc (by simp only; omega)
    rw [← box_keep acc v i hi (by omega)] at hb
    rcases (by omega : i = 6 ∨ i = 7) with e | e
    · subst e
      obtain rfl : q = p + 1 := by omega
      refine ⟨hb, ?_, ?_, hbel, hle⟩
      · have := h.sum.set 0 (by simp) (.int .i64 (v : Nat))
        rw [getD_app, if_pos hi.symm]
        exact this
      · rw [getD_app, if_neg (by omega)]
        exact h.cnt.keep hc (by simp)
    · subst e
      obtain rfl : q = p + 2 := by omega
      refine ⟨hb, ?_, ?_, hbel, hle⟩
      · rw [getD_app, if_neg (by omega)]
        exact h.sum.keep hc (by simp)
      · have := h.cnt.set 0 (by simp) (.int .i64 (v : Nat))
        rw [getD_app, if_pos hi.symm]
        exact this

theorem pix0 (p : Nat) (w : World) : (Instr.index 125 (.agg #[.pointer (some ⟨p, 0, none⟩), .pointer (some ⟨p, 1, none⟩), .pointer (some ⟨p, 2, none⟩), .pointer (some ⟨p, 3, none⟩), .pointer (some ⟨p, 4, none⟩), .pointer (some ⟨p, 5, none⟩), .pointer (some ⟨p + 1, 0, none⟩), .pointer (some ⟨p + 1 + 1, 0, none⟩)]) (.int .i64 0)).run Try.prog w = .ok (.pointer (some ⟨p, 0, none⟩)) w := by kernel_rfl
theorem pix1 (p : Nat) (w : World) : (Instr.index 125 (.agg #[.pointer (some ⟨p, 0, none⟩), .pointer (some ⟨p, 1, none⟩), .pointer (some ⟨p, 2, none⟩), .pointer (some ⟨p, 3, none⟩), .pointer (some ⟨p, 4, none⟩), .pointer (some ⟨p, 5, none⟩), .pointer (some ⟨p + 1, 0, none⟩), .pointer (some ⟨p + 1 + 1, 0, none⟩)]) (.int .i64 1)).run Try.prog w = .ok (.pointer (some ⟨p, 1, none⟩)) w := by kernel_rfl
theorem pix2 (p : Nat) (w : World) : (Instr.index 125 (.agg #[.pointer (some ⟨p, 0, none⟩), .pointer (some ⟨p, 1, none⟩), .pointer (some ⟨p, 2, none⟩), .pointer (some ⟨p, 3, none⟩), .pointer (some ⟨p, 4, none⟩), .pointer (some ⟨p, 5, none⟩), .pointer (some ⟨p + 1, 0, none⟩), .pointer (some ⟨p + 1 + 1, 0, none⟩)]) (.int .i64 2)).run Try.prog w = .ok (.pointer (some ⟨p, 2, none⟩)) w := by kernel_rfl
theorem pix3 (p : Nat) (w : World) : (Instr.index 125 (.agg #[.pointer (some ⟨p, 0, none⟩), .pointer (some ⟨p, 1, none⟩), .pointer (some ⟨p, 2, none⟩), .pointer (some ⟨p, 3, none⟩), .pointer (some ⟨p, 4, none⟩), .pointer (some ⟨p, 5, none⟩), .pointer (some ⟨p + 1, 0, none⟩), .pointer (some ⟨p + 1 + 1, 0, none⟩)]) (.int .i64 3)).run Try.prog w = .ok (.pointer (some ⟨p, 3, none⟩)) w := by kernel_rfl
theorem pix4 (p : Nat) (w : World) : (Instr.index 125 (.agg #[.pointer (some ⟨p, 0, none⟩), .pointer (some ⟨p, 1, none⟩), .pointer (some ⟨p, 2, none⟩), .pointer (some ⟨p, 3, none⟩), .pointer (some ⟨p, 4, none⟩), .pointer (some ⟨p, 5, none⟩), .pointer (some ⟨p + 1, 0, none⟩), .pointer (some ⟨p + 1 + 1, 0, none⟩)]) (.int .i64 4)).run Try.prog w = .ok (.pointer (some ⟨p, 4, none⟩)) w := by kernel_rfl
theorem pix5 (p : Nat) (w : World) : (Instr.index 125 (.agg #[.pointer (some ⟨p, 0, none⟩), .pointer (some ⟨p, 1, none⟩), .pointer (some ⟨p, 2, none⟩), .pointer (some ⟨p, 3, none⟩), .pointer (some ⟨p, 4, none⟩), .pointer (some ⟨p, 5, none⟩), .pointer (some ⟨p + 1, 0, none⟩), .pointer (some ⟨p + 1 + 1, 0, none⟩)]) (.int .i64 5)).run Try.prog w = .ok (.pointer (some ⟨p, 5, none⟩)) w := by kernel_rfl
theorem pix6 (p : Nat) (w : World) : (Instr.index 125 (.agg #[.pointer (some ⟨p, 0, none⟩), .pointer (some ⟨p, 1, none⟩), .pointer (some ⟨p, 2, none⟩), .pointer (some ⟨p, 3, none⟩), .pointer (some ⟨p, 4, none⟩), .pointer (some ⟨p, 5, none⟩), .pointer (some ⟨p + 1, 0, none⟩), .pointer (some ⟨p + 1 + 1, 0, none⟩)]) (.int .i64 6)).run Try.prog w = .ok (.pointer (some ⟨p + 1, 0, none⟩)) w := by kernel_rfl
theorem pix7 (p : Nat) (w : World) : (Instr.index 125 (.agg #[.pointer (some ⟨p, 0, none⟩), .pointer (some ⟨p, 1, none⟩), .pointer (some ⟨p, 2, none⟩), .pointer (some ⟨p, 3, none⟩), .pointer (some ⟨p, 4, none⟩), .pointer (some ⟨p, 5, none⟩), .pointer (some ⟨p + 1, 0, none⟩), .pointer (some ⟨p + 1 + 1, 0, none⟩)]) (.int .i64 7)).run Try.prog w = .ok (.pointer (some ⟨p + 1 + 1, 0, none⟩)) w := by kernel_rfl
theorem ownslice_form {w : World} {base : Nat} {e : TypeId} {size : Nat} {v : Value} {n : Nat} {xs : List Value} (h : w.ownsRow base e size v n xs) : ∃ a cap, v = .slice a n cap := by
  rcases h.2 with ⟨rfl, rfl⟩ | ⟨g, cap, cur, rfl, _⟩
  · exact ⟨none, 0, rfl⟩
  · exact ⟨_, _, rfl⟩
theorem own_form1 {w : World} {base : Nat} {e : TypeId} {size : Nat} {v : Value} {n : Nat} {xs : List Value} (h : w.ownsRow base e size v (n + 1) xs) : ∃ g cap, v = .slice (some ⟨g, 0, none⟩) (n + 1) cap := by
  rcases h.2 with ⟨_, h0⟩ | ⟨g, cap, cur, hv, _⟩
  · omega
  · exact ⟨g, cap, hv⟩
theorem strinfo : (Try.prog.info? 9).map (fun i => (i.zero, i.size, i.bytes)) = some (some (.string ⟨#[]⟩), 1, 16) := by kernel_rfl
def hd9 (acc : List Nat) (v7 v8 : Value) : List Value := [.int .i64 (acc.getD 0 0 : Nat), .int .i64 (acc.getD 1 0 : Nat), .int .i64 (acc.getD 2 0 : Nat), .int .i64 (acc.getD 3 0 : Nat), .int .i64 (acc.getD 4 0 : Nat), .int .i64 (acc.getD 5 0 : Nat), .int .u32 (acc.getD 6 0 : Nat), v7, v8]
/-- A text more in the row. -/
theorem wr_step {w w1 wa w2 : World} {B p : Nat} {L : List Value} {v1 v2 : Value} (hbel : Below B w w1) (hB : B ≤ w.heap.size) (hL : RowV w1 p L) (h0 : 0 < L.length) (hfr : ∀ g, v1.ownBlock = some g → B ≤ g ∧ g ≠ p)
    (hc : Chg (fun _ => False) w1 wa) (hs : wa.heap.size = w1.heap.size + 1) (hgr : wa.grownBy w2 v1.ownBlock) (hbk : v2.ownBlock = v1.ownBlock ∨ v2.ownBlock = some wa.heap.size) :
    RowV w2 p L ∧ (∀ g, v2.ownBlock = some g → B ≤ g ∧ g ≠ p) ∧ Below B w w2 := by
  have hlt := hL.lt h0
  have h1 := hbel.size
  have hch : Chg (fun k => some k = v1.ownBlock) w1 w2 := (hc.mono (fun _ _ x => x.elim)).trans (Chg.grown hgr) (fun _ _ x => x)
  refine ⟨hL.keep hch (fun e => (hfr p e.symm).2 rfl), fun g hg => ?_, hbel.trans (hch.below (Nat.le_trans hB h1) (fun k hk e => by have := (hfr k e.symm).1; omega))⟩
  rcases hbk with h | h
  · exact hfr g (by rw [← h]; exact hg)
  · rw [h] at hg
    have h9 := Option.some.inj hg
    omega
def bx (acc : List Nat) : Msg := ⟨acc.getD 0 0, acc.getD 1 0, acc.getD 2 0, acc.getD 3 0, acc.getD 4 0, acc.getD 5 0, 0, [], ByteArray.empty⟩
theorem RowV.set9 {w : World} {B : Nat} {xs : List Value} (h : RowV w B xs) (hl : xs.length = 9) (v0 v1 v2 v3 v4 v5 v6 v7 v8 : Value) (W : World)
    (hW : W = (((((((((w.setCell ⟨B, 0, none⟩ v0).setCell ⟨B, 1, none⟩ v1).setCell ⟨B, 2, none⟩ v2).setCell ⟨B, 3, none⟩ v3).setCell ⟨B, 4, none⟩ v4).setCell ⟨B, 5, none⟩ v5).setCell ⟨B, 6, none⟩ v6).setCell ⟨B, 7, none⟩ v7).setCell ⟨B, 8, none⟩ v8)) :
    RowV W B [v0, v1, v2, v3, v4, v5, v6, v7, v8] ∧ Chg (fun k => k = B) w W ∧ W.heap.size = w.heap.size := by
  match xs, hl with
  | [y0, y1, y2, y3, y4, y5, y6, y7, y8], _ =>
    have h1 := (((((((((h.set 0 (by simp) v0).set 1 (by simp) v1).set 2 (by simp) v2).set 3 (by simp) v3).set 4 (by simp) v4).set 5 (by simp) v5).set 6 (by simp) v6).set 7 (by simp) v7).set 8 (by simp) v8)
    rw [hW]
    exact ⟨h1, ((((((((Chg.setCell w ⟨B, 0, none⟩ v0).trans (Chg.setCell _ ⟨B, 1, none⟩ v1) (fun _ _ x => x)).trans (Chg.setCell _ ⟨B, 2, none⟩ v2) (fun _ _ x => x)).trans (Chg.setCell _ ⟨B, 3, none⟩ v3) (fun _ _ x => x)).trans (Chg.setCell _ ⟨B, 4, none⟩ v4) (fun _ _ x => x)).trans (Chg.setCell _ ⟨B, 5, none⟩ v5) (fun _ _ x => x)).trans (Chg.setCell _ ⟨B, 6, none⟩ v6) (fun _ _ x => x)).trans (Chg.setCell _ ⟨B, 7, none⟩ v7) (fun _ _ x => x)).trans (Chg.setCell _ ⟨B, 8, none⟩ v8) (fun _ _ x => x), by simp [World.setCell]⟩
theorem pa_new (w : World) (t0 t1 : TypeId) : PaAt w (((w.alloc (.cells (boxOf []).toArray t0)).alloc (.cells #[.int .i64 0] t1)).alloc (.cells #[.int .i64 0] t1)) w.heap.size [] := by
  have hb : ∀ W o, Below W.heap.size W (World.alloc W o) := fun W o => (Below.refl _ _).alloc (Nat.le_refl _) _
  have h1 := RowV.new w (boxOf []) t0
  obtain ⟨W1, hW1⟩ : ∃ W1, W1 = w.alloc (.cells (boxOf []).toArray t0) := ⟨_, rfl⟩
  have e1 : W1.heap.size = w.heap.size + 1 := by rw [hW1]; simp
  have b1 : Below w.heap.size w W1 := by rw [hW1]; exact hb _ _
  rw [← hW1] at h1 ⊢
  have h2 := RowV.new W1 [.int .i64 0] t1
  rw [e1] at h2
  obtain ⟨W2, hW2⟩ : ∃ W2, W2 = W1.alloc (.cells [.int .i64 0].toArray t1) := ⟨_, rfl⟩
  have e2 : W2.heap.size = w.heap.size + 2 := by rw [hW2]; simp [e1]
  have b2 : Below W1.heap.size W1 W2 := by rw [hW2]; exact hb _ _
  rw [← hW2] at h2
  have h3 := RowV.new W2 [.int .i64 0] t1
  rw [e2] at h3
  show PaAt w ((W1.alloc (.cells [.int .i64 0].toArray t1)).alloc _) w.heap.size []
  rw [← hW2]
  exact ⟨(h1.below b2).below (hb _ _), h2.below (hb _ _), h3, below_tr (below_tr b1 b2) (hb _ _), Nat.le_refl _⟩

set_option maxRecDepth 100000 in
set_option maxHeartbeats 4000000 in
theorem parse_any (s0 : ByteArray) (hs : s0.size ≤ 100000) (w : World) :
    Calls Try.prog 50 #[.string s0] w (PaOut w (msgP s0.data.toList)) := by
  go_enter Try.func50, Try.ntmps50
  go_upto_region 3 with (fail)
  have hpa0 : PaAt w (((w.alloc (.cells #[.int .i64 0, .int .i64 0, .int .i64 0, .int .i64 0, .int .i64 0, .int .i64 0, .int .u32 0, .slice none 0 0, .string ByteArray.empty] 80)).alloc (.cells #[.int .i64 0] 3)).alloc (.cells #[.int .i64 0] 3)) w.heap.size [] := pa_new w _ _
  obtain ⟨p, hp⟩ : ∃ p, Hid (p = w.heap.size) := ⟨_, Lib.hid rfl⟩
  rw [← hp.out] at hpa0
  rw [← hp.out]
  go_loopw [0, 24] (fun v0 v24 wr => ∃ (j : Nat) (acc : List Nat) (s : ByteArray), j ≤ 8 ∧ v24 = .int .i64 j ∧ v0 = .string s ∧ s.size ≤ 100000 ∧ Hid (acc.length = j) ∧ Hid (nums 8 s0.data.toList = more acc (nums (8 - j) s.data.toList)) ∧ Hid (∀ x ∈ acc, x ≤ 4294967295) ∧ PaAt w wr p acc) (fun _ v24 _ => 8 - (intOf v24).toNat)
  case atStart => exact ⟨0, [], s0, by omega, rfl, rfl, hs, Lib.hid rfl, Lib.hid (more_nil _).symm, Lib.hid (fun x hx => by simp at hx), hpa0⟩
  case round =>
    obtain ⟨j, acc, s, hj, rfl, rfl, hss, hal, hnu, hmx, hpa⟩ := hrel
    have ML : ∀ W v0 v1 v2 v3 v4 v5 v6 v7 v8, RowV W p [v0, v1, v2, v3, v4, v5, v6, v7, v8] → (loadVar 80 ⟨p, 0, none⟩).run Try.prog W = .ok (.agg #[v0, v1, v2, v3, v4, v5, v6, v7, v8]) W := fun W v0 v1 v2 v3 v4 v5 v6 v7 v8 h => h.load _ _ Try.underlying80 rfl (by kernel_rfl)
    by_cases hlt : j < 8
    · obtain ⟨v, k, e, h1⟩ : ∃ v k e, Hid (getNum s.data.toList = (v, k, e)) := ⟨_, _, _, Lib.hid rfl⟩
      obtain ⟨f1, f2, f3, f4⟩ := getNum_facts h1.out
      rw [← size_toList] at f2
      have hki : (k : Int) ≤ (s.size : Int) := by omega
      rcases (by omega : j = 0 ∨ j = 1 ∨ j = 2 ∨ j = 3 ∨ j = 4 ∨ j = 5 ∨ j = 6 ∨ j = 7) with rfl | rfl | rfl | rfl | rfl | rfl | rfl | rfl
      · rw [show ((0 : Nat) : Int) = 0 from rfl]
        have hix := fun W => pix0 p W
        go_upto_region 6 with (go_at_call 65; refine (getnum_eq s (by omega) h1 _).mono ?_; rintro y w1 ⟨rfl, hb1⟩)
        have hpa1 := hpa.below hb1
        have b0 := (hpa1.box 0 _ rfl).1
        have z0 := (hpa1.box 0 _ rfl).2
        have b1 := (hpa1.box 1 _ rfl).1
        have z1 := (hpa1.box 1 _ rfl).2
        have b2 := (hpa1.box 2 _ rfl).1
        have z2 := (hpa1.box 2 _ rfl).2
        have b3 := (hpa1.box 3 _ rfl).1
        have z3 := (hpa1.box 3 _ rfl).2
        have b4 := (hpa1.box 4 _ rfl).1
        have z4 := (hpa1.box 4 _ rfl).2
        have b5 := (hpa1.box 5 _ rfl).1
        have z5 := (hpa1.box 5 _ rfl).2
        have b6 := (hpa1.box 6 _ rfl).1
        have z6 := (hpa1.box 6 _ rfl).2
        have b7 := (hpa1.box 7 _ rfl).1
        have z7 := (hpa1.box 7 _ rfl).2
        have b8 := (hpa1.box 8 _ rfl).1
        have z8 := (hpa1.box 8 _ rfl).2
        by_cases hbad : e ≠ 0 ∨ 4294967295 < v
        · have hno : Hid (msgP s0.data.toList = none) := Lib.hid (by unfold msgP; rw [hnu.out, nums_bad h1.out hbad]; rfl)
          rcases hbad with he | hv
          · have hei : ¬ (e : Int) = 0 := by omega
            go_wp2
            generalize hW9 : (((((((((w1.setCell ⟨p, 0, none⟩ _).setCell ⟨p, 1, none⟩ _).setCell ⟨p, 2, none⟩ _).setCell ⟨p, 3, none⟩ _).setCell ⟨p, 4, none⟩ _).setCell ⟨p, 5, none⟩ _).setCell ⟨p, 6, none⟩ _).setCell ⟨p, 7, none⟩ _).setCell ⟨p, 8, none⟩ _) = W9
            obtain ⟨r9, c9, _⟩ := hpa1.box.set9 rfl _ _ _ _ _ _ _ _ _ W9 hW9.symm
            refine bodyPost_ret (results_cell_tmp2 rfl _ _ p _ rfl (ML W9 _ _ _ _ _ _ _ _ _ r9)) rfl ?_
            exact ⟨Chg.below_tr hpa1.bel c9 (fun k hk e => by have := hpa1.le; omega), bx acc, none, 0, 0, false, rfl, fun _ => hno.out, fun h => by cases h⟩
          · by_cases he : e = 0
            · subst he
              have hvi : (4294967295 : Int) < (v : Int) := by omega
              go_wp2
              generalize hW9 : (((((((((w1.setCell ⟨p, 0, none⟩ _).setCell ⟨p, 1, none⟩ _).setCell ⟨p, 2, none⟩ _).setCell ⟨p, 3, none⟩ _).setCell ⟨p, 4, none⟩ _).setCell ⟨p, 5, none⟩ _).setCell ⟨p, 6, none⟩ _).setCell ⟨p, 7, none⟩ _).setCell ⟨p, 8, none⟩ _) = W9
              obtain ⟨r9, c9, _⟩ := hpa1.box.set9 rfl _ _ _ _ _ _ _ _ _ W9 hW9.symm
              refine bodyPost_ret (results_cell_tmp2 rfl _ _ p _ rfl (ML W9 _ _ _ _ _ _ _ _ _ r9)) rfl ?_
              exact ⟨Chg.below_tr hpa1.bel c9 (fun k hk e => by have := hpa1.le; omega), bx acc, none, 0, 0, false, rfl, fun _ => hno.out, fun h => by cases h⟩
            · have hei : ¬ (e : Int) = 0 := by omega
              go_wp2
              generalize hW9 : (((((((((w1.setCell ⟨p, 0, none⟩ _).setCell ⟨p, 1, none⟩ _).setCell ⟨p, 2, none⟩ _).setCell ⟨p, 3, none⟩ _).setCell ⟨p, 4, none⟩ _).setCell ⟨p, 5, none⟩ _).setCell ⟨p, 6, none⟩ _).setCell ⟨p, 7, none⟩ _).setCell ⟨p, 8, none⟩ _) = W9
              obtain ⟨r9, c9, _⟩ := hpa1.box.set9 rfl _ _ _ _ _ _ _ _ _ W9 hW9.symm
              refine bodyPost_ret (results_cell_tmp2 rfl _ _ p _ rfl (ML W9 _ _ _ _ _ _ _ _ _ r9)) rfl ?_
              exact ⟨Chg.below_tr hpa1.bel c9 (fun k hk e => by have := hpa1.le; omega), bx acc, none, 0, 0, false, rfl, fun _ => hno.out, fun h => by cases h⟩
        · obtain rfl : e = 0 := by omega
          have hvi : (v : Int) ≤ 4294967295 := by omega
          have hvi2 : ¬ (4294967295 : Int) < (v : Int) := by omega
          have hx : Hid ((s.extract k s.size).data.toList = s.data.toList.drop k) := Lib.hid (by
            rw [extract_toList, List.take_of_length_le (by rw [← size_toList]; omega)])
          have hnu2 : Hid (nums 8 s0.data.toList = more (acc ++ [v]) (nums 7 (s.extract k s.size).data.toList)) := Lib.hid (by
            rw [hx.out, hnu.out, ← more_cons, ← nums_ok h1.out (by omega)])
          have hxs : (s.extract k s.size).size ≤ 100000 := by rw [ByteArray.size_extract]; omega
          have hst := hpa1.set v 0 (p) 0 hal.out (by decide) rfl rfl
          have hmx2 : Hid (∀ x ∈ acc ++ [v], x ≤ 4294967295) := Lib.hid (fun x hx => by
            rcases List.mem_append.mp hx with h | h
            · exact hmx.out x h
            · simp at h; omega)
          clear hbad f1 f2 f3 f4
          go_upto_region 8 with (fail)
          go_region
          all_goals go_wp2
          all_goals go_roundw
          case rel => exact ⟨1, acc ++ [v], s.extract k s.size, by omega, by go_num, rfl, hxs, Lib.hid (by rw [List.length_append, hal.out]; rfl), hnu2, hmx2, hst.drew⟩
          case measure => simp [intOf]
      · rw [show ((1 : Nat) : Int) = 1 from rfl]
        have hix := fun W => pix1 p W
        go_upto_region 6 with (go_at_call 65; refine (getnum_eq s (by omega) h1 _).mono ?_; rintro y w1 ⟨rfl, hb1⟩)
        have hpa1 := hpa.below hb1
        have b0 := (hpa1.box 0 _ rfl).1
        have z0 := (hpa1.box 0 _ rfl).2
        have b1 := (hpa1.box 1 _ rfl).1
        have z1 := (hpa1.box 1 _ rfl).2
        have b2 := (hpa1.box 2 _ rfl).1
        have z2 := (hpa1.box 2 _ rfl).2
        have b3 := (hpa1.box 3 _ rfl).1
        have z3 := (hpa1.box 3 _ rfl).2
        have b4 := (hpa1.box 4 _ rfl).1
        have z4 := (hpa1.box 4 _ rfl).2
        have b5 := (hpa1.box 5 _ rfl).1
        have z5 := (hpa1.box 5 _ rfl).2
        have b6 := (hpa1.box 6 _ rfl).1
        have z6 := (hpa1.box 6 _ rfl).2
        have b7 := (hpa1.box 7 _ rfl).1
        have z7 := (hpa1.box 7 _ rfl).2
        have b8 := (hpa1.box 8 _ rfl).1
        have z8 := (hpa1.box 8 _ rfl).2
        by_cases hbad : e ≠ 0 ∨ 4294967295 < v
        · have hno : Hid (msgP s0.data.toList = none) := Lib.hid (by unfold msgP; rw [hnu.out, nums_bad h1.out hbad]; rfl)
          rcases hbad with he | hv
          · have hei : ¬ (e : Int) = 0 := by omega
            go_wp2
            generalize hW9 : (((((((((w1.setCell ⟨p, 0, none⟩ _).setCell ⟨p, 1, none⟩ _).setCell ⟨p, 2, none⟩ _).setCell ⟨p, 3, none⟩ _).setCell ⟨p, 4, none⟩ _).setCell ⟨p, 5, none⟩ _).setCell ⟨p, 6, none⟩ _).setCell ⟨p, 7, none⟩ _).setCell ⟨p, 8, none⟩ _) = W9
            obtain ⟨r9, c9, _⟩ := hpa1.box.set9 rfl _ _ _ _ _ _ _ _ _ W9 hW9.symm
            refine bodyPost_ret (results_cell_tmp2 rfl _ _ p _ rfl (ML W9 _ _ _ _ _ _ _ _ _ r9)) rfl ?_
            exact ⟨Chg.below_tr hpa1.bel c9 (fun k hk e => by have := hpa1.le; omega), bx acc, none, 0, 0, false, rfl, fun _ => hno.out, fun h => by cases h⟩
          · by_cases he : e = 0
            · subst he
              have hvi : (4294967295 : Int) < (v : Int) := by omega
              go_wp2
              generalize hW9 : (((((((((w1.setCell ⟨p, 0, none⟩ _).setCell ⟨p, 1, none⟩ _).setCell ⟨p, 2, none⟩ _).setCell ⟨p, 3, none⟩ _).setCell ⟨p, 4, none⟩ _).setCell ⟨p, 5, none⟩ _).setCell ⟨p, 6, none⟩ _).setCell ⟨p, 7, none⟩ _).setCell ⟨p, 8, none⟩ _) = W9
              obtain ⟨r9, c9, _⟩ := hpa1.box.set9 rfl _ _ _ _ _ _ _ _ _ W9 hW9.symm
              refine bodyPost_ret (results_cell_tmp2 rfl _ _ p _ rfl (ML W9 _ _ _ _ _ _ _ _ _ r9)) rfl ?_
              exact ⟨Chg.below_tr hpa1.bel c9 (fun k hk e => by have := hpa1.le; omega), bx acc, none, 0, 0, false, rfl, fun _ => hno.out, fun h => by cases h⟩
            · have hei : ¬ (e : Int) = 0 := by omega
              go_wp2
              generalize hW9 : (((((((((w1.setCell ⟨p, 0, none⟩ _).setCell ⟨p, 1, none⟩ _).setCell ⟨p, 2, none⟩ _).setCell ⟨p, 3, none⟩ _).setCell ⟨p, 4, none⟩ _).setCell ⟨p, 5, none⟩ _).setCell ⟨p, 6, none⟩ _).setCell ⟨p, 7, none⟩ _).setCell ⟨p, 8, none⟩ _) = W9
              obtain ⟨r9, c9, _⟩ := hpa1.box.set9 rfl _ _ _ _ _ _ _ _ _ W9 hW9.symm
              refine bodyPost_ret (results_cell_tmp2 rfl _ _ p _ rfl (ML W9 _ _ _ _ _ _ _ _ _ r9)) rfl ?_
              exact ⟨Chg.below_tr hpa1.bel c9 (fun k hk e => by have := hpa1.le; omega), bx acc, none, 0, 0, false, rfl, fun _ => hno.out, fun h => by cases h⟩
        · obtain rfl : e = 0 := by omega
          have hvi : (v : Int) ≤ 4294967295 := by omega
          have hvi2 : ¬ (4294967295 : Int) < (v : Int) := by omega
          have hx : Hid ((s.extract k s.size).data.toList = s.data.toList.drop k) := Lib.hid (by
            rw [extract_toList, List.take_of_length_le (by rw [← size_toList]; omega)])
          have hnu2 : Hid (nums 8 s0.data.toList = more (acc ++ [v]) (nums 6 (s.extract k s.size).data.toList)) := Lib.hid (by
            rw [hx.out, hnu.out, ← more_cons, ← nums_ok h1.out (by omega)])
          have hxs : (s.extract k s.size).size ≤ 100000 := by rw [ByteArray.size_extract]; omega
          have hst := hpa1.set v 1 (p) 1 hal.out (by decide) rfl rfl
          have hmx2 : Hid (∀ x ∈ acc ++ [v], x ≤ 4294967295) := Lib.hid (fun x hx => by
            rcases List.mem_append.mp hx with h | h
            · exact hmx.out x h
            · simp at h; omega)
          clear hbad f1 f2 f3 f4
          go_upto_region 8 with (fail)
          go_region
          all_goals go_wp2
          all_goals go_roundw
          case rel => exact ⟨2, acc ++ [v], s.extract k s.size, by omega, by go_num, rfl, hxs, Lib.hid (by rw [List.length_append, hal.out]; rfl), hnu2, hmx2, hst.drew⟩
          case measure => simp [intOf]
      · rw [show ((2 : Nat) : Int) = 2 from rfl]
        have hix := fun W => pix2 p W
        go_upto_region 6 with (go_at_call 65; refine (getnum_eq s (by omega) h1 _).mono ?_; rintro y w1 ⟨rfl, hb1⟩)
        have hpa1 := hpa.below hb1
        have b0 := (hpa1.box 0 _ rfl).1
        have z0 := (hpa1.box 0 _ rfl).2
        have b1 := (hpa1.box 1 _ rfl).1
        have z1 := (hpa1.box 1 _ rfl).2
        have b2 := (hpa1.box 2 _ rfl).1
        have z2 := (hpa1.box 2 _ rfl).2
        have b3 := (hpa1.box 3 _ rfl).1
        have z3 := (hpa1.box 3 _ rfl).2
        have b4 := (hpa1.box 4 _ rfl).1
        have z4 := (hpa1.box 4 _ rfl).2
        have b5 := (hpa1.box 5 _ rfl).1
        have z5 := (hpa1.box 5 _ rfl).2
        have b6 := (hpa1.box 6 _ rfl).1
        have z6 := (hpa1.box 6 _ rfl).2
        have b7 := (hpa1.box 7 _ rfl).1
        have z7 := (hpa1.box 7 _ rfl).2
        have b8 := (hpa1.box 8 _ rfl).1
        have z8 := (hpa1.box 8 _ rfl).2
        by_cases hbad : e ≠ 0 ∨ 4294967295 < v
        · have hno : Hid (msgP s0.data.toList = none) := Lib.hid (by unfold msgP; rw [hnu.out, nums_bad h1.out hbad]; rfl)
          rcases hbad with he | hv
          · have hei : ¬ (e : Int) = 0 := by omega
            go_wp2
            generalize hW9 : (((((((((w1.setCell ⟨p, 0, none⟩ _).setCell ⟨p, 1, none⟩ _).setCell ⟨p, 2, none⟩ _).setCell ⟨p, 3, none⟩ _).setCell ⟨p, 4, none⟩ _).setCell ⟨p, 5, none⟩ _).setCell ⟨p, 6, none⟩ _).setCell ⟨p, 7, none⟩ _).setCell ⟨p, 8, none⟩ _) = W9
            obtain ⟨r9, c9, _⟩ := hpa1.box.set9 rfl _ _ _ _ _ _ _ _ _ W9 hW9.symm
            refine bodyPost_ret (results_cell_tmp2 rfl _ _ p _ rfl (ML W9 _ _ _ _ _ _ _ _ _ r9)) rfl ?_
            exact ⟨Chg.below_tr hpa1.bel c9 (fun k hk e => by have := hpa1.le; omega), bx acc, none, 0, 0, false, rfl, fun _ => hno.out, fun h => by cases h⟩
          · by_cases he : e = 0
            · subst he
              have hvi : (4294967295 : Int) < (v : Int) := by omega
              go_wp2
              generalize hW9 : (((((((((w1.setCell ⟨p, 0, none⟩ _).setCell ⟨p, 1, none⟩ _).setCell ⟨p, 2, none⟩ _).setCell ⟨p, 3, none⟩ _).setCell ⟨p, 4, none⟩ _).setCell ⟨p, 5, none⟩ _).setCell ⟨p, 6, none⟩ _).setCell ⟨p, 7, none⟩ _).setCell ⟨p, 8, none⟩ _) = W9
              obtain ⟨r9, c9, _⟩ := hpa1.box.set9 rfl _ _ _ _ _ _ _ _ _ W9 hW9.symm
              refine bodyPost_ret (results_cell_tmp2 rfl _ _ p _ rfl (ML W9 _ _ _ _ _ _ _ _ _ r9)) rfl ?_
              exact ⟨Chg.below_tr hpa1.bel c9 (fun k hk e => by have := hpa1.le; omega), bx acc, none, 0, 0, false, rfl, fun _ => hno.out, fun h => by cases h⟩
            · have hei : ¬ (e : Int) = 0 := by omega
              go_wp2
              generalize hW9 : (((((((((w1.setCell ⟨p, 0, none⟩ _).setCell ⟨p, 1, none⟩ _).setCell ⟨p, 2, none⟩ _).setCell ⟨p, 3, none⟩ _).setCell ⟨p, 4, none⟩ _).setCell ⟨p, 5, none⟩ _).setCell ⟨p, 6, none⟩ _).setCell ⟨p, 7, none⟩ _).setCell ⟨p, 8, none⟩ _) = W9
              obtain ⟨r9, c9, _⟩ := hpa1.box.set9 rfl _ _ _ _ _ _ _ _ _ W9 hW9.symm
              refine bodyPost_ret (results_cell_tmp2 rfl _ _ p _ rfl (ML W9 _ _ _ _ _ _ _ _ _ r9)) rfl ?_
              exact ⟨Chg.below_tr hpa1.bel c9 (fun k hk e => by have := hpa1.le; omega), bx acc, none, 0, 0, false, rfl, fun _ => hno.out, fun h => by cases h⟩
        · obtain rfl : e = 0 := by omega
          have hvi : (v : Int) ≤ 4294967295 := by omega
          have hvi2 : ¬ (4294967295 : Int) < (v : Int) := by omega
          have hx : Hid ((s.extract k s.size).data.toList = s.data.toList.drop k) := Lib.hid (by
            rw [extract_toList, List.take_of_length_le (by rw [← size_toList]; omega)])
          have hnu2 : Hid (nums 8 s0.data.toList = more (acc ++ [v]) (nums 5 (s.extract k s.size).data.toList)) := Lib.hid (by
            rw [hx.out, hnu.out, ← more_cons, ← nums_ok h1.out (by omega)])
          have hxs : (s.extract k s.size).size ≤ 100000 := by rw [ByteArray.size_extract]; omega
          have hst := hpa1.set v 2 (p) 2 hal.out (by decide) rfl rfl
          have hmx2 : Hid (∀ x ∈ acc ++ [v], x ≤ 4294967295) := Lib.hid (fun x hx => by
            rcases List.mem_append.mp hx with h | h
            · exact hmx.out x h
            · simp at h; omega)
          clear hbad f1 f2 f3 f4
          go_upto_region 8 with (fail)
          go_region
          all_goals go_wp2
          all_goals go_roundw
          case rel => exact ⟨3, acc ++ [v], s.extract k s.size, by omega, by go_num, rfl, hxs, Lib.hid (by rw [List.length_append, hal.out]; rfl), hnu2, hmx2, hst.drew⟩
          case measure => simp [intOf]
      · rw [show ((3 : Nat) : Int) = 3 from rfl]
        have hix := fun W => pix3 p W
        go_upto_region 6 with (go_at_call 65; refine (getnum_eq s (by omega) h1 _).mono ?_; rintro y w1 ⟨rfl, hb1⟩)
        have hpa1 := hpa.below hb1
        have b0 := (hpa1.box 0 _ rfl).1
        have z0 := (hpa1.box 0 _ rfl).2
        have b1 := (hpa1.box 1 _ rfl).1
        have z1 := (hpa1.box 1 _ rfl).2
        have b2 := (hpa1.box 2 _ rfl).1
        have z2 := (hpa1.box 2 _ rfl).2
        have b3 := (hpa1.box 3 _ rfl).1
        have z3 := (hpa1.box 3 _ rfl).2
        have b4 := (hpa1.box 4 _ rfl).1
        have z4 := (hpa1.box 4 _ rfl).2
        have b5 := (hpa1.box 5 _ rfl).1
        have z5 := (hpa1.box 5 _ rfl).2
        have b6 := (hpa1.box 6 _ rfl).1
        have z6 := (hpa1.box 6 _ rfl).2
        have b7 := (hpa1.box 7 _ rfl).1
        have z7 := (hpa1.box 7 _ rfl).2
        have b8 := (hpa1.box 8 _ rfl).1
        have z8 := (hpa1.box 8 _ rfl).2
        by_cases hbad : e ≠ 0 ∨ 4294967295 < v
        · have hno : Hid (msgP s0.data.toList = none) := Lib.hid (by unfold msgP; rw [hnu.out, nums_bad h1.out hbad]; rfl)
          rcases hbad with he | hv
          · have hei : ¬ (e : Int) = 0 := by omega
            go_wp2
            generalize hW9 : (((((((((w1.setCell ⟨p, 0, none⟩ _).setCell ⟨p, 1, none⟩ _).setCell ⟨p, 2, none⟩ _).setCell ⟨p, 3, none⟩ _).setCell ⟨p, 4, none⟩ _).setCell ⟨p, 5, none⟩ _).setCell ⟨p, 6, none⟩ _).setCell ⟨p, 7, none⟩ _).setCell ⟨p, 8, none⟩ _) = W9
            obtain ⟨r9, c9, _⟩ := hpa1.box.set9 rfl _ _ _ _ _ _ _ _ _ W9 hW9.symm
            refine bodyPost_ret (results_cell_tmp2 rfl _ _ p _ rfl (ML W9 _ _ _ _ _ _ _ _ _ r9)) rfl ?_
            exact ⟨Chg.below_tr hpa1.bel c9 (fun k hk e => by have := hpa1.le; omega), bx acc, none, 0, 0, false, rfl, fun _ => hno.out, fun h => by cases h⟩
          · by_cases he : e = 0
            · subst he
              have hvi : (4294967295 : Int) < (v : Int) := by omega
              go_wp2
              generalize hW9 : (((((((((w1.setCell ⟨p, 0, none⟩ _).setCell ⟨p, 1, none⟩ _).setCell ⟨p, 2, none⟩ _).setCell ⟨p, 3, none⟩ _).setCell ⟨p, 4, none⟩ _).setCell ⟨p, 5, none⟩ _).setCell ⟨p, 6, none⟩ _).setCell ⟨p, 7, none⟩ _).setCell ⟨p, 8, none⟩ _) = W9
              obtain ⟨r9, c9, _⟩ := hpa1.box.set9 rfl _ _ _ _ _ _ _ _ _ W9 hW9.symm
              refine bodyPost_ret (results_cell_tmp2 rfl _ _ p _ rfl (ML W9 _ _ _ _ _ _ _ _ _ r9)) rfl ?_
              exact ⟨Chg.below_tr hpa1.bel c9 (fun k hk e => by have := hpa1.le; omega), bx acc, none, 0, 0, false, rfl, fun _ => hno.out, fun h => by cases h⟩
            · have hei : ¬ (e : Int) = 0 := by omega
              go_wp2
              generalize hW9 : (((((((((w1.setCell ⟨p, 0, none⟩ _).setCell ⟨p, 1, none⟩ _).setCell ⟨p, 2, none⟩ _).setCell ⟨p, 3, none⟩ _).setCell ⟨p, 4, none⟩ _).setCell ⟨p, 5, none⟩ _).setCell ⟨p, 6, none⟩ _).setCell ⟨p, 7, none⟩ _).setCell ⟨p, 8, none⟩ _) = W9
              obtain ⟨r9, c9, _⟩ := hpa1.box.set9 rfl _ _ _ _ _ _ _ _ _ W9 hW9.symm
              refine bodyPost_ret (results_cell_tmp2 rfl _ _ p _ rfl (ML W9 _ _ _ _ _ _ _ _ _ r9)) rfl ?_
              exact ⟨Chg.below_tr hpa1.bel c9 (fun k hk e => by have := hpa1.le; omega), bx acc, none, 0, 0, false, rfl, fun _ => hno.out, fun h => by cases h⟩
        · obtain rfl : e = 0 := by omega
          have hvi : (v : Int) ≤ 4294967295 := by omega
          have hvi2 : ¬ (4294967295 : Int) < (v : Int) := by omega
          have hx : Hid ((s.extract k s.size).data.toList = s.data.toList.drop k) := Lib.hid (by
            rw [extract_toList, List.take_of_length_le (by rw [← size_toList]; omega)])
          have hnu2 : Hid (nums 8 s0.data.toList = more (acc ++ [v]) (nums 4 (s.extract k s.size).data.toList)) := Lib.hid (by
            rw [hx.out, hnu.out, ← more_cons, ← nums_ok h1.out (by omega)])
          have hxs : (s.extract k s.size).size ≤ 100000 := by rw [ByteArray.size_extract]; omega
          have hst := hpa1.set v 3 (p) 3 hal.out (by decide) rfl rfl
          have hmx2 : Hid (∀ x ∈ acc ++ [v], x ≤ 4294967295) := Lib.hid (fun x hx => by
            rcases List.mem_append.mp hx with h | h
            · exact hmx.out x h
            · simp at h; omega)
          clear hbad f1 f2 f3 f4
          go_upto_region 8 with (fail)
          go_region
          all_goals go_wp2
          all_goals go_roundw
          case rel => exact ⟨4, acc ++ [v], s.extract k s.size, by omega, by go_num, rfl, hxs, Lib.hid (by rw [List.length_append, hal.out]; rfl), hnu2, hmx2, hst.drew⟩
          case measure => simp [intOf]
      · rw [show ((4 : Nat) : Int) = 4 from rfl]
        have hix := fun W => pix4 p W
        go_upto_region 6 with (go_at_call 65; refine (getnum_eq s (by omega) h1 _).mono ?_; rintro y w1 ⟨rfl, hb1⟩)
        have hpa1 := hpa.below hb1
        have b0 := (hpa1.box 0 _ rfl).1
        have z0 := (hpa1.box 0 _ rfl).2
        have b1 := (hpa1.box 1 _ rfl).1
        have z1 := (hpa1.box 1 _ rfl).2
        have b2 := (hpa1.box 2 _ rfl).1
        have z2 := (hpa1.box 2 _ rfl).2
        have b3 := (hpa1.box 3 _ rfl).1
        have z3 := (hpa1.box 3 _ rfl).2
        have b4 := (hpa1.box 4 _ rfl).1
        have z4 := (hpa1.box 4 _ rfl).2
        have b5 := (hpa1.box 5 _ rfl).1
        have z5 := (hpa1.box 5 _ rfl).2
        have b6 := (hpa1.box 6 _ rfl).1
        have z6 := (hpa1.box 6 _ rfl).2
        have b7 := (hpa1.box 7 _ rfl).1
        have z7 := (hpa1.box 7 _ rfl).2
        have b8 := (hpa1.box 8 _ rfl).1
        have z8 := (hpa1.box 8 _ rfl).2
        by_cases hbad : e ≠ 0 ∨ 4294967295 < v
        · have hno : Hid (msgP s0.data.toList = none) := Lib.hid (by unfold msgP; rw [hnu.out, nums_bad h1.out hbad]; rfl)
          rcases hbad with he | hv
          · have hei : ¬ (e : Int) = 0 := by omega
            go_wp2
            generalize hW9 : (((((((((w1.setCell ⟨p, 0, none⟩ _).setCell ⟨p, 1, none⟩ _).setCell ⟨p, 2, none⟩ _).setCell ⟨p, 3, none⟩ _).setCell ⟨p, 4, none⟩ _).setCell ⟨p, 5, none⟩ _).setCell ⟨p, 6, none⟩ _).setCell ⟨p, 7, none⟩ _).setCell ⟨p, 8, none⟩ _) = W9
            obtain ⟨r9, c9, _⟩ := hpa1.box.set9 rfl _ _ _ _ _ _ _ _ _ W9 hW9.symm
            refine bodyPost_ret (results_cell_tmp2 rfl _ _ p _ rfl (ML W9 _ _ _ _ _ _ _ _ _ r9)) rfl ?_
            exact ⟨Chg.below_tr hpa1.bel c9 (fun k hk e => by have := hpa1.le; omega), bx acc, none, 0, 0, false, rfl, fun _ => hno.out, fun h => by cases h⟩
          · by_cases he : e = 0
            · subst he
              have hvi : (4294967295 : Int) < (v : Int) := by omega
              go_wp2
              generalize hW9 : (((((((((w1.setCell ⟨p, 0, none⟩ _).setCell ⟨p, 1, none⟩ _).setCell ⟨p, 2, none⟩ _).setCell ⟨p, 3, none⟩ _).setCell ⟨p, 4, none⟩ _).setCell ⟨p, 5, none⟩ _).setCell ⟨p, 6, none⟩ _).setCell ⟨p, 7, none⟩ _).setCell ⟨p, 8, none⟩ _) = W9
              obtain ⟨r9, c9, _⟩ := hpa1.box.set9 rfl _ _ _ _ _ _ _ _ _ W9 hW9.symm
              refine bodyPost_ret (results_cell_tmp2 rfl _ _ p _ rfl (ML W9 _ _ _ _ _ _ _ _ _ r9)) rfl ?_
              exact ⟨Chg.below_tr hpa1.bel c9 (fun k hk e => by have := hpa1.le; omega), bx acc, none, 0, 0, false, rfl, fun _ => hno.out, fun h => by cases h⟩
            · have hei : ¬ (e : Int) = 0 := by omega
              go_wp2
              generalize hW9 : (((((((((w1.setCell ⟨p, 0, none⟩ _).setCell ⟨p, 1, none⟩ _).setCell ⟨p, 2, none⟩ _).setCell ⟨p, 3, none⟩ _).setCell ⟨p, 4, none⟩ _).setCell ⟨p, 5, none⟩ _).setCell ⟨p, 6, none⟩ _).setCell ⟨p, 7, none⟩ _).setCell ⟨p, 8, none⟩ _) = W9
              obtain ⟨r9, c9, _⟩ := hpa1.box.set9 rfl _ _ _ _ _ _ _ _ _ W9 hW9.symm
              refine bodyPost_ret (results_cell_tmp2 rfl _ _ p _ rfl (ML W9 _ _ _ _ _ _ _ _ _ r9)) rfl ?_
              exact ⟨Chg.below_tr hpa1.bel c9 (fun k hk e => by have := hpa1.le; omega), bx acc, none, 0, 0, false, rfl, fun _ => hno.out, fun h => by cases h⟩
        · obtain rfl : e = 0 := by omega
          have hvi : (v : Int) ≤ 4294967295 := by omega
          have hvi2 : ¬ (4294967295 : Int) < (v : Int) := by omega
          have hx : Hid ((s.extract k s.size).data.toList = s.data.toList.drop k) := Lib.hid (by
            rw [extract_toList, List.take_of_length_le (by rw [← size_toList]; omega)])
          have hnu2 : Hid (nums 8 s0.data.toList = more (acc ++ [v]) (nums 3 (s.extract k s.size).data.toList)) := Lib.hid (by
            rw [hx.out, hnu.out, ← more_cons, ← nums_ok h1.out (by omega)])
          have hxs : (s.extract k s.size).size ≤ 100000 := by rw [ByteArray.size_extract]; omega
          have hst := hpa1.set v 4 (p) 4 hal.out (by decide) rfl rfl
          have hmx2 : Hid (∀ x ∈ acc ++ [v], x ≤ 4294967295) := Lib.hid (fun x hx => by
            rcases List.mem_append.mp hx with h | h
            · exact hmx.out x h
            · simp at h; omega)
          clear hbad f1 f2 f3 f4
          go_upto_region 8 with (fail)
          go_region
          all_goals go_wp2
          all_goals go_roundw
          case rel => exact ⟨5, acc ++ [v], s.extract k s.size, by omega, by go_num, rfl, hxs, Lib.hid (by rw [List.length_append, hal.out]; rfl), hnu2, hmx2, hst.drew⟩
          case measure => simp [intOf]
      · rw [show ((5 : Nat) : Int) = 5 from rfl]
        have hix := fun W => pix5 p W
        go_upto_region 6 with (go_at_call 65; refine (getnum_eq s (by omega) h1 _).mono ?_; rintro y w1 ⟨rfl, hb1⟩)
        have hpa1 := hpa.below hb1
        have b0 := (hpa1.box 0 _ rfl).1
        have z0 := (hpa1.box 0 _ rfl).2
        have b1 := (hpa1.box 1 _ rfl).1
        have z1 := (hpa1.box 1 _ rfl).2
        have b2 := (hpa1.box 2 _ rfl).1
        have z2 := (hpa1.box 2 _ rfl).2
        have b3 := (hpa1.box 3 _ rfl).1
        have z3 := (hpa1.box 3 _ rfl).2
        have b4 := (hpa1.box 4 _ rfl).1
        have z4 := (hpa1.box 4 _ rfl).2
        have b5 := (hpa1.box 5 _ rfl).1
        have z5 := (hpa1.box 5 _ rfl).2
        have b6 := (hpa1.box 6 _ rfl).1
        have z6 := (hpa1.box 6 _ rfl).2
        have b7 := (hpa1.box 7 _ rfl).1
        have z7 := (hpa1.box 7 _ rfl).2
        have b8 := (hpa1.box 8 _ rfl).1
        have z8 := (hpa1.box 8 _ rfl).2
        by_cases hbad : e ≠ 0 ∨ 4294967295 < v
        · have hno : Hid (msgP s0.data.toList = none) := Lib.hid (by unfold msgP; rw [hnu.out, nums_bad h1.out hbad]; rfl)
          rcases hbad with he | hv
          · have hei : ¬ (e : Int) = 0 := by omega
            go_wp2
            generalize hW9 : (((((((((w1.setCell ⟨p, 0, none⟩ _).setCell ⟨p, 1, none⟩ _).setCell ⟨p, 2, none⟩ _).setCell ⟨p, 3, none⟩ _).setCell ⟨p, 4, none⟩ _).setCell ⟨p, 5, none⟩ _).setCell ⟨p, 6, none⟩ _).setCell ⟨p, 7, none⟩ _).setCell ⟨p, 8, none⟩ _) = W9
            obtain ⟨r9, c9, _⟩ := hpa1.box.set9 rfl _ _ _ _ _ _ _ _ _ W9 hW9.symm
            refine bodyPost_ret (results_cell_tmp2 rfl _ _ p _ rfl (ML W9 _ _ _ _ _ _ _ _ _ r9)) rfl ?_
            exact ⟨Chg.below_tr hpa1.bel c9 (fun k hk e => by have := hpa1.le; omega), bx acc, none, 0, 0, false, rfl, fun _ => hno.out, fun h => by cases h⟩
          · by_cases he : e = 0
            · subst he
              have hvi : (4294967295 : Int) < (v : Int) := by omega
              go_wp2
              generalize hW9 : (((((((((w1.setCell ⟨p, 0, none⟩ _).setCell ⟨p, 1, none⟩ _).setCell ⟨p, 2, none⟩ _).setCell ⟨p, 3, none⟩ _).setCell ⟨p, 4, none⟩ _).setCell ⟨p, 5, none⟩ _).setCell ⟨p, 6, none⟩ _).setCell ⟨p, 7, none⟩ _).setCell ⟨p, 8, none⟩ _) = W9
              obtain ⟨r9, c9, _⟩ := hpa1.box.set9 rfl _ _ _ _ _ _ _ _ _ W9 hW9.symm
              refine bodyPost_ret (results_cell_tmp2 rfl _ _ p _ rfl (ML W9 _ _ _ _ _ _ _ _ _ r9)) rfl ?_
              exact ⟨Chg.below_tr hpa1.bel c9 (fun k hk e => by have := hpa1.le; omega), bx acc, none, 0, 0, false, rfl, fun _ => hno.out, fun h => by cases h⟩
            · have hei : ¬ (e : Int) = 0 := by omega
              go_wp2
              generalize hW9 : (((((((((w1.setCell ⟨p, 0, none⟩ _).setCell ⟨p, 1, none⟩ _).setCell ⟨p, 2, none⟩ _).setCell ⟨p, 3, none⟩ _).setCell ⟨p, 4, none⟩ _).setCell ⟨p, 5, none⟩ _).setCell ⟨p, 6, none⟩ _).setCell ⟨p, 7, none⟩ _).setCell ⟨p, 8, none⟩ _) = W9
              obtain ⟨r9, c9, _⟩ := hpa1.box.set9 rfl _ _ _ _ _ _ _ _ _ W9 hW9.symm
              refine bodyPost_ret (results_cell_tmp2 rfl _ _ p _ rfl (ML W9 _ _ _ _ _ _ _ _ _ r9)) rfl ?_
              exact ⟨Chg.below_tr hpa1.bel c9 (fun k hk e => by have := hpa1.le; omega), bx acc, none, 0, 0, false, rfl, fun _ => hno.out, fun h => by cases h⟩
        · obtain rfl : e = 0 := by omega
          have hvi : (v : Int) ≤ 4294967295 := by omega
          have hvi2 : ¬ (4294967295 : Int) < (v : Int) := by omega
          have hx : Hid ((s.extract k s.size).data.toList = s.data.toList.drop k) := Lib.hid (by
            rw [extract_toList, List.take_of_length_le (by rw [← size_toList]; omega)])
          have hnu2 : Hid (nums 8 s0.data.toList = more (acc ++ [v]) (nums 2 (s.extract k s.size).data.toList)) := Lib.hid (by
            rw [hx.out, hnu.out, ← more_cons, ← nums_ok h1.out (by omega)])
          have hxs : (s.extract k s.size).size ≤ 100000 := by rw [ByteArray.size_extract]; omega
          have hst := hpa1.set v 5 (p) 5 hal.out (by decide) rfl rfl
          have hmx2 : Hid (∀ x ∈ acc ++ [v], x ≤ 4294967295) := Lib.hid (fun x hx => by
            rcases List.mem_append.mp hx with h | h
            · exact hmx.out x h
            · simp at h; omega)
          clear hbad f1 f2 f3 f4
          go_upto_region 8 with (fail)
          go_region
          all_goals go_wp2
          all_goals go_roundw
          case rel => exact ⟨6, acc ++ [v], s.extract k s.size, by omega, by go_num, rfl, hxs, Lib.hid (by rw [List.length_append, hal.out]; rfl), hnu2, hmx2, hst.drew⟩
          case measure => simp [intOf]
      · rw [show ((6 : Nat) : Int) = 6 from rfl]
        have hix := fun W => pix6 p W
        go_upto_region 6 with (go_at_call 65; refine (getnum_eq s (by omega) h1 _).mono ?_; rintro y w1 ⟨rfl, hb1⟩)
        have hpa1 := hpa.below hb1
        have b0 := (hpa1.box 0 _ rfl).1
        have z0 := (hpa1.box 0 _ rfl).2
        have b1 := (hpa1.box 1 _ rfl).1
        have z1 := (hpa1.box 1 _ rfl).2
        have b2 := (hpa1.box 2 _ rfl).1
        have z2 := (hpa1.box 2 _ rfl).2
        have b3 := (hpa1.box 3 _ rfl).1
        have z3 := (hpa1.box 3 _ rfl).2
        have b4 := (hpa1.box 4 _ rfl).1
        have z4 := (hpa1.box 4 _ rfl).2
        have b5 := (hpa1.box 5 _ rfl).1
        have z5 := (hpa1.box 5 _ rfl).2
        have b6 := (hpa1.box 6 _ rfl).1
        have z6 := (hpa1.box 6 _ rfl).2
        have b7 := (hpa1.box 7 _ rfl).1
        have z7 := (hpa1.box 7 _ rfl).2
        have b8 := (hpa1.box 8 _ rfl).1
        have z8 := (hpa1.box 8 _ rfl).2
        have bs := (hpa1.sum 0 _ rfl).1
        have zs := (hpa1.sum 0 _ rfl).2
        by_cases hbad : e ≠ 0 ∨ 4294967295 < v
        · have hno : Hid (msgP s0.data.toList = none) := Lib.hid (by unfold msgP; rw [hnu.out, nums_bad h1.out hbad]; rfl)
          rcases hbad with he | hv
          · have hei : ¬ (e : Int) = 0 := by omega
            go_wp2
            generalize hW9 : (((((((((w1.setCell ⟨p, 0, none⟩ _).setCell ⟨p, 1, none⟩ _).setCell ⟨p, 2, none⟩ _).setCell ⟨p, 3, none⟩ _).setCell ⟨p, 4, none⟩ _).setCell ⟨p, 5, none⟩ _).setCell ⟨p, 6, none⟩ _).setCell ⟨p, 7, none⟩ _).setCell ⟨p, 8, none⟩ _) = W9
            obtain ⟨r9, c9, _⟩ := hpa1.box.set9 rfl _ _ _ _ _ _ _ _ _ W9 hW9.symm
            refine bodyPost_ret (results_cell_tmp2 rfl _ _ p _ rfl (ML W9 _ _ _ _ _ _ _ _ _ r9)) rfl ?_
            exact ⟨Chg.below_tr hpa1.bel c9 (fun k hk e => by have := hpa1.le; omega), bx acc, none, 0, 0, false, rfl, fun _ => hno.out, fun h => by cases h⟩
          · by_cases he : e = 0
            · subst he
              have hvi : (4294967295 : Int) < (v : Int) := by omega
              go_wp2
              generalize hW9 : (((((((((w1.setCell ⟨p, 0, none⟩ _).setCell ⟨p, 1, none⟩ _).setCell ⟨p, 2, none⟩ _).setCell ⟨p, 3, none⟩ _).setCell ⟨p, 4, none⟩ _).setCell ⟨p, 5, none⟩ _).setCell ⟨p, 6, none⟩ _).setCell ⟨p, 7, none⟩ _).setCell ⟨p, 8, none⟩ _) = W9
              obtain ⟨r9, c9, _⟩ := hpa1.box.set9 rfl _ _ _ _ _ _ _ _ _ W9 hW9.symm
              refine bodyPost_ret (results_cell_tmp2 rfl _ _ p _ rfl (ML W9 _ _ _ _ _ _ _ _ _ r9)) rfl ?_
              exact ⟨Chg.below_tr hpa1.bel c9 (fun k hk e => by have := hpa1.le; omega), bx acc, none, 0, 0, false, rfl, fun _ => hno.out, fun h => by cases h⟩
            · have hei : ¬ (e : Int) = 0 := by omega
              go_wp2
              generalize hW9 : (((((((((w1.setCell ⟨p, 0, none⟩ _).setCell ⟨p, 1, none⟩ _).setCell ⟨p, 2, none⟩ _).setCell ⟨p, 3, none⟩ _).setCell ⟨p, 4, none⟩ _).setCell ⟨p, 5, none⟩ _).setCell ⟨p, 6, none⟩ _).setCell ⟨p, 7, none⟩ _).setCell ⟨p, 8, none⟩ _) = W9
              obtain ⟨r9, c9, _⟩ := hpa1.box.set9 rfl _ _ _ _ _ _ _ _ _ W9 hW9.symm
              refine bodyPost_ret (results_cell_tmp2 rfl _ _ p _ rfl (ML W9 _ _ _ _ _ _ _ _ _ r9)) rfl ?_
              exact ⟨Chg.below_tr hpa1.bel c9 (fun k hk e => by have := hpa1.le; omega), bx acc, none, 0, 0, false, rfl, fun _ => hno.out, fun h => by cases h⟩
        · obtain rfl : e = 0 := by omega
          have hvi : (v : Int) ≤ 4294967295 := by omega
          have hvi2 : ¬ (4294967295 : Int) < (v : Int) := by omega
          have hx : Hid ((s.extract k s.size).data.toList = s.data.toList.drop k) := Lib.hid (by
            rw [extract_toList, List.take_of_length_le (by rw [← size_toList]; omega)])
          have hnu2 : Hid (nums 8 s0.data.toList = more (acc ++ [v]) (nums 1 (s.extract k s.size).data.toList)) := Lib.hid (by
            rw [hx.out, hnu.out, ← more_cons, ← nums_ok h1.out (by omega)])
          have hxs : (s.extract k s.size).size ≤ 100000 := by rw [ByteArray.size_extract]; omega
          have hst := hpa1.set v 6 (p + 1) 0 hal.out (by decide) rfl rfl
          have hmx2 : Hid (∀ x ∈ acc ++ [v], x ≤ 4294967295) := Lib.hid (fun x hx => by
            rcases List.mem_append.mp hx with h | h
            · exact hmx.out x h
            · simp at h; omega)
          clear hbad f1 f2 f3 f4
          go_upto_region 8 with (fail)
          go_region
          all_goals go_wp2
          all_goals go_roundw
          case rel => exact ⟨7, acc ++ [v], s.extract k s.size, by omega, by go_num, rfl, hxs, Lib.hid (by rw [List.length_append, hal.out]; rfl), hnu2, hmx2, hst.drew⟩
          case measure => simp [intOf]
      · rw [show ((7 : Nat) : Int) = 7 from rfl]
        have hix := fun W => pix7 p W
        go_upto_region 6 with (go_at_call 65; refine (getnum_eq s (by omega) h1 _).mono ?_; rintro y w1 ⟨rfl, hb1⟩)
        have hpa1 := hpa.below hb1
        have b0 := (hpa1.box 0 _ rfl).1
        have z0 := (hpa1.box 0 _ rfl).2
        have b1 := (hpa1.box 1 _ rfl).1
        have z1 := (hpa1.box 1 _ rfl).2
        have b2 := (hpa1.box 2 _ rfl).1
        have z2 := (hpa1.box 2 _ rfl).2
        have b3 := (hpa1.box 3 _ rfl).1
        have z3 := (hpa1.box 3 _ rfl).2
        have b4 := (hpa1.box 4 _ rfl).1
        have z4 := (hpa1.box 4 _ rfl).2
        have b5 := (hpa1.box 5 _ rfl).1
        have z5 := (hpa1.box 5 _ rfl).2
        have b6 := (hpa1.box 6 _ rfl).1
        have z6 := (hpa1.box 6 _ rfl).2
        have b7 := (hpa1.box 7 _ rfl).1
        have z7 := (hpa1.box 7 _ rfl).2
        have b8 := (hpa1.box 8 _ rfl).1
        have z8 := (hpa1.box 8 _ rfl).2
        have bs := (hpa1.cnt 0 _ rfl).1
        have zs := (hpa1.cnt 0 _ rfl).2
        by_cases hbad : e ≠ 0 ∨ 4294967295 < v
        · have hno : Hid (msgP s0.data.toList = none) := Lib.hid (by unfold msgP; rw [hnu.out, nums_bad h1.out hbad]; rfl)
          rcases hbad with he | hv
          · have hei : ¬ (e : Int) = 0 := by omega
            go_wp2
            generalize hW9 : (((((((((w1.setCell ⟨p, 0, none⟩ _).setCell ⟨p, 1, none⟩ _).setCell ⟨p, 2, none⟩ _).setCell ⟨p, 3, none⟩ _).setCell ⟨p, 4, none⟩ _).setCell ⟨p, 5, none⟩ _).setCell ⟨p, 6, none⟩ _).setCell ⟨p, 7, none⟩ _).setCell ⟨p, 8, none⟩ _) = W9
            obtain ⟨r9, c9, _⟩ := hpa1.box.set9 rfl _ _ _ _ _ _ _ _ _ W9 hW9.symm
            refine bodyPost_ret (results_cell_tmp2 rfl _ _ p _ rfl (ML W9 _ _ _ _ _ _ _ _ _ r9)) rfl ?_
            exact ⟨Chg.below_tr hpa1.bel c9 (fun k hk e => by have := hpa1.le; omega), bx acc, none, 0, 0, false, rfl, fun _ => hno.out, fun h => by cases h⟩
          · by_cases he : e = 0
            · subst he
              have hvi : (4294967295 : Int) < (v : Int) := by omega
              go_wp2
              generalize hW9 : (((((((((w1.setCell ⟨p, 0, none⟩ _).setCell ⟨p, 1, none⟩ _).setCell ⟨p, 2, none⟩ _).setCell ⟨p, 3, none⟩ _).setCell ⟨p, 4, none⟩ _).setCell ⟨p, 5, none⟩ _).setCell ⟨p, 6, none⟩ _).setCell ⟨p, 7, none⟩ _).setCell ⟨p, 8, none⟩ _) = W9
              obtain ⟨r9, c9, _⟩ := hpa1.box.set9 rfl _ _ _ _ _ _ _ _ _ W9 hW9.symm
              refine bodyPost_ret (results_cell_tmp2 rfl _ _ p _ rfl (ML W9 _ _ _ _ _ _ _ _ _ r9)) rfl ?_
              exact ⟨Chg.below_tr hpa1.bel c9 (fun k hk e => by have := hpa1.le; omega), bx acc, none, 0, 0, false, rfl, fun _ => hno.out, fun h => by cases h⟩
            · have hei : ¬ (e : Int) = 0 := by omega
              go_wp2
              generalize hW9 : (((((((((w1.setCell ⟨p, 0, none⟩ _).setCell ⟨p, 1, none⟩ _).setCell ⟨p, 2, none⟩ _).setCell ⟨p, 3, none⟩ _).setCell ⟨p, 4, none⟩ _).setCell ⟨p, 5, none⟩ _).setCell ⟨p, 6, none⟩ _).setCell ⟨p, 7, none⟩ _).setCell ⟨p, 8, none⟩ _) = W9
              obtain ⟨r9, c9, _⟩ := hpa1.box.set9 rfl _ _ _ _ _ _ _ _ _ W9 hW9.symm
              refine bodyPost_ret (results_cell_tmp2 rfl _ _ p _ rfl (ML W9 _ _ _ _ _ _ _ _ _ r9)) rfl ?_
              exact ⟨Chg.below_tr hpa1.bel c9 (fun k hk e => by have := hpa1.le; omega), bx acc, none, 0, 0, false, rfl, fun _ => hno.out, fun h => by cases h⟩
        · obtain rfl : e = 0 := by omega
          have hvi : (v : Int) ≤ 4294967295 := by omega
          have hvi2 : ¬ (4294967295 : Int) < (v : Int) := by omega
          have hx : Hid ((s.extract k s.size).data.toList = s.data.toList.drop k) := Lib.hid (by
            rw [extract_toList, List.take_of_length_le (by rw [← size_toList]; omega)])
          have hnu2 : Hid (nums 8 s0.data.toList = more (acc ++ [v]) (nums 0 (s.extract k s.size).data.toList)) := Lib.hid (by
            rw [hx.out, hnu.out, ← more_cons, ← nums_ok h1.out (by omega)])
          have hxs : (s.extract k s.size).size ≤ 100000 := by rw [ByteArray.size_extract]; omega
          have hst := hpa1.set v 7 (p + 1 + 1) 0 hal.out (by decide) rfl rfl
          have hmx2 : Hid (∀ x ∈ acc ++ [v], x ≤ 4294967295) := Lib.hid (fun x hx => by
            rcases List.mem_append.mp hx with h | h
            · exact hmx.out x h
            · simp at h; omega)
          clear hbad f1 f2 f3 f4
          go_upto_region 8 with (fail)
          go_region
          all_goals go_wp2
          all_goals go_roundw
          case rel => exact ⟨8, acc ++ [v], s.extract k s.size, by omega, by go_num, rfl, hxs, Lib.hid (by rw [List.length_append, hal.out]; rfl), hnu2, hmx2, hst.drew⟩
          case measure => simp [intOf]
    · obtain rfl : j = 8 := by omega
      have hn8 : Hid (nums 8 s0.data.toList = some (acc, s.data.toList)) := Lib.hid (by rw [hnu.out]; simp [nums, more])
      have hgd : ∀ i, acc.getD i 0 ≤ 4294967295 := fun i => by
        rw [List.getD_eq_getElem?_getD]
        cases h : acc[i]? with
        | none => simp
        | some x => exact hmx.out x (List.mem_of_getElem? h)
      obtain ⟨S, hS⟩ : ∃ S, Hid (acc.getD 6 0 = S) := ⟨_, Lib.hid rfl⟩
      obtain ⟨C, hC⟩ : ∃ C, Hid (acc.getD 7 0 = C) := ⟨_, Lib.hid rfl⟩
      have hSb : (S : Int) ≤ 4294967295 := by have := hgd 6; rw [hS.out] at this; omega
      have hw : IntKind.u32.wrap (S : Int) = (S : Int) := by simp [IntKind.wrap, IntKind.bits, IntKind.signed]; omega
      have bs := (hpa.sum 0 _ rfl).1
      have bc := (hpa.cnt 0 _ rfl).1
      rw [hS.out] at bs
      rw [hC.out] at bc
      have b6 := (hpa.box 6 _ rfl).1
      have z6 := (hpa.box 6 _ rfl).2
      rw [show ((8 : Nat) : Int) = 8 from rfl]
      go_upto_region 11 with (fail)
      obtain ⟨W1, hW1⟩ : ∃ W1, W1 = wr.setCell ⟨p, 6, none⟩ (.int .u32 (S : Int)) := ⟨_, rfl⟩
      have hbx : RowV W1 p (hd9 acc (.slice none 0 0) (.string ByteArray.empty)) := by
        rw [hW1]
        have := hpa.box.set 6 (by simp [boxOf]) (.int .u32 (S : Int))
        rw [← hS.out] at this ⊢
        exact this
      have hcn : RowV W1 (p + 2) [.int .i64 (C : Nat)] := by
        rw [hW1, ← hC.out]; exact hpa.cnt.keep (Chg.setCell _ _ _) (by simp)
      have hbw : Below w.heap.size w W1 := by
        rw [hW1]; exact Chg.below_tr hpa.bel (Chg.setCell _ _ _) (fun k hk e => by simp only at e; have := hpa.le; omega)
      have hle := hpa.le
      rw [← hW1]
      clear hW1 hpa bs bc b6 z6 hw hgd
      have bc := (hcn 0 _ rfl).1
      by_cases hC4 : 4 < C
      · have hno : Hid (msgP s0.data.toList = none) := Lib.hid (by unfold msgP; rw [hn8.out]; simp only; rw [hC.out, if_pos hC4])
        have hCi : (4 : Int) < (C : Int) := by omega
        have b0 := (hbx 0 _ rfl).1
        have z0 := (hbx 0 _ rfl).2
        have b1 := (hbx 1 _ rfl).1
        have z1 := (hbx 1 _ rfl).2
        have b2 := (hbx 2 _ rfl).1
        have z2 := (hbx 2 _ rfl).2
        have b3 := (hbx 3 _ rfl).1
        have z3 := (hbx 3 _ rfl).2
        have b4 := (hbx 4 _ rfl).1
        have z4 := (hbx 4 _ rfl).2
        have b5 := (hbx 5 _ rfl).1
        have z5 := (hbx 5 _ rfl).2
        have b6 := (hbx 6 _ rfl).1
        have z6 := (hbx 6 _ rfl).2
        have b7 := (hbx 7 _ rfl).1
        have z7 := (hbx 7 _ rfl).2
        have b8 := (hbx 8 _ rfl).1
        have z8 := (hbx 8 _ rfl).2
        go_wp2
        generalize hW9 : (((((((((W1.setCell ⟨p, 0, none⟩ _).setCell ⟨p, 1, none⟩ _).setCell ⟨p, 2, none⟩ _).setCell ⟨p, 3, none⟩ _).setCell ⟨p, 4, none⟩ _).setCell ⟨p, 5, none⟩ _).setCell ⟨p, 6, none⟩ _).setCell ⟨p, 7, none⟩ _).setCell ⟨p, 8, none⟩ _) = W9
        obtain ⟨r9, c9, _⟩ := hbx.set9 rfl _ _ _ _ _ _ _ _ _ W9 hW9.symm
        refine bodyPost_ret (results_cell_tmp2 rfl _ _ p _ rfl (ML W9 _ _ _ _ _ _ _ _ _ r9)) rfl ?_
        exact ⟨Chg.below_tr hbw c9 (fun k hk e => by omega), mk acc [] ByteArray.empty, none, 0, 0, false, rfl, fun _ => hno.out, fun h => by cases h⟩
      · have hCi : ¬ (4 : Int) < (C : Int) := by omega
        obtain ⟨i0, hi, hz0, hz1, hz2⟩ := info_parts strinfo
        go_upto_region 14 with (fail)
        go_loopw [0, 55] (fun v0 v55 wt => ∃ (i : Nat) (rs : List ByteArray) (v7 : Value) (s1 : ByteArray), i ≤ C ∧ v55 = .int .i64 i ∧ v0 = .string s1 ∧ s1.size ≤ 100000 ∧ Hid (rs.length = i) ∧ Hid (texts C s.data.toList = more rs (texts (C - i) s1.data.toList)) ∧ RowV wt p (hd9 acc v7 (.string ByteArray.empty)) ∧ wt.ownsRow 0 9 1 v7 i (rs.map Value.string) ∧ Hid (∀ g, v7.ownBlock = some g → w.heap.size ≤ g ∧ g ≠ p) ∧ Below w.heap.size w wt) (fun _ v55 _ => C - (intOf v55).toNat)
        case atStart => exact ⟨0, [], .slice none 0 0, s, by omega, rfl, rfl, hss, Lib.hid rfl, Lib.hid (more_nil _).symm, hbx, World.ownsRow_nil _ _ _ _, Lib.hid fun g hg => by simp [Value.ownBlock] at hg, hbw⟩
        case round =>
          obtain ⟨i, rs, v7, s1, hiC, rfl, rfl, hs1, hrl, htx, hb9, hown, hfr, hbel⟩ := hrel
          clear hbx hcn bc hbw
          obtain ⟨va, vc, rfl⟩ := ownslice_form hown
          obtain ⟨t, k, e, h1⟩ : ∃ t k e, Hid (getText s1.data.toList 65536 = (t, k, e)) := ⟨_, _, _, Lib.hid rfl⟩
          obtain ⟨f1, f2⟩ := getText_facts h1.out
          rw [← size_toList] at f1
          have hki : (k : Int) ≤ (s1.size : Int) := by omega
          by_cases hlt : i < C
          · have hii : (i : Int) < (C : Int) := by omega
            obtain ⟨d, hd⟩ : ∃ d, C - i = d + 1 := ⟨C - i - 1, by omega⟩
            rw [hd] at htx
            go_upto_region 16 with (go_at_call 47; refine (gettext_eq s1 (by omega) 65536 (by decide) (by decide) h1 _).mono ?_; rintro y w1 ⟨rfl, hb1⟩)
            have hb91 := hb9.below hb1
            have hbel1 := below_tr hbel hb1
            have b0 := (hb91 0 _ rfl).1
            have z0 := (hb91 0 _ rfl).2
            have b1 := (hb91 1 _ rfl).1
            have z1 := (hb91 1 _ rfl).2
            have b2 := (hb91 2 _ rfl).1
            have z2 := (hb91 2 _ rfl).2
            have b3 := (hb91 3 _ rfl).1
            have z3 := (hb91 3 _ rfl).2
            have b4 := (hb91 4 _ rfl).1
            have z4 := (hb91 4 _ rfl).2
            have b5 := (hb91 5 _ rfl).1
            have z5 := (hb91 5 _ rfl).2
            have b6 := (hb91 6 _ rfl).1
            have z6 := (hb91 6 _ rfl).2
            have b7 := (hb91 7 _ rfl).1
            have z7 := (hb91 7 _ rfl).2
            have b8 := (hb91 8 _ rfl).1
            have z8 := (hb91 8 _ rfl).2
            by_cases he : e = 0
            · subst he
              have hx : Hid ((s1.extract k s1.size).data.toList = s1.data.toList.drop k) := Lib.hid (by
                rw [extract_toList, List.take_of_length_le (by rw [← size_toList]; omega)])
              have htx2 : Hid (texts C s.data.toList = more (rs ++ [mkS t]) (texts (C - (i + 1)) (s1.extract k s1.size).data.toList)) := Lib.hid (by
                rw [hx.out, htx.out, texts_ok h1.out, more_cons, show C - (i + 1) = d from by omega])
              have hxs : (s1.extract k s1.size).size ≤ 100000 := by rw [ByteArray.size_extract]; omega
              have hown1 := (Chg.of_below (fun _ => False) hb1).owns hown (fun _ _ x => x)
              have hnews : ∀ W : World, ∀ (j : Nat) (u : Value), ([Value.string (mkS t)] : List Value)[j]? = some u → (W.alloc (.cells #[.string (mkS t)] 9)).cell? (Addr.add ⟨W.heap.size, 0, none⟩ j) = some u := by
                intro W j u hu
                match j, hu with
                | 0, hu => simp at hu; subst hu; simp [Addr.add]
                | j + 1, hu => simp at hu
              have Hnews := Lib.hid hnews
              have hone : ∀ u ∈ ([Value.string (mkS t)] : List Value), u.oneCell' = true := by
                intro u hu; simp at hu; rcases hu with rfl; rfl
              have Hone := Lib.hid hone
              have H63 : Hid (i + 1 ≤ maxLen) := Lib.hid (by unfold maxLen; omega)
              have Hby : Hid ((i + 1) * 16 ≤ 140737488355328) := Lib.hid (by omega)
              have hplt : p ≠ w1.heap.size := Nat.ne_of_lt (hb91.lt (by simp [hd9]))
              have b7a : (w1.alloc (.cells #[.string (mkS t)] 9)).cell? ⟨p, 7, none⟩ = some (.slice va i vc) := (Chg.alloc (fun _ => False) w1 _).cell b7 (fun x => x)
              have b7b : (w1.alloc (.cells #[.string (mkS t)] 9)).drew.cell? ⟨p, 7, none⟩ = some (.slice va i vc) := b7a
              clear hnews hone hown htx hb9 hbel b0 b1 b2 b3 b4 b5 b6 b8 z0 z1 z2 z3 z4 z5 z6 z7 z8
              go_upto_region 18 with (fail)
              go_region_law (refine step_append_fp rfl (.tmp 67) (.tmp 69) 78 rfl 0 9 i0 (.string ⟨#[]⟩) 1 16 Try.underlying78 hi hz0 hz1 hz2 rfl (by decide) (.slice va i vc) i (rs.map Value.string) (by first | rfl | simp [Act.eval]) (hown1.alloc _) ⟨w1.heap.size, 0, none⟩ 1 1 [.string (mkS t)] (by first | rfl | simp [Act.eval]) rfl (Hnews.out w1) Hone.out H63.out Hby.out (Nat.zero_le _) ?_; intro v2 w3 ho hgr _ hbk; have hfm := own_form1 ho; obtain ⟨g2, cap2, rfl⟩ := hfm; have hcw := ((Chg.alloc (fun _ => False) w1 (.cells #[.string (mkS t)] 9)).trans (Chg.drew (fun _ => False) _) (fun _ _ x => x)); have hqq := wr_step (p := p) hbel1 (Nat.le_refl _) hb91 (by simp [hd9]) hfr.out hcw (by simp) hgr hbk; obtain ⟨hq1, hq2, hq3⟩ := hqq; have b7' := (hq1 7 _ rfl).1; have z7' := (hq1 7 _ rfl).2)
              all_goals
                have hset := hq1.set 7 (by simp [hd9]) (.slice (some ⟨g2, 0, none⟩) (i + 1) cap2)
                have hown2 := (Chg.setCell w3 ⟨p, 7, none⟩ (.slice (some ⟨g2, 0, none⟩) (i + 1) cap2)).owns ho (fun b hb e => by
                  have := (hq2 b hb).2; simp only at e; exact this e)
                have hbel2 : Below w.heap.size w (w3.setCell ⟨p, 7, none⟩ (.slice (some ⟨g2, 0, none⟩) (i + 1) cap2)) := Chg.below_tr hq3 (Chg.setCell _ _ _) (fun k hk e => by simp only at e; omega)
                have hmap : rs.map Value.string ++ [.string (mkS t)] = (rs ++ [mkS t]).map Value.string := by simp
                rw [hmap] at hown2
                have hrl2 : Hid ((rs ++ [mkS t]).length = i + 1) := Lib.hid (by rw [List.length_append, hrl.out]; rfl)
                have hq4 := Lib.hid hq2
                clear hq1 hq2 hq3 hgr hbk hcw hmap ho b7a b7b hown1 hrl
                go_wp2
                go_roundw
                case rel => exact ⟨i + 1, rs ++ [mkS t], _, s1.extract k s1.size, by omega, by go_num, rfl, hxs, hrl2, htx2, hset, hown2, hq4, hbel2⟩
                case measure => simp [intOf]; omega
            · have hno : Hid (msgP s0.data.toList = none) := Lib.hid (by unfold msgP; rw [hn8.out]; simp only; rw [hC.out, if_neg hC4, htx.out, texts_bad h1.out he]; rfl)
              have hei : ¬ (e : Int) = 0 := by omega
              go_wp2
              generalize hW9 : (((((((((w1.setCell ⟨p, 0, none⟩ _).setCell ⟨p, 1, none⟩ _).setCell ⟨p, 2, none⟩ _).setCell ⟨p, 3, none⟩ _).setCell ⟨p, 4, none⟩ _).setCell ⟨p, 5, none⟩ _).setCell ⟨p, 6, none⟩ _).setCell ⟨p, 7, none⟩ _).setCell ⟨p, 8, none⟩ _) = W9
              obtain ⟨r9, c9, _⟩ := hb91.set9 rfl _ _ _ _ _ _ _ _ _ W9 hW9.symm
              refine bodyPost_ret (results_cell_tmp2 rfl _ _ p _ rfl (ML W9 _ _ _ _ _ _ _ _ _ r9)) rfl ?_
              exact ⟨Chg.below_tr hbel1 c9 (fun k hk e => by omega), mk acc [] ByteArray.empty, va, i, vc, false, rfl, fun _ => hno.out, fun h => by cases h⟩
          · obtain rfl : i = C := by omega
            have hte : Hid (texts i s.data.toList = some (rs, s1.data.toList)) := Lib.hid (by rw [htx.out, Nat.sub_self]; simp [texts, more])
            have hmp : Hid (msgP s0.data.toList = if e = 0 ∧ s1.data.toList.length = k then some (mk acc rs (mkS t)) else none) := Lib.hid (by
              unfold msgP; rw [hn8.out]; simp only; rw [hC.out, if_neg hC4, hte.out]; simp only; rw [h1.out])
            have hii : ¬ (i : Int) < (i : Int) := by omega
            clear htx hlt hte hn8 hC hrl
            go_upto_region 21 with (go_at_call 47; refine (gettext_eq s1 (by omega) 65536 (by decide) (by decide) h1 _).mono ?_; rintro y w1 ⟨rfl, hb1⟩)
            have hb91 := hb9.below hb1
            have hbel1 := below_tr hbel hb1
            have hown1 := (Chg.of_below (fun _ => False) hb1).owns hown (fun _ _ x => x)
            have b8 := (hb91 8 _ rfl).1
            have z8 := (hb91 8 _ rfl).2
            go_upto_region 22 with (fail)
            obtain ⟨W2, hW2⟩ : ∃ W2, W2 = w1.setCell ⟨p, 8, none⟩ (.string (mkS t)) := ⟨_, rfl⟩
            have hb92 : RowV W2 p (hd9 acc (.slice va i vc) (.string (mkS t))) := by rw [hW2]; exact hb91.set 8 (by simp [hd9]) _
            have hown2 : W2.ownsRow 0 9 1 (.slice va i vc) i (rs.map Value.string) := by
              rw [hW2]
              exact (Chg.setCell _ _ _).owns hown1 (fun b hb e => by have := (hfr.out b hb).2; simp only at e; exact this e)
            have hbel2 : Below w.heap.size w W2 := by rw [hW2]; exact Chg.below_tr hbel1 (Chg.setCell _ _ _) (fun k hk e => by simp only at e; omega)
            rw [← hW2]
            clear hW2 hb91 hown1 hbel1 b8 z8 hown hb9 hbel
            have b0 := (hb92 0 _ rfl).1
            have z0 := (hb92 0 _ rfl).2
            have b1 := (hb92 1 _ rfl).1
            have z1 := (hb92 1 _ rfl).2
            have b2 := (hb92 2 _ rfl).1
            have z2 := (hb92 2 _ rfl).2
            have b3 := (hb92 3 _ rfl).1
            have z3 := (hb92 3 _ rfl).2
            have b4 := (hb92 4 _ rfl).1
            have z4 := (hb92 4 _ rfl).2
            have b5 := (hb92 5 _ rfl).1
            have z5 := (hb92 5 _ rfl).2
            have b6 := (hb92 6 _ rfl).1
            have z6 := (hb92 6 _ rfl).2
            have b7 := (hb92 7 _ rfl).1
            have z7 := (hb92 7 _ rfl).2
            have b8 := (hb92 8 _ rfl).1
            have z8 := (hb92 8 _ rfl).2
            have fin : ∀ W9, RowV W9 p (hd9 acc (.slice va i vc) (.string (mkS t))) → Chg (fun k => k = p) W2 W9 → ∀ ok, (ok = decide (e = 0 ∧ s1.data.toList.length = k)) → PaOut w (msgP s0.data.toList) (.returned (.tuple #[.agg (hd9 acc (.slice va i vc) (.string (mkS t))).toArray, .bool ok])) W9 := by
              intro W9 h9 hc9 ok hok
              refine ⟨Chg.below_tr hbel2 hc9 (fun k hk e => by omega), mk acc rs (mkS t), va, i, vc, ok, rfl, fun h => ?_, fun h => ?_⟩
              · rw [h] at hok
                rw [hmp.out, if_neg (of_decide_eq_false hok.symm)]
              · rw [h] at hok
                rw [hmp.out, if_pos (of_decide_eq_true hok.symm)]
                exact ⟨rfl, hc9.owns hown2 (fun b hb e => (hfr.out b hb).2 e), fun g hg => (hfr.out g hg).1⟩
            have Fin := Lib.hid fin
            clear fin
            by_cases he : e = 0
            · subst he
              by_cases hk : s1.size = k
              · have hki : (s1.size : Int) = (k : Int) := by omega
                have Hk := Lib.hid hk
                clear hk
                go_wp2
                generalize hW9 : (((((((((W2.setCell ⟨p, 0, none⟩ _).setCell ⟨p, 1, none⟩ _).setCell ⟨p, 2, none⟩ _).setCell ⟨p, 3, none⟩ _).setCell ⟨p, 4, none⟩ _).setCell ⟨p, 5, none⟩ _).setCell ⟨p, 6, none⟩ _).setCell ⟨p, 7, none⟩ _).setCell ⟨p, 8, none⟩ _) = W9
                obtain ⟨r9, c9, _⟩ := hb92.set9 rfl _ _ _ _ _ _ _ _ _ W9 hW9.symm
                refine bodyPost_ret (results_cell_tmp2 rfl _ _ p _ rfl (ML W9 _ _ _ _ _ _ _ _ _ r9)) rfl ?_
                exact Fin.out W9 r9 c9 true (by rw [← size_toList, Hk.out]; simp)
              · have hki : ¬ (s1.size : Int) = (k : Int) := by omega
                go_wp2
                generalize hW9 : (((((((((W2.setCell ⟨p, 0, none⟩ _).setCell ⟨p, 1, none⟩ _).setCell ⟨p, 2, none⟩ _).setCell ⟨p, 3, none⟩ _).setCell ⟨p, 4, none⟩ _).setCell ⟨p, 5, none⟩ _).setCell ⟨p, 6, none⟩ _).setCell ⟨p, 7, none⟩ _).setCell ⟨p, 8, none⟩ _) = W9
                obtain ⟨r9, c9, _⟩ := hb92.set9 rfl _ _ _ _ _ _ _ _ _ W9 hW9.symm
                refine bodyPost_ret (results_cell_tmp2 rfl _ _ p _ rfl (ML W9 _ _ _ _ _ _ _ _ _ r9)) rfl ?_
                exact Fin.out W9 r9 c9 ((s1.size : Int) == (k : Int)) (by rw [← size_toList, beq_eq_false_iff_ne.mpr hki]; simp [hk])
            · have hei : ¬ (e : Int) = 0 := by omega
              go_wp2
              generalize hW9 : (((((((((W2.setCell ⟨p, 0, none⟩ _).setCell ⟨p, 1, none⟩ _).setCell ⟨p, 2, none⟩ _).setCell ⟨p, 3, none⟩ _).setCell ⟨p, 4, none⟩ _).setCell ⟨p, 5, none⟩ _).setCell ⟨p, 6, none⟩ _).setCell ⟨p, 7, none⟩ _).setCell ⟨p, 8, none⟩ _) = W9
              obtain ⟨r9, c9, _⟩ := hb92.set9 rfl _ _ _ _ _ _ _ _ _ W9 hW9.symm
              refine bodyPost_ret (results_cell_tmp2 rfl _ _ p _ rfl (ML W9 _ _ _ _ _ _ _ _ _ r9)) rfl ?_
              exact Fin.out W9 r9 c9 false (by simp [he])
end Go.Proofs.Ytmaebileagfdaaa
