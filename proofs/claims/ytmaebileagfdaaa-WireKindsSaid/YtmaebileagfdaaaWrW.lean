/- The law of the kinds of messages. -/
import Derived.Test.YtmaebileagfdaaaWrV
import Derived.Test.YtmaebileagfdaaaWrR
import Derived.BigRegion
import Derived.Deep.CutBlock
import Derived.Test.YtmaebileagfdaaaDetI
namespace Go.Proofs.Ytmaebileagfdaaa
open Go.RowKit Dig Wr

namespace Wr
/-- The message of a kind. -/
def mK (k e l : Nat) : Msg := ⟨k, e, 0, if k = 5 then 0 else l, if k = 4 then 1 else 0, 0, 0, [], if k = 4 then { data := #[120] } else { data := #[] }⟩
theorem mK_form (k e l : Nat) : ∃ (l' la : Int) (tx : ByteArray), mK k e l = ⟨k, e, 0, l', la, 0, 0, [], tx⟩ ∧ 0 ≤ l' ∧ l' ≤ l ∧ 0 ≤ la ∧ la ≤ 1 := ⟨_, _, _, rfl, by split <;> omega, by split <;> omega, by split <;> omega, by split <;> omega⟩
theorem chk_mK {k e l : Nat} (hk : 1 ≤ k ∧ k ≤ 5) (he : 1 ≤ e ∧ e ≤ 1000) (hl : 1 ≤ l ∧ l ≤ 1000) : chk (mK k e l) = 0 := by
  have hx : ({ data := #[120] } : ByteArray).size = 1 := rfl
  have h0 : ({ data := #[] } : ByteArray).size = 0 := rfl
  rcases (by omega : k = 1 ∨ k = 2 ∨ k = 3 ∨ k = 4 ∨ k = 5) with rfl | rfl | rfl | rfl | rfl <;>
    (simp [chk, okB, headB, inB, mK, dataB, pieceB, bareB, noB, recsB, hx, h0]; omega)
/-- With records. -/
def mKa (k e l : Nat) : Msg := { mK k e l with rs := [{ data := #[114] }] }
def mKb (k e l : Nat) : Msg := { mK k e l with tx := { data := #[120, 121] }, la := 2 }
def mKc (k e l : Nat) : Msg := { mK k e l with b := 1 }
def mKd (k e l : Nat) : Msg := { mK k e l with e := 0 }
theorem chk_mKa {k e l : Nat} (hk : 1 ≤ k ∧ k ≤ 5) (he : 1 ≤ e ∧ e ≤ 1000) (hl : 1 ≤ l ∧ l ≤ 1000) : chk (mKa k e l) = if k = 2 then 0 else 3 := by
  have hx : ({ data := #[120] } : ByteArray).size = 1 := rfl
  have h0 : ({ data := #[] } : ByteArray).size = 0 := rfl
  have hr : ({ data := #[114] } : ByteArray).size = 1 := rfl
  rcases (by omega : k = 1 ∨ k = 2 ∨ k = 3 ∨ k = 4 ∨ k = 5) with rfl | rfl | rfl | rfl | rfl <;>
    (simp [chk, okB, headB, inB, mK, mKa, dataB, pieceB, bareB, noB, recsB, hx, h0, hr]; try omega)
theorem chk_mKb {k e l : Nat} (hk : 1 ≤ k ∧ k ≤ 5) (he : 1 ≤ e ∧ e ≤ 1000) (hl : 1 ≤ l ∧ l ≤ 1000) : chk (mKb k e l) = if k = 4 then 0 else 3 := by
  have hx : ({ data := #[120, 121] } : ByteArray).size = 2 := rfl
  rcases (by omega : k = 1 ∨ k = 2 ∨ k = 3 ∨ k = 4 ∨ k = 5) with rfl | rfl | rfl | rfl | rfl <;>
    (simp [chk, okB, headB, inB, mK, mKb, dataB, pieceB, bareB, noB, recsB, hx]; try omega)
theorem chk_mKc {k e l : Nat} (hk : 1 ≤ k ∧ k ≤ 5) (he : 1 ≤ e ∧ e ≤ 1000) (hl : 1 ≤ l ∧ l ≤ 1000) : chk (mKc k e l) = if k ≠ 1 ∧ k ≠ 3 then 0 else 3 := by
  have hx : ({ data := #[120] } : ByteArray).size = 1 := rfl
  have h0 : ({ data := #[] } : ByteArray).size = 0 := rfl
  rcases (by omega : k = 1 ∨ k = 2 ∨ k = 3 ∨ k = 4 ∨ k = 5) with rfl | rfl | rfl | rfl | rfl <;>
    (simp [chk, okB, headB, inB, mK, mKc, dataB, pieceB, bareB, noB, recsB, hx, h0]; try omega)
theorem chk_mKd {k e l : Nat} (hk : 1 ≤ k ∧ k ≤ 5) : chk (mKd k e l) = 3 := by
  rcases (by omega : k = 1 ∨ k = 2 ∨ k = 3 ∨ k = 4 ∨ k = 5) with rfl | rfl | rfl | rfl | rfl <;>
    simp [chk, okB, headB, inB, mK, mKd]
end Wr

theorem nine {ys : List Value} (h : ys.length = 9) : ∃ y0 y1 y2 y3 y4 y5 y6 y7 y8, ys = [y0, y1, y2, y3, y4, y5, y6, y7, y8] :=
  match ys, h with
  | [y0, y1, y2, y3, y4, y5, y6, y7, y8], _ => ⟨y0, y1, y2, y3, y4, y5, y6, y7, y8, rfl⟩
/-- Where the region of the four copies stands: loads 0 to 3, new variables 4 to 7, stores 8 to 11. -/
structure InvK (w4 : World) (M : Value) (L : List Value) (D : Nat → Bool) (vals : Nat → Value) (W : World) : Prop where
  bel : Below w4.heap.size w4 W
  lds : ∀ i, i < 4 → D i = true → vals i = M
  all : ∃ g : Nat → Nat, (∀ i, 4 ≤ i → i < 8 → D i = true → vals i = .pointer (some ⟨g i, 0, none⟩) ∧ w4.heap.size ≤ g i ∧ g i < W.heap.size ∧ ∃ ys : List Value, ys.length = 9 ∧ RowV W (g i) ys ∧ (D (i + 4) = true → ys = L)) ∧
    (∀ i j, 4 ≤ i → i < 8 → 4 ≤ j → j < 8 → D i = true → D j = true → i ≠ j → g i ≠ g j)
theorem or_of {i j : Nat} {b : Bool} (h : (j == i || b) = true) (hn : j ≠ i) : b = true := by
  have : (j == i) = false := by simpa using hn
  rw [this, Bool.false_or] at h; exact h
theorem InvK.load {w4 : World} {M : Value} {L : List Value} {D : Nat → Bool} {vals : Nat → Value} {W : World} (h : InvK w4 M L D vals W) (i : Nat) (hi : i < 4) : InvK w4 M L (fun j => j == i || D j) (upd vals i M) W := by
  obtain ⟨g, h1, h2⟩ := h.all
  refine ⟨h.bel, fun j hj hd => ?_, g, fun j h4 h8 hd => ?_, fun j k a b c d e f n => h2 j k a b c d (or_of e (by omega)) (or_of f (by omega)) n⟩
  · unfold upd
    split
    · rfl
    · rename_i hn; exact h.lds j hj (or_of hd hn)
  · obtain ⟨a1, a2, a3, ys, a4, a5, a6⟩ := h1 j h4 h8 (or_of hd (by omega))
    refine ⟨by unfold upd; rw [if_neg (by omega)]; exact a1, a2, a3, ys, a4, a5, fun hx => a6 (or_of hx (by omega))⟩
theorem InvK.alloc {w4 : World} {M : Value} {L : List Value} {D : Nat → Bool} {vals : Nat → Value} {W : World} (h : InvK w4 M L D vals W) (i : Nat) (h4 : 4 ≤ i) (h8 : i < 8) (hn : D (i + 4) = false) (xs : List Value) (hx : xs.length = 9) (t : TypeId) :
    InvK w4 M L (fun j => j == i || D j) (upd vals i (.pointer (some ⟨W.heap.size, 0, none⟩))) (W.alloc (.cells xs.toArray t)) := by
  obtain ⟨g, h1, h2⟩ := h.all
  have hs : (W.alloc (.cells xs.toArray t)).heap.size = W.heap.size + 1 := by simp
  have hb : Below W.heap.size W (W.alloc (.cells xs.toArray t)) := (Below.refl _ _).alloc (Nat.le_refl _) _
  refine ⟨below_tr h.bel hb, fun j hj hd => ?_, fun j => if j = i then W.heap.size else g j, fun j k4 k8 hd => ?_, fun j k a b c d e f n => ?_⟩
  · unfold upd; rw [if_neg (by omega)]; exact h.lds j hj (or_of hd (by omega))
  · by_cases hji : j = i
    · subst hji
      refine ⟨by simp [upd], ?_, ?_, xs, hx, ?_, fun hq => ?_⟩
      · simp only [if_pos]; exact h.bel.size
      · simp only [if_pos]; rw [hs]; omega
      · simp only [if_pos]; exact RowV.new W xs t
      · have := or_of hq (by omega); rw [hn] at this; cases this
    · obtain ⟨a1, a2, a3, ys, a4, a5, a6⟩ := h1 j k4 k8 (or_of hd hji)
      simp only [if_neg hji]
      refine ⟨by unfold upd; rw [if_neg hji]; exact a1, a2, by rw [hs]; omega, ys, a4, a5.below hb, fun hq => a6 (or_of hq (by omega))⟩
  · by_cases hji : j = i
    · by_cases hki : k = i
      · exact absurd (hji.trans hki.symm) n
      · have := (h1 k c d (or_of f hki)).2.2.1
        simp only [if_pos hji, if_neg hki]; omega
    · by_cases hki : k = i
      · have := (h1 j a b (or_of e hji)).2.2.1
        simp only [if_neg hji, if_pos hki]; omega
      · simp only [if_neg hji, if_neg hki]
        exact h2 j k a b c d (or_of e hji) (or_of f hki) n
theorem InvK.store {w4 : World} {M : Value} {L : List Value} {D : Nat → Bool} {vals : Nat → Value} {W W9 : World} (h : InvK w4 M L D vals W) (i : Nat) (h4 : 4 ≤ i) (h8 : i < 8) (hd : D i = true) (G : Nat) (hv : vals i = .pointer (some ⟨G, 0, none⟩))
    (hL : L.length = 9) (hr : RowV W9 G L) (hc : Chg (fun k => k = G) W W9) (v : Value) : InvK w4 M L (fun j => j == i + 4 || D j) (upd vals (i + 4) v) W9 := by
  obtain ⟨g, h1, h2⟩ := h.all
  have hG := h1 i h4 h8 hd
  have hgG : g i = G := by have := hG.1; rw [hv] at this; simpa using this.symm
  refine ⟨Chg.below_tr h.bel hc (fun k hk e => by have := hG.2.1; omega), fun j hj hd => ?_, g, fun j k4 k8 hdj => ?_, fun j k a b c d e f n => h2 j k a b c d (or_of e (by omega)) (or_of f (by omega)) n⟩
  · unfold upd; rw [if_neg (by omega)]; exact h.lds j hj (or_of hd (by omega))
  · have hdj' := or_of hdj (by omega)
    obtain ⟨a1, a2, a3, ys, a4, a5, a6⟩ := h1 j k4 k8 hdj'
    have hs := hc.size
    by_cases hji : j = i
    · subst hji
      rw [hgG]
      exact ⟨by unfold upd; rw [if_neg (by omega)]; exact hv, by omega, by omega, L, hL, hr, fun _ => rfl⟩
    · exact ⟨by unfold upd; rw [if_neg (by omega)]; exact a1, a2, by omega, ys, a4, a5.keep hc (by have := h2 j i k4 k8 h4 h8 hdj' hd hji; omega), fun hq => a6 (or_of hq (by omega))⟩
theorem RowS.keepF {F : Nat → Prop} {w w' : World} {a : Option Addr} {rs : List ByteArray} (h : RowS w a rs) (hc : Chg F w w') (hf : ∀ x, a = some x → ¬ F x.block) : RowS w' a rs := by
  refine ⟨?_⟩
  rcases h.row with h1 | ⟨x, rfl, h1⟩
  · exact .inl h1
  · refine .inr ⟨x, rfl, fun i r hr => hc.cell (h1 i r hr) ?_⟩
    have : (x.add i).block = x.block := by unfold Addr.add; split <;> rfl
    rw [this]; exact hf x rfl
/-- Four copies of one message. -/
structure CutK (w : World) (p : Nat) (m : Msg) (va vb vc vd : Value) (wx : World) : Prop where
  ex : ∃ a b c d : Nat, va = .pointer (some ⟨a, 0, none⟩) ∧ vb = .pointer (some ⟨b, 0, none⟩) ∧ vc = .pointer (some ⟨c, 0, none⟩) ∧ vd = .pointer (some ⟨d, 0, none⟩) ∧ w.heap.size ≤ a ∧ w.heap.size ≤ b ∧ w.heap.size ≤ c ∧ w.heap.size ≤ d ∧ a ≠ b ∧ a ≠ c ∧ a ≠ d ∧ b ≠ c ∧ b ≠ d ∧ c ≠ d ∧
    RowV wx a (hdm m (.slice none 0 0) (.string m.tx)) ∧ RowV wx b (hdm m (.slice none 0 0) (.string m.tx)) ∧ RowV wx c (hdm m (.slice none 0 0) (.string m.tx)) ∧ RowV wx d (hdm m (.slice none 0 0) (.string m.tx)) ∧ Below w.heap.size w wx

set_option maxRecDepth 100000 in
set_option maxHeartbeats 4000000 in
theorem wireKinds_walk (k0 e0 l0 : Int) (_hk : (Lit.int .i64 k0).wf = true) (_he : (Lit.int .i64 e0).wf = true) (_hl : (Lit.int .i64 l0).wf = true) (w : World) :
    Calls Try.prog 14 #[.int .i64 k0, .int .i64 e0, .int .i64 l0] w fun e w' => e = .returned (.bool true) ∧ Below w.heap.size w w' := by
  obtain ⟨K, hK, hK5⟩ := umod_k k0 5 (by omega) (by omega)
  obtain ⟨E, hE, hE1⟩ := umod_k e0 1000 (by omega) (by omega)
  obtain ⟨L, hL, hL1⟩ := umod_k l0 1000 (by omega) (by omega)
  go_enter Try.func14, Try.ntmps14
  obtain ⟨k, hkk⟩ : ∃ k : Nat, 1 + (K : Int) = (k : Int) := ⟨1 + K, by omega⟩
  obtain ⟨e, hee⟩ : ∃ e : Nat, 1 + (E : Int) = (e : Int) := ⟨1 + E, by omega⟩
  obtain ⟨l, hll⟩ : ∃ l : Nat, 1 + (L : Int) = (l : Int) := ⟨1 + L, by omega⟩
  have hk1 : 1 ≤ k ∧ k ≤ 5 := by omega
  have he1 : 1 ≤ e ∧ e ≤ 1000 := by omega
  have hl1 : 1 ≤ l ∧ l ≤ 1000 := by omega
  go_upto_block 0 with (go_at_call 35; refine (wworks_any _).mono ?_; rintro y w1 ⟨rfl, hb1⟩)
  clear hK hE hL
  have hx := RowV.new w1 [.int .i64 (k : Nat), .int .i64 (e : Nat), .int .i64 0, .int .i64 (l : Nat), .int .i64 0, .int .i64 0, .int .u32 0, .slice none 0 0, .string { data := #[] }] 80
  have hba : Below w1.heap.size w1 (w1.alloc (.cells #[.int .i64 (k : Nat), .int .i64 (e : Nat), .int .i64 0, .int .i64 (l : Nat), .int .i64 0, .int .i64 0, .int .u32 0, .slice none 0 0, .string { data := #[] }] 80)) := (Below.refl _ _).alloc (Nat.le_refl _) _
  obtain ⟨W2, hW2⟩ : ∃ W2, Hid (W2 = w1.alloc (.cells #[.int .i64 (k : Nat), .int .i64 (e : Nat), .int .i64 0, .int .i64 (l : Nat), .int .i64 0, .int .i64 0, .int .u32 0, .slice none 0 0, .string { data := #[] }] 80)) := ⟨_, Lib.hid rfl⟩
  obtain ⟨p, hp⟩ : ∃ p, Hid (p = w1.heap.size) := ⟨_, Lib.hid rfl⟩
  rw [← hW2.out] at hx hba ⊢
  rw [← hp.out] at hx ⊢
  have hb2 := below_tr hb1 hba
  have hpw : w.heap.size ≤ p := by rw [hp.out]; exact hb1.size
  clear hW2 hb1 hba
  go_cut [] from 35 to 41 (fun wx => RowV wx p (hdm (mK k e l) (.slice none 0 0) (.string (mK k e l).tx)) ∧ Below w.heap.size w wx)
  case first =>
    by_cases h5 : k = 5
    · have h5i : (k : Int) = 5 := by omega
      have xb0 := (hx 0 _ rfl).1
      have xz0 := (hx 0 _ rfl).2
      have xb1 := (hx 1 _ rfl).1
      have xz1 := (hx 1 _ rfl).2
      have xb2 := (hx 2 _ rfl).1
      have xz2 := (hx 2 _ rfl).2
      have xb3 := (hx 3 _ rfl).1
      have xz3 := (hx 3 _ rfl).2
      have xb4 := (hx 4 _ rfl).1
      have xz4 := (hx 4 _ rfl).2
      have xb5 := (hx 5 _ rfl).1
      have xz5 := (hx 5 _ rfl).2
      have xb6 := (hx 6 _ rfl).1
      have xz6 := (hx 6 _ rfl).2
      have xb7 := (hx 7 _ rfl).1
      have xz7 := (hx 7 _ rfl).2
      have xb8 := (hx 8 _ rfl).1
      have xz8 := (hx 8 _ rfl).2
      go_wp2
      go_meet
      case rel =>
        have e1 : hdm (mK k e l) (.slice none 0 0) (.string (mK k e l).tx) = [.int .i64 (k : Nat), .int .i64 (e : Nat), .int .i64 0, .int .i64 0, .int .i64 0, .int .i64 0, .int .u32 0, .slice none 0 0, .string { data := #[] }] := by simp [hdm, mK, h5]
        rw [e1]
        exact ⟨hx.set 3 (by simp) (.int .i64 0), Chg.below_tr hb2 (Chg.setCell _ _ _) (fun k hk e => by simp only at e; omega)⟩
    · have h5i : ¬ (k : Int) = 5 := by omega
      by_cases h4 : k = 4
      · have h4i : (k : Int) = 4 := by omega
        have xb0 := (hx 0 _ rfl).1
        have xz0 := (hx 0 _ rfl).2
        have xb1 := (hx 1 _ rfl).1
        have xz1 := (hx 1 _ rfl).2
        have xb2 := (hx 2 _ rfl).1
        have xz2 := (hx 2 _ rfl).2
        have xb3 := (hx 3 _ rfl).1
        have xz3 := (hx 3 _ rfl).2
        have xb4 := (hx 4 _ rfl).1
        have xz4 := (hx 4 _ rfl).2
        have xb5 := (hx 5 _ rfl).1
        have xz5 := (hx 5 _ rfl).2
        have xb6 := (hx 6 _ rfl).1
        have xz6 := (hx 6 _ rfl).2
        have xb7 := (hx 7 _ rfl).1
        have xz7 := (hx 7 _ rfl).2
        have xb8 := (hx 8 _ rfl).1
        have xz8 := (hx 8 _ rfl).2
        go_wp2
        go_meet
        case rel =>
          have e1 : hdm (mK k e l) (.slice none 0 0) (.string (mK k e l).tx) = [.int .i64 (k : Nat), .int .i64 (e : Nat), .int .i64 0, .int .i64 (l : Nat), .int .i64 1, .int .i64 0, .int .u32 0, .slice none 0 0, .string { data := #[120] }] := by simp [hdm, mK, h4]
          rw [e1]
          exact ⟨(hx.set 4 (by simp) (.int .i64 1)).set 8 (by simp) (.string { data := #[120] }), Chg.below_tr (Chg.below_tr hb2 (Chg.setCell _ _ _) (fun k hk e => by simp only at e; omega)) (Chg.setCell _ _ _) (fun k hk e => by simp only at e; omega)⟩
      · have h4i : ¬ (k : Int) = 4 := by omega
        have xb0 := (hx 0 _ rfl).1
        have xz0 := (hx 0 _ rfl).2
        have xb1 := (hx 1 _ rfl).1
        have xz1 := (hx 1 _ rfl).2
        have xb2 := (hx 2 _ rfl).1
        have xz2 := (hx 2 _ rfl).2
        have xb3 := (hx 3 _ rfl).1
        have xz3 := (hx 3 _ rfl).2
        have xb4 := (hx 4 _ rfl).1
        have xz4 := (hx 4 _ rfl).2
        have xb5 := (hx 5 _ rfl).1
        have xz5 := (hx 5 _ rfl).2
        have xb6 := (hx 6 _ rfl).1
        have xz6 := (hx 6 _ rfl).2
        have xb7 := (hx 7 _ rfl).1
        have xz7 := (hx 7 _ rfl).2
        have xb8 := (hx 8 _ rfl).1
        have xz8 := (hx 8 _ rfl).2
        go_wp2
        go_meet
        case rel =>
          have e1 : hdm (mK k e l) (.slice none 0 0) (.string (mK k e l).tx) = [.int .i64 (k : Nat), .int .i64 (e : Nat), .int .i64 0, .int .i64 (l : Nat), .int .i64 0, .int .i64 0, .int .u32 0, .slice none 0 0, .string { data := #[] }] := by simp [hdm, mK, h4, h5]
          rw [e1]
          exact ⟨hx, hb2⟩
  case rest =>
    obtain ⟨hx3, hb3⟩ := hcut
    obtain ⟨l', la, tx, hm, l'0, l'1, la0, la1⟩ := mK_form k e l
    have wfn : ∀ z : Int, 0 ≤ z → z ≤ 100000 → (Lit.int .i64 z).wf = true := fun z h0 h1 => by
      simp only [Lit.wf, IntKind.min, IntKind.max, IntKind.signed, IntKind.bits]; simp; omega
    have hck := chk_mK (k := k) (e := e) (l := l) hk1 he1 hl1
    have wk := wfn k (by omega) (by omega)
    have we := wfn e (by omega) (by omega)
    have wl := wfn l' (by omega) (by omega)
    have wa := wfn la (by omega) (by omega)
    have w0 := wfn 0 (by omega) (by omega)
    have C0 := fun W => wcheck_any (mK k e l) (by rw [hm]; exact ⟨wk, we, w0, wl, wa, w0⟩) none 0 0 (by rw [hm]; rfl) (by omega) W ⟨.inl (by rw [hm])⟩
    rw [hck] at C0
    rw [hm] at C0 hx3
    unfold msgV at C0
    simp only [hdm] at C0 hx3
    rw [show ((0 : Nat) : Int) = 0 from rfl] at C0 hx3
    have mb0 := (hx3 0 _ rfl).1
    have mb1 := (hx3 1 _ rfl).1
    have mb2 := (hx3 2 _ rfl).1
    have mb3 := (hx3 3 _ rfl).1
    have mb4 := (hx3 4 _ rfl).1
    have mb5 := (hx3 5 _ rfl).1
    have mb6 := (hx3 6 _ rfl).1
    have mb7 := (hx3 7 _ rfl).1
    have mb8 := (hx3 8 _ rfl).1
    go_upto_region 12 with (go_at_call 39; refine (C0 _).mono ?_; rintro y w4 ⟨rfl, hb4⟩)
    clear mb0 mb1 mb2 mb3 mb4 mb5 mb6 mb7 mb8
    have hx4 := hx3.below hb4
    have hb5 := below_tr hb3 hb4
    clear hx hb2 hx3 hb3 hb4 C0 hck
    go_cut [8, 9, 10, 11] from 45 to 48 (fun va vb vc vd wx => CutK w p ⟨k, e, 0, l', la, 0, 0, [], tx⟩ va vb vc vd wx)
    case first =>
      refine wp_region_inv_list (by kernel_rfl) (by kernel_rfl) (InvK w4 (.agg #[.int .i64 (k : Nat), .int .i64 (e : Nat), .int .i64 0, .int .i64 l', .int .i64 la, .int .i64 0, .int .u32 0, .slice none 0 0, .string tx]) [.int .i64 (k : Nat), .int .i64 (e : Nat), .int .i64 0, .int .i64 l', .int .i64 la, .int .i64 0, .int .u32 0, .slice none 0 0, .string tx]) ?h0 ?hop ?hend
      case h0 => exact ⟨⟨rfl, rfl, rfl, Nat.le_refl _, fun _ _ => rfl⟩, (fun i _ h => by cases h), ⟨fun _ => 0, (fun i _ _ h => by cases h), (fun i j _ _ _ _ h => by cases h)⟩⟩
      case hop =>
        refine ⟨fun D vals W hI hD hd hc => ?_, fun D vals W hI hD hd hc => ?_, fun D vals W hI hD hd hc => ?_, fun D vals W hI hD hd hc => ?_, fun D vals W hI hD hd hc => ?_, fun D vals W hI hD hd hc => ?_, fun D vals W hI hD hd hc => ?_, fun D vals W hI hD hd hc => ?_, fun D vals W hI hD hd hc => ?_, fun D vals W hI hD hd hc => ?_, fun D vals W hI hD hd hc => ?_, fun D vals W hI hD hd hc => ?_, trivial⟩
        · have hxW := hx4.below hI.bel
          simp only [fillTo]
          go_simp
          clear hd hc
          have mb0 := (hxW 0 _ rfl).1
          have mb1 := (hxW 1 _ rfl).1
          have mb2 := (hxW 2 _ rfl).1
          have mb3 := (hxW 3 _ rfl).1
          have mb4 := (hxW 4 _ rfl).1
          have mb5 := (hxW 5 _ rfl).1
          have mb6 := (hxW 6 _ rfl).1
          have mb7 := (hxW 7 _ rfl).1
          have mb8 := (hxW 8 _ rfl).1
          go_wp2
          exact ⟨rfl, hI.load 0 (by decide), trivial, trivial⟩
        · have hxW := hx4.below hI.bel
          simp only [fillTo]
          go_simp
          clear hd hc
          have mb0 := (hxW 0 _ rfl).1
          have mb1 := (hxW 1 _ rfl).1
          have mb2 := (hxW 2 _ rfl).1
          have mb3 := (hxW 3 _ rfl).1
          have mb4 := (hxW 4 _ rfl).1
          have mb5 := (hxW 5 _ rfl).1
          have mb6 := (hxW 6 _ rfl).1
          have mb7 := (hxW 7 _ rfl).1
          have mb8 := (hxW 8 _ rfl).1
          go_wp2
          exact ⟨rfl, hI.load 1 (by decide), trivial, trivial⟩
        · have hxW := hx4.below hI.bel
          simp only [fillTo]
          go_simp
          clear hd hc
          have mb0 := (hxW 0 _ rfl).1
          have mb1 := (hxW 1 _ rfl).1
          have mb2 := (hxW 2 _ rfl).1
          have mb3 := (hxW 3 _ rfl).1
          have mb4 := (hxW 4 _ rfl).1
          have mb5 := (hxW 5 _ rfl).1
          have mb6 := (hxW 6 _ rfl).1
          have mb7 := (hxW 7 _ rfl).1
          have mb8 := (hxW 8 _ rfl).1
          go_wp2
          exact ⟨rfl, hI.load 2 (by decide), trivial, trivial⟩
        · have hxW := hx4.below hI.bel
          simp only [fillTo]
          go_simp
          clear hd hc
          have mb0 := (hxW 0 _ rfl).1
          have mb1 := (hxW 1 _ rfl).1
          have mb2 := (hxW 2 _ rfl).1
          have mb3 := (hxW 3 _ rfl).1
          have mb4 := (hxW 4 _ rfl).1
          have mb5 := (hxW 5 _ rfl).1
          have mb6 := (hxW 6 _ rfl).1
          have mb7 := (hxW 7 _ rfl).1
          have mb8 := (hxW 8 _ rfl).1
          go_wp2
          exact ⟨rfl, hI.load 3 (by decide), trivial, trivial⟩
        · have hn : D 8 = false := by
            cases h : D 8 with
            | false => rfl
            | true => have := hc 8 4 h (by kernel_rfl); rw [hD] at this; cases this
          simp only [fillTo]
          go_simp
          clear hd hc
          go_wp2
          exact ⟨rfl, hI.alloc 4 (by decide) (by decide) hn [.int .i64 0, .int .i64 0, .int .i64 0, .int .i64 0, .int .i64 0, .int .i64 0, .int .u32 0, .slice none 0 0, .string { data := #[] }] rfl 80, trivial, trivial⟩
        · have hn : D 9 = false := by
            cases h : D 9 with
            | false => rfl
            | true => have := hc 9 5 h (by kernel_rfl); rw [hD] at this; cases this
          simp only [fillTo]
          go_simp
          clear hd hc
          go_wp2
          exact ⟨rfl, hI.alloc 5 (by decide) (by decide) hn [.int .i64 0, .int .i64 0, .int .i64 0, .int .i64 0, .int .i64 0, .int .i64 0, .int .u32 0, .slice none 0 0, .string { data := #[] }] rfl 80, trivial, trivial⟩
        · have hn : D 10 = false := by
            cases h : D 10 with
            | false => rfl
            | true => have := hc 10 6 h (by kernel_rfl); rw [hD] at this; cases this
          simp only [fillTo]
          go_simp
          clear hd hc
          go_wp2
          exact ⟨rfl, hI.alloc 6 (by decide) (by decide) hn [.int .i64 0, .int .i64 0, .int .i64 0, .int .i64 0, .int .i64 0, .int .i64 0, .int .u32 0, .slice none 0 0, .string { data := #[] }] rfl 80, trivial, trivial⟩
        · have hn : D 11 = false := by
            cases h : D 11 with
            | false => rfl
            | true => have := hc 11 7 h (by kernel_rfl); rw [hD] at this; cases this
          simp only [fillTo]
          go_simp
          clear hd hc
          go_wp2
          exact ⟨rfl, hI.alloc 7 (by decide) (by decide) hn [.int .i64 0, .int .i64 0, .int .i64 0, .int .i64 0, .int .i64 0, .int .i64 0, .int .u32 0, .slice none 0 0, .string { data := #[] }] rfl 80, trivial, trivial⟩
        · have hdA : D 4 = true := hd 4 (by kernel_rfl)
          have hvM := hI.lds 0 (by decide) (hd 0 (by kernel_rfl))
          have hall := hI.all
          obtain ⟨g, h1, _⟩ := hall
          obtain ⟨hvA, _, _, ys, hyl, hyr, _⟩ := h1 4 (by decide) (by decide) hdA
          obtain ⟨y0, y1, y2, y3, y4, y5, y6, y7, y8, rfl⟩ := nine hyl
          obtain ⟨G, hG⟩ : ∃ G, g 4 = G := ⟨_, rfl⟩
          rw [hG] at hvA hyr
          have hst := fun W9 => hI.store (W9 := W9) 4
          clear h1 hd hc hI
          simp only [fillTo]
          go_simp
          have yb0 := (hyr 0 _ rfl).1
          have yz0 := (hyr 0 _ rfl).2
          have yb1 := (hyr 1 _ rfl).1
          have yz1 := (hyr 1 _ rfl).2
          have yb2 := (hyr 2 _ rfl).1
          have yz2 := (hyr 2 _ rfl).2
          have yb3 := (hyr 3 _ rfl).1
          have yz3 := (hyr 3 _ rfl).2
          have yb4 := (hyr 4 _ rfl).1
          have yz4 := (hyr 4 _ rfl).2
          have yb5 := (hyr 5 _ rfl).1
          have yz5 := (hyr 5 _ rfl).2
          have yb6 := (hyr 6 _ rfl).1
          have yz6 := (hyr 6 _ rfl).2
          have yb7 := (hyr 7 _ rfl).1
          have yz7 := (hyr 7 _ rfl).2
          have yb8 := (hyr 8 _ rfl).1
          have yz8 := (hyr 8 _ rfl).2
          go_wp2
          generalize hW9 : (((((((((W.setCell ⟨G, 0, none⟩ _).setCell ⟨G, 1, none⟩ _).setCell ⟨G, 2, none⟩ _).setCell ⟨G, 3, none⟩ _).setCell ⟨G, 4, none⟩ _).setCell ⟨G, 5, none⟩ _).setCell ⟨G, 6, none⟩ _).setCell ⟨G, 7, none⟩ _).setCell ⟨G, 8, none⟩ _) = W9
          obtain ⟨r9, c9, _⟩ := hyr.set9 rfl _ _ _ _ _ _ _ _ _ W9 hW9.symm
          exact ⟨rfl, hst W9 (by decide) (by decide) hdA G hvA rfl r9 c9 _, trivial, trivial⟩
        · have hdA : D 5 = true := hd 5 (by kernel_rfl)
          have hvM := hI.lds 1 (by decide) (hd 1 (by kernel_rfl))
          have hall := hI.all
          obtain ⟨g, h1, _⟩ := hall
          obtain ⟨hvA, _, _, ys, hyl, hyr, _⟩ := h1 5 (by decide) (by decide) hdA
          obtain ⟨y0, y1, y2, y3, y4, y5, y6, y7, y8, rfl⟩ := nine hyl
          obtain ⟨G, hG⟩ : ∃ G, g 5 = G := ⟨_, rfl⟩
          rw [hG] at hvA hyr
          have hst := fun W9 => hI.store (W9 := W9) 5
          clear h1 hd hc hI
          simp only [fillTo]
          go_simp
          have yb0 := (hyr 0 _ rfl).1
          have yz0 := (hyr 0 _ rfl).2
          have yb1 := (hyr 1 _ rfl).1
          have yz1 := (hyr 1 _ rfl).2
          have yb2 := (hyr 2 _ rfl).1
          have yz2 := (hyr 2 _ rfl).2
          have yb3 := (hyr 3 _ rfl).1
          have yz3 := (hyr 3 _ rfl).2
          have yb4 := (hyr 4 _ rfl).1
          have yz4 := (hyr 4 _ rfl).2
          have yb5 := (hyr 5 _ rfl).1
          have yz5 := (hyr 5 _ rfl).2
          have yb6 := (hyr 6 _ rfl).1
          have yz6 := (hyr 6 _ rfl).2
          have yb7 := (hyr 7 _ rfl).1
          have yz7 := (hyr 7 _ rfl).2
          have yb8 := (hyr 8 _ rfl).1
          have yz8 := (hyr 8 _ rfl).2
          go_wp2
          generalize hW9 : (((((((((W.setCell ⟨G, 0, none⟩ _).setCell ⟨G, 1, none⟩ _).setCell ⟨G, 2, none⟩ _).setCell ⟨G, 3, none⟩ _).setCell ⟨G, 4, none⟩ _).setCell ⟨G, 5, none⟩ _).setCell ⟨G, 6, none⟩ _).setCell ⟨G, 7, none⟩ _).setCell ⟨G, 8, none⟩ _) = W9
          obtain ⟨r9, c9, _⟩ := hyr.set9 rfl _ _ _ _ _ _ _ _ _ W9 hW9.symm
          exact ⟨rfl, hst W9 (by decide) (by decide) hdA G hvA rfl r9 c9 _, trivial, trivial⟩
        · have hdA : D 6 = true := hd 6 (by kernel_rfl)
          have hvM := hI.lds 2 (by decide) (hd 2 (by kernel_rfl))
          have hall := hI.all
          obtain ⟨g, h1, _⟩ := hall
          obtain ⟨hvA, _, _, ys, hyl, hyr, _⟩ := h1 6 (by decide) (by decide) hdA
          obtain ⟨y0, y1, y2, y3, y4, y5, y6, y7, y8, rfl⟩ := nine hyl
          obtain ⟨G, hG⟩ : ∃ G, g 6 = G := ⟨_, rfl⟩
          rw [hG] at hvA hyr
          have hst := fun W9 => hI.store (W9 := W9) 6
          clear h1 hd hc hI
          simp only [fillTo]
          go_simp
          have yb0 := (hyr 0 _ rfl).1
          have yz0 := (hyr 0 _ rfl).2
          have yb1 := (hyr 1 _ rfl).1
          have yz1 := (hyr 1 _ rfl).2
          have yb2 := (hyr 2 _ rfl).1
          have yz2 := (hyr 2 _ rfl).2
          have yb3 := (hyr 3 _ rfl).1
          have yz3 := (hyr 3 _ rfl).2
          have yb4 := (hyr 4 _ rfl).1
          have yz4 := (hyr 4 _ rfl).2
          have yb5 := (hyr 5 _ rfl).1
          have yz5 := (hyr 5 _ rfl).2
          have yb6 := (hyr 6 _ rfl).1
          have yz6 := (hyr 6 _ rfl).2
          have yb7 := (hyr 7 _ rfl).1
          have yz7 := (hyr 7 _ rfl).2
          have yb8 := (hyr 8 _ rfl).1
          have yz8 := (hyr 8 _ rfl).2
          go_wp2
          generalize hW9 : (((((((((W.setCell ⟨G, 0, none⟩ _).setCell ⟨G, 1, none⟩ _).setCell ⟨G, 2, none⟩ _).setCell ⟨G, 3, none⟩ _).setCell ⟨G, 4, none⟩ _).setCell ⟨G, 5, none⟩ _).setCell ⟨G, 6, none⟩ _).setCell ⟨G, 7, none⟩ _).setCell ⟨G, 8, none⟩ _) = W9
          obtain ⟨r9, c9, _⟩ := hyr.set9 rfl _ _ _ _ _ _ _ _ _ W9 hW9.symm
          exact ⟨rfl, hst W9 (by decide) (by decide) hdA G hvA rfl r9 c9 _, trivial, trivial⟩
        · have hdA : D 7 = true := hd 7 (by kernel_rfl)
          have hvM := hI.lds 3 (by decide) (hd 3 (by kernel_rfl))
          have hall := hI.all
          obtain ⟨g, h1, _⟩ := hall
          obtain ⟨hvA, _, _, ys, hyl, hyr, _⟩ := h1 7 (by decide) (by decide) hdA
          obtain ⟨y0, y1, y2, y3, y4, y5, y6, y7, y8, rfl⟩ := nine hyl
          obtain ⟨G, hG⟩ : ∃ G, g 7 = G := ⟨_, rfl⟩
          rw [hG] at hvA hyr
          have hst := fun W9 => hI.store (W9 := W9) 7
          clear h1 hd hc hI
          simp only [fillTo]
          go_simp
          have yb0 := (hyr 0 _ rfl).1
          have yz0 := (hyr 0 _ rfl).2
          have yb1 := (hyr 1 _ rfl).1
          have yz1 := (hyr 1 _ rfl).2
          have yb2 := (hyr 2 _ rfl).1
          have yz2 := (hyr 2 _ rfl).2
          have yb3 := (hyr 3 _ rfl).1
          have yz3 := (hyr 3 _ rfl).2
          have yb4 := (hyr 4 _ rfl).1
          have yz4 := (hyr 4 _ rfl).2
          have yb5 := (hyr 5 _ rfl).1
          have yz5 := (hyr 5 _ rfl).2
          have yb6 := (hyr 6 _ rfl).1
          have yz6 := (hyr 6 _ rfl).2
          have yb7 := (hyr 7 _ rfl).1
          have yz7 := (hyr 7 _ rfl).2
          have yb8 := (hyr 8 _ rfl).1
          have yz8 := (hyr 8 _ rfl).2
          go_wp2
          generalize hW9 : (((((((((W.setCell ⟨G, 0, none⟩ _).setCell ⟨G, 1, none⟩ _).setCell ⟨G, 2, none⟩ _).setCell ⟨G, 3, none⟩ _).setCell ⟨G, 4, none⟩ _).setCell ⟨G, 5, none⟩ _).setCell ⟨G, 6, none⟩ _).setCell ⟨G, 7, none⟩ _).setCell ⟨G, 8, none⟩ _) = W9
          obtain ⟨r9, c9, _⟩ := hyr.set9 rfl _ _ _ _ _ _ _ _ _ W9 hW9.symm
          exact ⟨rfl, hst W9 (by decide) (by decide) hdA G hvA rfl r9 c9 _, trivial, trivial⟩
      case hend =>
        intro vals W hI
        have hall := hI.all
        obtain ⟨g, h1, h2⟩ := hall
        obtain ⟨v4, l4, _, y4, n4, r4, e4⟩ := h1 4 (by decide) (by decide) rfl
        obtain ⟨v5, l5, _, y5, n5, r5, e5⟩ := h1 5 (by decide) (by decide) rfl
        obtain ⟨v6, l6, _, y6, n6, r6, e6⟩ := h1 6 (by decide) (by decide) rfl
        obtain ⟨v7, l7, _, y7, n7, r7, e7⟩ := h1 7 (by decide) (by decide) rfl
        rw [e4 rfl] at r4
        rw [e5 rfl] at r5
        rw [e6 rfl] at r6
        rw [e7 rfl] at r7
        have hsz := hb5.size
        have hcutK : CutK w p ⟨k, e, 0, l', la, 0, 0, [], tx⟩ (vals 4) (vals 5) (vals 6) (vals 7) W := ⟨g 4, g 5, g 6, g 7, v4, v5, v6, v7, by omega, by omega, by omega, by omega, h2 4 5 (by decide) (by decide) (by decide) (by decide) rfl rfl (by decide), h2 4 6 (by decide) (by decide) (by decide) (by decide) rfl rfl (by decide), h2 4 7 (by decide) (by decide) (by decide) (by decide) rfl rfl (by decide), h2 5 6 (by decide) (by decide) (by decide) (by decide) rfl rfl (by decide), h2 5 7 (by decide) (by decide) (by decide) (by decide) rfl rfl (by decide), h2 6 7 (by decide) (by decide) (by decide) (by decide) rfl rfl (by decide), r4, r5, r6, r7, below_tr hb5 hI.bel⟩
        clear h1 h2 v4 v5 v6 v7 hI
        simp only [List.size_toArray, List.length_cons, List.length_nil, Nat.reduceAdd, fillTo]
        go_simp
        clear n4 n5 n6 n7 e4 e5 e6 e7 r4 r5 r6 r7 l4 l5 l6 l7 hsz
        go_wp2
        go_meet
        case rel => exact hcutK
    case rest =>
      obtain ⟨a, b, c, d, rfl, rfl, rfl, rfl, la0, lb0, lc0, ld0, hab, hac, had, hbc, hbd, hcd, ra, rb, rc, rd, hbx⟩ := hcut
      clear hx4 hb5
      simp only [hdm] at ra rb rc rd
      rw [show ((0 : Nat) : Int) = 0 from rfl] at ra rb rc rd
      have hA := Chg.alloc (fun _ => False) wc (.cells #[.string { data := #[114] }] 9)
      obtain ⟨h, hh⟩ : ∃ h, Hid (h = wc.heap.size) := ⟨_, Lib.hid rfl⟩
      have ra' := ra.keep hA (fun x => x)
      have rb' := rb.keep hA (fun x => x)
      have rc' := rc.keep hA (fun x => x)
      have rd' := rd.keep hA (fun x => x)
      have hrs : RowS (wc.alloc (.cells #[.string { data := #[114] }] 9)) (some ⟨h, 0, none⟩) [{ data := #[114] }] := by
        rw [hh.out]
        refine ⟨.inr ⟨_, rfl, fun i r hr => ?_⟩⟩
        match i, hr with
        | 0, hr => simp at hr; subst hr; simp [Addr.add]
        | i + 1, hr => simp at hr
      have hbA : Below w.heap.size w (wc.alloc (.cells #[.string { data := #[114] }] 9)) := below_tr hbx ((Below.refl _ _).alloc (Nat.le_refl _) _)
      have lha : a ≠ h := by rw [hh.out]; exact Nat.ne_of_lt (ra.lt (by simp))
      have lhb : b ≠ h := by rw [hh.out]; exact Nat.ne_of_lt (rb.lt (by simp))
      have lhc : c ≠ h := by rw [hh.out]; exact Nat.ne_of_lt (rc.lt (by simp))
      have lhd : d ≠ h := by rw [hh.out]; exact Nat.ne_of_lt (rd.lt (by simp))
      have a7 := (ra' 7 _ rfl).1
      have az7 := (ra' 7 _ rfl).2
      have a7o := (ra 7 _ rfl).1
      have az7o := (ra 7 _ rfl).2
      clear ra rb rc rd hA hbx
      go_upto_region 14 with (fail)
      rw [← hh.out]
      have hcs := Chg.setCell (wc.alloc (.cells #[.string { data := #[114] }] 9)) ⟨a, 7, none⟩ (.slice (some ⟨h, 0, none⟩) 1 1)
      have ra1 : RowV ((wc.alloc (.cells #[.string { data := #[114] }] 9)).setCell ⟨a, 7, none⟩ (.slice (some ⟨h, 0, none⟩) 1 1)) a [.int .i64 (k : Nat), .int .i64 (e : Nat), .int .i64 0, .int .i64 l', .int .i64 la, .int .i64 0, .int .u32 0, .slice (some ⟨h, 0, none⟩) 1 1, .string tx] := ra'.set 7 (by simp) _
      have rb1 := rb'.keep hcs (fun e => hab e.symm)
      have rc1 := rc'.keep hcs (fun e => hac e.symm)
      have rd1 := rd'.keep hcs (fun e => had e.symm)
      have rs1 : RowS ((wc.alloc (.cells #[.string { data := #[114] }] 9)).setCell ⟨a, 7, none⟩ (.slice (some ⟨h, 0, none⟩) 1 1)) (some ⟨h, 0, none⟩) [{ data := #[114] }] := hrs.keepF hcs (fun x hx e => lha (by cases hx; exact e.symm))
      have bl1 := Chg.below_tr hbA hcs (fun k hk e => by simp only at e; omega)
      obtain ⟨W1, hW1⟩ : ∃ W1, Hid (W1 = (wc.alloc (.cells #[.string { data := #[114] }] 9)).setCell ⟨a, 7, none⟩ (.slice (some ⟨h, 0, none⟩) 1 1)) := ⟨_, Lib.hid rfl⟩
      rw [← hW1.out] at ra1 rb1 rc1 rd1 rs1 bl1 ⊢
      clear hcs ra' rb' rc' rd' hrs hbA a7 az7 a7o az7o hW1 hh
      have b8 := (rb1 8 _ rfl).1
      have bz8 := (rb1 8 _ rfl).2
      have b4 := (rb1 4 _ rfl).1
      have bz4 := (rb1 4 _ rfl).2
      go_upto_region 15 with (fail)
      have hcs := (Chg.setCell W1 ⟨b, 8, none⟩ (.string { data := #[120, 121] })).trans (Chg.setCell _ ⟨b, 4, none⟩ (.int .i64 2)) (fun _ _ x => x)
      have rb2 : RowV ((W1.setCell ⟨b, 8, none⟩ (.string { data := #[120, 121] })).setCell ⟨b, 4, none⟩ (.int .i64 2)) b [.int .i64 (k : Nat), .int .i64 (e : Nat), .int .i64 0, .int .i64 l', .int .i64 2, .int .i64 0, .int .u32 0, .slice none 0 0, .string { data := #[120, 121] }] := (rb1.set 8 (by simp) _).set 4 (by simp) _
      have ra2 := ra1.keep hcs (fun e => hab e)
      have rc2 := rc1.keep hcs (fun e => hbc e.symm)
      have rd2 := rd1.keep hcs (fun e => hbd e.symm)
      have rs2 := rs1.keepF hcs (fun x hx e => lhb (by cases hx; exact e.symm))
      have bl2 := Chg.below_tr bl1 hcs (fun k hk e => by simp only at e; omega)
      obtain ⟨W2', hW2⟩ : ∃ W2', Hid (W2' = (W1.setCell ⟨b, 8, none⟩ (.string { data := #[120, 121] })).setCell ⟨b, 4, none⟩ (.int .i64 2)) := ⟨_, Lib.hid rfl⟩
      rw [← hW2.out] at ra2 rb2 rc2 rd2 rs2 bl2 ⊢
      clear hcs ra1 rb1 rc1 rd1 rs1 bl1 hW2 b8 bz8 b4 bz4
      have c2 := (rc2 2 _ rfl).1
      have cz2 := (rc2 2 _ rfl).2
      go_upto_region 16 with (fail)
      have hcs := Chg.setCell W2' ⟨c, 2, none⟩ (.int .i64 1)
      have rc3 : RowV (W2'.setCell ⟨c, 2, none⟩ (.int .i64 1)) c [.int .i64 (k : Nat), .int .i64 (e : Nat), .int .i64 1, .int .i64 l', .int .i64 la, .int .i64 0, .int .u32 0, .slice none 0 0, .string tx] := rc2.set 2 (by simp) _
      have ra3 := ra2.keep hcs (fun e => hac e)
      have rb3 := rb2.keep hcs (fun e => hbc e)
      have rd3 := rd2.keep hcs (fun e => hcd e.symm)
      have rs3 := rs2.keepF hcs (fun x hx e => lhc (by cases hx; exact e.symm))
      have bl3 := Chg.below_tr bl2 hcs (fun k hk e => by simp only at e; omega)
      obtain ⟨W3, hW3⟩ : ∃ W3, Hid (W3 = W2'.setCell ⟨c, 2, none⟩ (.int .i64 1)) := ⟨_, Lib.hid rfl⟩
      rw [← hW3.out] at ra3 rb3 rc3 rd3 rs3 bl3 ⊢
      clear hcs ra2 rb2 rc2 rd2 rs2 bl2 hW3 c2 cz2
      have d1 := (rd3 1 _ rfl).1
      have dz1 := (rd3 1 _ rfl).2
      go_upto_region 17 with (fail)
      have hcs := Chg.setCell W3 ⟨d, 1, none⟩ (.int .i64 0)
      have rd4 : RowV (W3.setCell ⟨d, 1, none⟩ (.int .i64 0)) d [.int .i64 (k : Nat), .int .i64 0, .int .i64 0, .int .i64 l', .int .i64 la, .int .i64 0, .int .u32 0, .slice none 0 0, .string tx] := rd3.set 1 (by simp) _
      have ra4 := ra3.keep hcs (fun e => had e)
      have rb4 := rb3.keep hcs (fun e => hbd e)
      have rc4 := rc3.keep hcs (fun e => hcd e)
      have rs4 := rs3.keepF hcs (fun x hx e => lhd (by cases hx; exact e.symm))
      have bl4 := Chg.below_tr bl3 hcs (fun k hk e => by simp only at e; omega)
      obtain ⟨W4, hW4⟩ : ∃ W4, Hid (W4 = W3.setCell ⟨d, 1, none⟩ (.int .i64 0)) := ⟨_, Lib.hid rfl⟩
      rw [← hW4.out] at ra4 rb4 rc4 rd4 rs4 bl4 ⊢
      clear hcs ra3 rb3 rc3 rd3 rs3 bl3 hW4 d1 dz1
      obtain ⟨XA, hXA⟩ : ∃ X, Hid (chk (mKa k e l) = X) := ⟨_, Lib.hid rfl⟩
      obtain ⟨XB, hXB⟩ : ∃ X, Hid (chk (mKb k e l) = X) := ⟨_, Lib.hid rfl⟩
      obtain ⟨XC, hXC⟩ : ∃ X, Hid (chk (mKc k e l) = X) := ⟨_, Lib.hid rfl⟩
      have w1' := wfn 1 (by omega) (by omega)
      have w2' := wfn 2 (by omega) (by omega)
      have ema : mKa k e l = ⟨k, e, 0, l', la, 0, 0, [{ data := #[114] }], tx⟩ := by unfold mKa; rw [hm]
      have emb : mKb k e l = ⟨k, e, 0, l', 2, 0, 0, [], { data := #[120, 121] }⟩ := by unfold mKb; rw [hm]
      have emc : mKc k e l = ⟨k, e, 1, l', la, 0, 0, [], tx⟩ := by unfold mKc; rw [hm]
      have emd : mKd k e l = ⟨k, 0, 0, l', la, 0, 0, [], tx⟩ := by unfold mKd; rw [hm]
      have CA := fun W h' => wcheck_any (mKa k e l) (by rw [ema]; exact ⟨wk, we, w0, wl, wa, w0⟩) (some ⟨h, 0, none⟩) 1 1 (by rw [ema]; rfl) (by omega) W h'
      have CB := fun W => wcheck_any (mKb k e l) (by rw [emb]; exact ⟨wk, we, w0, wl, w2', w0⟩) none 0 0 (by rw [emb]; rfl) (by omega) W ⟨.inl (by rw [emb])⟩
      have CC := fun W => wcheck_any (mKc k e l) (by rw [emc]; exact ⟨wk, we, w1', wl, wa, w0⟩) none 0 0 (by rw [emc]; rfl) (by omega) W ⟨.inl (by rw [emc])⟩
      have CD := fun W => wcheck_any (mKd k e l) (by rw [emd]; exact ⟨wk, w0, w0, wl, wa, w0⟩) none 0 0 (by rw [emd]; rfl) (by omega) W ⟨.inl (by rw [emd])⟩
      rw [hXA.out] at CA
      rw [hXB.out] at CB
      rw [hXC.out] at CC
      rw [chk_mKd hk1] at CD
      rw [ema] at CA
      rw [emb] at CB
      rw [emc] at CC
      rw [emd] at CD
      unfold msgV at CA CB CC CD
      simp only at CA CB CC CD
      rw [show ((0 : Nat) : Int) = 0 from rfl] at CA CB CC CD
      rw [show ((3 : Nat) : Int) = 3 from rfl] at CD
      rw [chk_mKa hk1 he1 hl1] at hXA
      rw [chk_mKb hk1 he1 hl1] at hXB
      rw [chk_mKc hk1 he1 hl1] at hXC
      have ya0 := (ra4 0 _ rfl).1
      have ya1 := (ra4 1 _ rfl).1
      have ya2 := (ra4 2 _ rfl).1
      have ya3 := (ra4 3 _ rfl).1
      have ya4 := (ra4 4 _ rfl).1
      have ya5 := (ra4 5 _ rfl).1
      have ya6 := (ra4 6 _ rfl).1
      have ya7 := (ra4 7 _ rfl).1
      have ya8 := (ra4 8 _ rfl).1
      clear ema emb emc emd hm
      go_upto_region 18 with (go_at_call 39; refine (CA _ rs4).mono ?_; rintro y w5 ⟨rfl, hb5⟩)
      have rb5 := rb4.below hb5
      clear CA ya0 ya1 ya2 ya3 ya4 ya5 ya6 ya7 ya8
      have yb0 := (rb5 0 _ rfl).1
      have yb1 := (rb5 1 _ rfl).1
      have yb2 := (rb5 2 _ rfl).1
      have yb3 := (rb5 3 _ rfl).1
      have yb4 := (rb5 4 _ rfl).1
      have yb5 := (rb5 5 _ rfl).1
      have yb6 := (rb5 6 _ rfl).1
      have yb7 := (rb5 7 _ rfl).1
      have yb8 := (rb5 8 _ rfl).1
      go_upto_region 19 with (go_at_call 39; refine (CB _).mono ?_; rintro y w6 ⟨rfl, hb6⟩)
      have hb56 := below_tr hb5 hb6
      have rc6 := rc4.below hb56
      clear CB yb0 yb1 yb2 yb3 yb4 yb5 yb6 yb7 yb8 rb5
      have yc0 := (rc6 0 _ rfl).1
      have yc1 := (rc6 1 _ rfl).1
      have yc2 := (rc6 2 _ rfl).1
      have yc3 := (rc6 3 _ rfl).1
      have yc4 := (rc6 4 _ rfl).1
      have yc5 := (rc6 5 _ rfl).1
      have yc6 := (rc6 6 _ rfl).1
      have yc7 := (rc6 7 _ rfl).1
      have yc8 := (rc6 8 _ rfl).1
      go_upto_region 20 with (go_at_call 39; refine (CC _).mono ?_; rintro y w7 ⟨rfl, hb7⟩)
      have hb57 := below_tr hb56 hb7
      have rd7 := rd4.below hb57
      clear CC yc0 yc1 yc2 yc3 yc4 yc5 yc6 yc7 yc8 rc6
      have yd0 := (rd7 0 _ rfl).1
      have yd1 := (rd7 1 _ rfl).1
      have yd2 := (rd7 2 _ rfl).1
      have yd3 := (rd7 3 _ rfl).1
      have yd4 := (rd7 4 _ rfl).1
      have yd5 := (rd7 5 _ rfl).1
      have yd6 := (rd7 6 _ rfl).1
      have yd7 := (rd7 7 _ rfl).1
      have yd8 := (rd7 8 _ rfl).1
      rcases (by omega : k = 1 ∨ k = 2 ∨ k = 3 ∨ k = 4 ∨ k = 5) with hk | hk | hk | hk | hk
      · have q2 : ((k : Int) == 2) = false := by rw [hk]; rfl
        have q4 : ((k : Int) == 4) = false := by rw [hk]; rfl
        have q1 : ((k : Int) == 1) = true := by rw [hk]; rfl
        have q3 : ((k : Int) == 3) = false := by rw [hk]; rfl
        have p1 : ((k : Int) != 1) = false := by rw [hk]; rfl
        have p3 : ((k : Int) != 3) = true := by rw [hk]; rfl
        have rA : ((XA : Int) == 0) = false := by rw [← hXA.out, hk]; rfl
        have rB : ((XB : Int) == 0) = false := by rw [← hXB.out, hk]; rfl
        have rC : ((XC : Int) == 0) = false := by rw [← hXC.out, hk]; rfl
        clear hk
        go_wp2_with (go_at_call 39; refine (CD _).mono ?_; rintro y w8 ⟨rfl, hb8⟩)
        go_ret
        exact ⟨rfl, below_tr (below_tr bl4 hb57) hb8⟩
      · have q2 : ((k : Int) == 2) = true := by rw [hk]; rfl
        have q4 : ((k : Int) == 4) = false := by rw [hk]; rfl
        have q1 : ((k : Int) == 1) = false := by rw [hk]; rfl
        have q3 : ((k : Int) == 3) = false := by rw [hk]; rfl
        have p1 : ((k : Int) != 1) = true := by rw [hk]; rfl
        have p3 : ((k : Int) != 3) = true := by rw [hk]; rfl
        have rA : ((XA : Int) == 0) = true := by rw [← hXA.out, hk]; rfl
        have rB : ((XB : Int) == 0) = false := by rw [← hXB.out, hk]; rfl
        have rC : ((XC : Int) == 0) = true := by rw [← hXC.out, hk]; rfl
        clear hk
        go_wp2_with (go_at_call 39; refine (CD _).mono ?_; rintro y w8 ⟨rfl, hb8⟩)
        go_ret
        exact ⟨rfl, below_tr (below_tr bl4 hb57) hb8⟩
      · have q2 : ((k : Int) == 2) = false := by rw [hk]; rfl
        have q4 : ((k : Int) == 4) = false := by rw [hk]; rfl
        have q1 : ((k : Int) == 1) = false := by rw [hk]; rfl
        have q3 : ((k : Int) == 3) = true := by rw [hk]; rfl
        have p1 : ((k : Int) != 1) = true := by rw [hk]; rfl
        have p3 : ((k : Int) != 3) = false := by rw [hk]; rfl
        have rA : ((XA : Int) == 0) = false := by rw [← hXA.out, hk]; rfl
        have rB : ((XB : Int) == 0) = false := by rw [← hXB.out, hk]; rfl
        have rC : ((XC : Int) == 0) = false := by rw [← hXC.out, hk]; rfl
        clear hk
        go_wp2_with (go_at_call 39; refine (CD _).mono ?_; rintro y w8 ⟨rfl, hb8⟩)
        go_ret
        exact ⟨rfl, below_tr (below_tr bl4 hb57) hb8⟩
      · have q2 : ((k : Int) == 2) = false := by rw [hk]; rfl
        have q4 : ((k : Int) == 4) = true := by rw [hk]; rfl
        have q1 : ((k : Int) == 1) = false := by rw [hk]; rfl
        have q3 : ((k : Int) == 3) = false := by rw [hk]; rfl
        have p1 : ((k : Int) != 1) = true := by rw [hk]; rfl
        have p3 : ((k : Int) != 3) = true := by rw [hk]; rfl
        have rA : ((XA : Int) == 0) = false := by rw [← hXA.out, hk]; rfl
        have rB : ((XB : Int) == 0) = true := by rw [← hXB.out, hk]; rfl
        have rC : ((XC : Int) == 0) = true := by rw [← hXC.out, hk]; rfl
        clear hk
        go_wp2_with (go_at_call 39; refine (CD _).mono ?_; rintro y w8 ⟨rfl, hb8⟩)
        go_ret
        exact ⟨rfl, below_tr (below_tr bl4 hb57) hb8⟩
      · have q2 : ((k : Int) == 2) = false := by rw [hk]; rfl
        have q4 : ((k : Int) == 4) = false := by rw [hk]; rfl
        have q1 : ((k : Int) == 1) = false := by rw [hk]; rfl
        have q3 : ((k : Int) == 3) = false := by rw [hk]; rfl
        have p1 : ((k : Int) != 1) = true := by rw [hk]; rfl
        have p3 : ((k : Int) != 3) = true := by rw [hk]; rfl
        have rA : ((XA : Int) == 0) = false := by rw [← hXA.out, hk]; rfl
        have rB : ((XB : Int) == 0) = false := by rw [← hXB.out, hk]; rfl
        have rC : ((XC : Int) == 0) = true := by rw [← hXC.out, hk]; rfl
        clear hk
        go_wp2_with (go_at_call 39; refine (CD _).mono ?_; rintro y w8 ⟨rfl, hb8⟩)
        go_ret
        exact ⟨rfl, below_tr (below_tr bl4 hb57) hb8⟩
end Go.Proofs.Ytmaebileagfdaaa
