/- Where the region stands that puts a pair at its place. -/
import Derived.Test.YtlddedddcdhjnaaDoorLx
import Derived.Test.YtlddedddcdhjnaaDoorLz
import Derived.Test.YtlddedddcdhjnaaDoorDetI
namespace Go.Proofs.YtlddedddcdhjnaaDoor
open Go.RowKit Lb Dig

theorem OwnP.below {w w' : World} {B : Nat} {l : List Pr} {v : Value} (h : OwnP w B l v) (hb : Below w.heap.size w w') : OwnP w' B l v := by
  obtain ⟨a, n, c, h1, h2, h3, h4, h5, h6⟩ := h.ex
  exact ⟨a, n, c, h1, h2, h3.below hb, h4, (Chg.of_below (fun _ => False) hb).owns h5 (fun _ _ x => x), h6⟩
def puG (i : Nat) : Bool := i != 3 && i != 7 && i != 8 && i != 12 && i != 13
/-- Where the region stands: 3 a copy of the front, 7 the pair, 8 and 12 the appends, 13 the result; the others only read. -/
structure InvG (w0 : World) (pv : Nat → Value) (L1 L2 L3 : List Pr) (p : Pr) (D : Nat → Bool) (vals : Nat → Value) (W : World) : Prop where
  bel : Below w0.heap.size w0 W
  pur : ∀ i, puG i = true → D i = true → vals i = pv i
  own3 : D 3 = true → D 8 = false → OwnP W w0.heap.size L1 (vals 3)
  one7 : D 7 = true → D 8 = false → ∃ q, vals 7 = .slice (some ⟨q, 0, none⟩) 1 1 ∧ RowQ W (some ⟨q, 0, none⟩) [p]
  own8 : D 8 = true → D 12 = false → OwnP W w0.heap.size L2 (vals 8)
  own12 : D 12 = true → OwnP W w0.heap.size L3 (vals 12)
  e13 : D 13 = true → vals 13 = vals 12
theorem orG {i j : Nat} {b : Bool} (h : (j == i || b) = true) (hn : j ≠ i) : b = true := by
  have : (j == i) = false := by simpa using hn
  rw [this, Bool.false_or] at h; exact h
theorem orF {i j : Nat} {b : Bool} (h : (j == i || b) = false) : b = false := by
  cases b with
  | false => rfl
  | true => simp at h
theorem updG {vals : Nat → Value} {i j : Nat} {v : Value} (h : j ≠ i) : upd vals i v j = vals j := by unfold upd; rw [if_neg h]
theorem updS {vals : Nat → Value} {i : Nat} {v : Value} : upd vals i v i = v := by unfold upd; rw [if_pos rfl]
section
variable {w0 : World} {pv : Nat → Value} {L1 L2 L3 : List Pr} {p : Pr} {D : Nat → Bool} {vals : Nat → Value} {W W' : World}
theorem InvG.pure (h : InvG w0 pv L1 L2 L3 p D vals W) (i : Nat) (hi : puG i = true) (v : Value) (hv : v = pv i) : InvG w0 pv L1 L2 L3 p (fun j => j == i || D j) (upd vals i v) W := by
  have hne : ∀ k, puG k = false → k ≠ i := fun k hk e => by rw [e, hi] at hk; cases hk
  have n3 := hne 3 rfl
  have n7 := hne 7 rfl
  have n8 := hne 8 rfl
  have n12 := hne 12 rfl
  have n13 := hne 13 rfl
  refine ⟨h.bel, fun j hj hd => ?_, fun a b => ?_, fun a b => ?_, fun a b => ?_, fun a => ?_, fun a => ?_⟩
  · by_cases e : j = i
    · subst e; rw [updS]; exact hv
    · rw [updG e]; exact h.pur j hj (orG hd e)
  · rw [updG n3]; exact h.own3 (orG a n3) (orF b)
  · rw [updG n7]; exact h.one7 (orG a n7) (orF b)
  · rw [updG n8]; exact h.own8 (orG a n8) (orF b)
  · rw [updG n12]; exact h.own12 (orG a n12)
  · rw [updG n13, updG n12]; exact h.e13 (orG a n13)
theorem InvG.step3 (h : InvG w0 pv L1 L2 L3 p D vals W) (h8 : D 8 = false) (h12 : D 12 = false) (h13 : D 13 = false) (v : Value) (hb : Below W.heap.size W W') (ho : OwnP W' W.heap.size L1 v) : InvG w0 pv L1 L2 L3 p (fun j => j == 3 || D j) (upd vals 3 v) W' := by
  have hs := h.bel.size
  refine ⟨below_tr h.bel hb, fun j hj hd => ?_, fun a b => ?_, fun a b => ?_, fun a b => ?_, fun a => ?_, fun a => ?_⟩
  · have e : j ≠ 3 := fun e => by rw [e] at hj; cases hj
    rw [updG e]; exact h.pur j hj (orG hd e)
  · rw [updS]
    obtain ⟨x1, x2, x3, g1, g2, g3, g4, g5, g6⟩ := ho.ex
    exact ⟨x1, x2, x3, g1, g2, g3, g4, g5, fun g hg => Nat.le_trans hs (g6 g hg)⟩
  · rw [updG (by decide)]
    obtain ⟨q, q1, q2⟩ := h.one7 (orG a (by decide)) h8
    exact ⟨q, q1, q2.below hb⟩
  · have := orG a (by decide); rw [h8] at this; cases this
  · have := orG a (by decide); rw [h12] at this; cases this
  · have := orG a (by decide); rw [h13] at this; cases this
theorem InvG.step7 (h : InvG w0 pv L1 L2 L3 p D vals W) (h8 : D 8 = false) (h12 : D 12 = false) (h13 : D 13 = false) (q : Nat) (v : Value) (hv : v = .slice (some ⟨q, 0, none⟩) 1 1) (hb : Below W.heap.size W W') (ho : RowQ W' (some ⟨q, 0, none⟩) [p]) : InvG w0 pv L1 L2 L3 p (fun j => j == 7 || D j) (upd vals 7 v) W' := by
  refine ⟨below_tr h.bel hb, fun j hj hd => ?_, fun a b => ?_, fun a b => ?_, fun a b => ?_, fun a => ?_, fun a => ?_⟩
  · have e : j ≠ 7 := fun e => by rw [e] at hj; cases hj
    rw [updG e]; exact h.pur j hj (orG hd e)
  · rw [updG (by decide)]
    exact (h.own3 (orG a (by decide)) h8).below hb
  · rw [updS]; exact ⟨q, hv, ho⟩
  · have := orG a (by decide); rw [h8] at this; cases this
  · have := orG a (by decide); rw [h12] at this; cases this
  · have := orG a (by decide); rw [h13] at this; cases this
theorem InvG.step8 (h : InvG w0 pv L1 L2 L3 p D vals W) (h12 : D 12 = false) (h13 : D 13 = false) (v : Value) (hb : Below w0.heap.size w0 W') (ho : OwnP W' w0.heap.size L2 v) : InvG w0 pv L1 L2 L3 p (fun j => j == 8 || D j) (upd vals 8 v) W' := by
  refine ⟨hb, fun j hj hd => ?_, fun a b => ?_, fun a b => ?_, fun a b => ?_, fun a => ?_, fun a => ?_⟩
  · have e : j ≠ 8 := fun e => by rw [e] at hj; cases hj
    rw [updG e]; exact h.pur j hj (orG hd e)
  · simp at b
  · simp at b
  · rw [updS]; exact ho
  · have := orG a (by decide); rw [h12] at this; cases this
  · have := orG a (by decide); rw [h13] at this; cases this
theorem InvG.step12 (h : InvG w0 pv L1 L2 L3 p D vals W) (h8 : D 8 = true) (h13 : D 13 = false) (v : Value) (hb : Below w0.heap.size w0 W') (ho : OwnP W' w0.heap.size L3 v) : InvG w0 pv L1 L2 L3 p (fun j => j == 12 || D j) (upd vals 12 v) W' := by
  refine ⟨hb, fun j hj hd => ?_, fun a b => ?_, fun a b => ?_, fun a b => ?_, fun a => ?_, fun a => ?_⟩
  · have e : j ≠ 12 := fun e => by rw [e] at hj; cases hj
    rw [updG e]; exact h.pur j hj (orG hd e)
  · have := orF b; rw [h8] at this; cases this
  · have := orF b; rw [h8] at this; cases this
  · simp at b
  · rw [updS]; exact ho
  · have := orG a (by decide); rw [h13] at this; cases this
theorem InvG.step13 (h : InvG w0 pv L1 L2 L3 p D vals W) (h12 : D 12 = true) (v : Value) (hv : v = vals 12) : InvG w0 pv L1 L2 L3 p (fun j => j == 13 || D j) (upd vals 13 v) W := by
  refine ⟨h.bel, fun j hj hd => ?_, fun a b => ?_, fun a b => ?_, fun a b => ?_, fun a => ?_, fun a => ?_⟩
  · have e : j ≠ 13 := fun e => by rw [e] at hj; cases hj
    rw [updG e]; exact h.pur j hj (orG hd e)
  · rw [updG (by decide)]; exact h.own3 (orG a (by decide)) (orF b)
  · rw [updG (by decide)]; exact h.one7 (orG a (by decide)) (orF b)
  · have := orF b; rw [h12] at this; cases this
  · rw [updG (by decide)]; exact h.own12 h12
  · rw [updS, updG (by decide)]; exact hv
end
end Go.Proofs.YtlddedddcdhjnaaDoor
