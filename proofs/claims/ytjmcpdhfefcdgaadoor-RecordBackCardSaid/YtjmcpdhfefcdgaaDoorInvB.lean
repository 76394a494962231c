/- A drawn region that reads and calls, and writes to a builder at last. -/
import Derived.Test.YtjmcpdhfefcdgaaDoorBld
import Derived.Test.YtjmcpdhfefcdgaaDoorDetI
import Derived.Test.YtjmcpdhfefcdgaaDoorCopy
namespace Go.Proofs.YtjmcpdhfefcdgaaDoor
open Go.RowKit

/-- Whatever is ahead of the last one: it is done where the last one is done. -/
theorem invLast (H : Nat → Nat → Bool) (p : List Nat) (last : Nat) (hp : ((List.range last).all fun i => decide (i < p.getD i 0) && decide (p.getD i 0 ≤ last) && H (p.getD i 0) i) = true) (D : Nat → Bool) (hc : ∀ j k, D j = true → H j k = true → D k = true) (i : Nat) (hi : i < last) (hD : D i = false) : D last = false := by
  cases h : D last with
  | false => rfl
  | true =>
    exfalso
    have key : ∀ k i, last - i ≤ k → i ≤ last → D i = true := by
      intro k
      induction k with
      | zero => intro i h1 h2; rw [show i = last from by omega]; exact h
      | succ k ih =>
        intro i h1 h2
        rcases Nat.lt_or_ge i last with h3 | h3
        · have h4 := List.all_eq_true.mp hp i (List.mem_range.mpr h3)
          simp only [Bool.and_eq_true, decide_eq_true_eq] at h4
          exact hc _ _ (ih (p.getD i 0) (by omega) h4.1.2) h4.2
        · rw [show i = last from by omega]; exact h
    rw [key _ i (Nat.le_refl _) (by omega)] at hD
    cases hD
/-- Where the region stands: what is done, what it yielded, the world. -/
structure InvB (b q : Nat) (W3 : World) (L T : List UInt8) (row : List Value) (vs : List Value) (D : Nat → Bool) (vals : Nat → Value) (W : World) : Prop where
  bel : Below b W3 W
  size : b ≤ W.heap.size
  row : D vs.length = false → RowV W q row ∧ BldB b b L W
  fin : D vs.length = true → BldB b b (L ++ T) W
  val : ∀ i, i < vs.length → D i = true → vals i = vs.getD i undef
theorem InvB.step {b q : Nat} {W3 : World} {L T : List UInt8} {row vs : List Value} {D : Nat → Bool} {vals : Nat → Value} {W W' : World} (h : InvB b q W3 L T row vs D vals W) (h7 : D vs.length = false) (i : Nat) (hi : i < vs.length) (v : Value) (hg : Below W.heap.size W W')
    (hv : v = vs.getD i undef) : InvB b q W3 L T row vs (fun j => j == i || D j) (upd vals i v) W' := by
  obtain ⟨r1, r2⟩ := h.row h7
  have hk7 : (vs.length == i || D vs.length) = false := by rw [h7, Bool.or_false]; simp; omega
  refine ⟨h.bel.trans (hg.mono h.size), Nat.le_trans h.size hg.size, fun _ => ⟨r1.below hg, r2.below hg⟩, (fun e => by rw [hk7] at e; cases e), fun j hj e => ?_⟩
  unfold upd
  split
  · rename_i hj; subst hj; exact hv
  · rename_i hn
    have h1 : (j == i) = false := by simpa using hn
    simp only [h1, Bool.false_or] at e
    exact h.val j hj e
theorem InvB.last {b q : Nat} {W3 : World} {L T : List UInt8} {row vs : List Value} {D : Nat → Bool} {vals : Nat → Value} {W W' : World} (h : InvB b q W3 L T row vs D vals W) (v : Value) (hg : Below b W W') (hB : BldB b b (L ++ T) W') :
    InvB b q W3 L T row vs (fun j => j == vs.length || D j) (upd vals vs.length v) W' := by
  refine ⟨h.bel.trans hg, Nat.le_trans h.size hg.size, (fun e => by simp at e), (fun _ => hB), fun j hj e => ?_⟩
  have h1 : (j == vs.length) = false := by simp; omega
  simp only [h1, Bool.false_or] at e
  unfold upd
  rw [if_neg (by omega)]
  exact h.val j hj e
end Go.Proofs.YtjmcpdhfefcdgaaDoor
