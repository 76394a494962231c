/- The laws of the writers of bits. -/
import Derived.Test.YtdegmeclcbndgaaDoorBitG
import Derived.Test.YtdegmeclcbndgaaDoorSlice
import Derived.Test.YtdegmeclcbndgaaDoorDet
import Derived.StillTailTactics
namespace Go.Proofs.YtdegmeclcbndgaaDoor
open Go.RowKit Bit

theorem owns_lt {w : World} {base : Nat} {e : TypeId} {size : Nat} {v : Value} {n : Nat} {xs : List Value} (h : w.ownsRow base e size v n xs) {g : Nat} (hg : v.ownBlock = some g) : g < w.heap.size := by
  rcases h.2 with ⟨rfl, _⟩ | ⟨g', cap, cur, rfl, _, hgg, _⟩
  · simp [Value.ownBlock] at hg
  · have e : g' = g := by simpa [Value.ownBlock] using hg
    subst e
    rcases Nat.lt_or_ge g' w.heap.size with h' | h'
    · exact h'
    · simp [Array.getElem?_eq_none h'] at hgg

/-- Both writers, apart from each other, above a line. -/
structure Both (w : World) (B p q : Nat) (v u : Value) (L : List Bool) : Prop where
  w1 : WInv w p v (pack L) L.length
  w2 : RInv w q u L
  bp : B ≤ p
  bq : B ≤ q
  pq : p ≠ q
  bv : ∀ g, v.ownBlock = some g → B ≤ g ∧ g ≠ q ∧ u.ownBlock ≠ some g
  bu : ∀ g, u.ownBlock = some g → B ≤ g ∧ g ≠ p ∧ v.ownBlock ≠ some g

theorem Both.keep {w w' : World} {B p q : Nat} {v u : Value} {L : List Bool} {F : Nat → Prop} (h : Both w B p q v u L) (hc : Chg F w w') (hf : ∀ k, F k → k < B) : Both w' B p q v u L := by
  refine ⟨h.w1.keep hc ?_, h.w2.keep hc ?_, h.bp, h.bq, h.pq, h.bv, h.bu⟩
  · rintro k (rfl | hk) hF
    · have := hf _ hF; have := h.bp; omega
    · have := hf _ hF; have := (h.bv k hk).1; omega
  · rintro k (rfl | hk) hF
    · have := hf _ hF; have := h.bq; omega
    · have := hf _ hF; have := (h.bu k hk).1; omega

theorem Both.mid {w w' : World} {B p q : Nat} {v u : Value} {L : List Bool} (h : Both w B p q v u L) (hc : Chg (fpW p v) w w') : RInv w' q u L := by
  refine h.w2.keep hc ?_
  rintro k (rfl | hk) (hF | hF)
  · exact h.pq hF.symm
  · exact (h.bv _ hF).2.1 rfl
  · exact (h.bu k hk).2.1 hF
  · exact (h.bv k hF).2.2 hk

theorem Both.notp {w : World} {B p q : Nat} {v u : Value} {L : List Bool} (h : Both w B p q v u L) (k : Nat) (hk : k < B) : ¬ fpW p v k := by
  rintro (rfl | hf)
  · have := h.bp; omega
  · have := (h.bv k hf).1; omega
theorem Both.notq {w : World} {B p q : Nat} {v u : Value} {L : List Bool} (h : Both w B p q v u L) (k : Nat) (hk : k < B) : ¬ fpW q u k := by
  rintro (rfl | hf)
  · have := h.bq; omega
  · have := (h.bu k hf).1; omega

theorem Both.step {w w1 w2 : World} {B p q : Nat} {v u v1 u2 : Value} {L L1 : List Bool} (h : Both w B p q v u L) (hw1 : WInv w1 p v1 (pack L1) L1.length) (hv1 : ∀ g, v1.ownBlock = some g → v.ownBlock = some g ∨ w.heap.size ≤ g) (hc1 : Chg (fpW p v) w w1)
    (hw2 : RInv w2 q u2 L1) (hu2 : ∀ g, u2.ownBlock = some g → u.ownBlock = some g ∨ w1.heap.size ≤ g) (hc2 : Chg (fpW q u) w1 w2) : Both w2 B p q v1 u2 L1 := by
  have hp : p < w.heap.size := World.block_lt_of_cell? w _ h.w1.c0
  have hq : q < w.heap.size := World.block_lt_of_cell? w _ h.w2.c0
  have hs := hc1.size
  have hu : ∀ g, u.ownBlock = some g → g < w.heap.size := fun g hg => owns_lt h.w2.own hg
  have hv : ∀ g, v1.ownBlock = some g → g < w1.heap.size := fun g hg => owns_lt hw1.own hg
  have key : ∀ g, v1.ownBlock = some g → g ≠ q ∧ u.ownBlock ≠ some g := by
    intro g hg
    rcases hv1 g hg with h1 | h1
    · exact ⟨(h.bv g h1).2.1, (h.bv g h1).2.2⟩
    · exact ⟨by omega, fun h2 => by have := hu g h2; omega⟩
  refine ⟨hw1.keep hc2 ?_, hw2, h.bp, h.bq, h.pq, ?_, ?_⟩
  · rintro k (rfl | hk) (hF | hF)
    · exact h.pq hF
    · exact (h.bu _ hF).2.1 rfl
    · exact (key k hk).1 hF
    · exact (key k hk).2 hF
  · intro g hg
    refine ⟨?_, (key g hg).1, fun h2 => ?_⟩
    · rcases hv1 g hg with h1 | h1
      · exact (h.bv g h1).1
      · have := h.bp; omega
    · rcases hu2 g h2 with h3 | h3
      · exact (key g hg).2 h3
      · have := hv g hg; omega
  · intro g hg
    rcases hu2 g hg with h3 | h3
    · refine ⟨(h.bu g h3).1, (h.bu g h3).2.1, fun h4 => (key g h4).2 h3⟩
    · refine ⟨by have := h.bp; omega, by omega, fun h4 => by have := hv g h4; omega⟩
end Go.Proofs.YtdegmeclcbndgaaDoor
