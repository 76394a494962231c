/- The document's reader of bits, as a slice to be copied. -/
import Derived.Test.YtdegmeclcbndgaaDoorBitReads
import Derived.Test.YtdegmeclcbndgaaDoorCopy
namespace Go.Proofs.YtdegmeclcbndgaaDoor
open Go.RowKit Bit

theorem XInv.lt {w : World} {p : Nat} {v : Value} {L : List Bool} (h : XInv w p v L) : p < w.heap.size := World.block_lt_of_cell? w _ h.c0
theorem XInv.lt2 {w : World} {p : Nat} {v : Value} {L : List Bool} (h : XInv w p v L) (b : Bool) (R : List Bool) (hL : L = b :: R) (g : Nat) (hg : v.ownBlock = some g) : g < w.heap.size := by
  rcases h.sl with ⟨h1, _⟩ | ⟨g', o, cap, rfl, _, _, hc⟩
  · rw [hL] at h1; cases h1
  · cases hg
    exact World.block_lt_of_cell? w _ (hc 0 b (by rw [hL]; rfl))

theorem XInv.src {w : World} {p : Nat} {v : Value} {L : List Bool} (h : XInv w p v L) : ∃ a c, v = .slice a L.length c ∧ Src w 1 a L.length c (encL L) := by
  rcases h.sl with ⟨rfl, rfl⟩ | ⟨g, o, cap, rfl, _, _, hc⟩
  · exact ⟨none, 0, rfl, by simp [encL], .inl ⟨rfl, rfl, rfl⟩⟩
  · refine ⟨_, cap, rfl, by simp [encL], .inr ⟨_, rfl, fun j u hu => ?_⟩⟩
    rw [encL, List.getElem?_map] at hu
    cases hb : L[j]? with
    | none => simp [hb] at hu
    | some b =>
      simp [hb] at hu
      rw [← hu]
      have e : (Addr.add ⟨g, o, none⟩ j) = ⟨g, o + j, none⟩ := by unfold Addr.add; split <;> simp [*]
      rw [e]; exact hc j b hb

theorem XInv.keep2 {F : Nat → Prop} {w w' : World} {p : Nat} {v : Value} {L : List Bool} (h : XInv w p v L) (hc : Chg F w w') (hp : ¬ F p) (hf : ∀ g, v.ownBlock = some g → g < w.heap.size → ¬ F g) : XInv w' p v L := by
  have hlt := World.block_lt_of_cell? w _ h.c0
  refine ⟨hc.cell h.c0 hp, by rw [hc.frozen (a := ⟨p, 0, none⟩) hlt hp]; exact h.f0, ?_, h.ne⟩
  rcases h.sl with h1 | ⟨g, o, cap, hv, h1, h2, h3⟩
  · exact .inl h1
  · exact .inr ⟨g, o, cap, hv, h1, h2, fun j b hj => hc.cell (h3 j b hj) (hf g (by rw [hv]; rfl) (World.block_lt_of_cell? w _ (h3 j b hj)))⟩
end Go.Proofs.YtdegmeclcbndgaaDoor
