/- Whether the program's labels work: one example. -/
import Derived.Test.YtjmcpdhfefcdgaaDoorLo
import Derived.Test.YtjmcpdhfefcdgaaDoorDet
namespace Go.Proofs.YtjmcpdhfefcdgaaDoor
open Go.RowKit Lb Dig

theorem RowQ.of_rowV {w : World} {g : Nat} {l : List Pr} (h : RowV w g (encP l)) : RowQ w (some ⟨g, 0, none⟩) l := by
  refine ⟨.inr ⟨_, rfl, fun i p hp => ?_⟩⟩
  obtain ⟨h1, h2⟩ := encP_get l i p hp
  have ha : (⟨g, 0, none⟩ : Addr).add (i * 2) = ⟨g, i * 2, none⟩ := by unfold Addr.add; split <;> simp_all
  rw [ha]
  exact ⟨(h _ _ h1).1, (h _ _ h2).1⟩
theorem RowQ.drop {w : World} {x : Addr} {l : List Pr} (h : RowQ w (some x) l) (k : Nat) : RowQ w (some (x.add (k * 2))) (l.drop k) := by
  rcases h.row with rfl | ⟨y, e, h1⟩
  · exact ⟨.inl (by simp)⟩
  · cases e
    refine ⟨.inr ⟨_, rfl, fun i p hp => ?_⟩⟩
    rw [List.getElem?_drop] at hp
    have := h1 _ _ hp
    rw [Go.Deep.add_add, ← Nat.add_mul]
    exact this
theorem RowQ.take {w : World} {a : Option Addr} {l : List Pr} (h : RowQ w a l) (k : Nat) : RowQ w a (l.take k) := by
  rcases h.row with rfl | ⟨y, e, h1⟩
  · exact ⟨.inl (by simp)⟩
  · refine ⟨.inr ⟨y, e, fun i p hp => h1 i p ?_⟩⟩
    rw [List.getElem?_take] at hp
    split at hp
    · exact hp
    · cases hp

namespace Lb
def wA : Pr := ({ data := #[97] }, { data := #[49] })
def wB : Pr := ({ data := #[98] }, { data := #[50] })
theorem numB1 : numB 1 = [1, 1] := by
  unfold numB; rw [dig_pos 1 (by decide)]; simp [dig_zero]
theorem numB2 : numB 2 = [1, 2] := by
  unfold numB; rw [dig_pos 2 (by decide)]; simp [dig_zero]
theorem enc_w : encL [wA, wB] = ([1, 2, 1, 1, 97, 1, 1, 49, 1, 1, 98, 1, 1, 50], 0) := by
  unfold encL
  rw [if_neg (by decide)]
  show (numB 2 ++ pairsB [wA, wB], 0) = _
  rw [numB2]
  show ([1, 2] ++ ((numB 1 ++ [97]) ++ (numB 1 ++ [49]) ++ (((numB 1 ++ [98]) ++ (numB 1 ++ [50])) ++ [])), 0) = _
  rw [numB1]; rfl
/-- Some new pairs. -/
def rowq (l : List Pr) : Value → World → Prop := fun v W => ∃ q, v = .slice (some ⟨q, 0, none⟩) l.length l.length ∧ RowQ W (some ⟨q, 0, none⟩) l
theorem mono_rowq (l : List Pr) : Mono (rowq l) := by
  rintro v W W' ⟨q, h1, h2⟩ hg
  exact ⟨q, h1, h2.below hg⟩
theorem rowq_new (W : World) : rowq [wB, wA] (.slice (some ⟨W.heap.size, 0, none⟩) 2 2) (W.alloc (.cells #[.string { data := #[98] }, .string { data := #[50] }, .string { data := #[97] }, .string { data := #[49] }] 47)) :=
  ⟨_, rfl, RowQ.of_rowV (l := [wB, wA]) (RowV.new W [.string { data := #[98] }, .string { data := #[50] }, .string { data := #[97] }, .string { data := #[49] }] _)⟩
end Lb

end Go.Proofs.YtjmcpdhfefcdgaaDoor
