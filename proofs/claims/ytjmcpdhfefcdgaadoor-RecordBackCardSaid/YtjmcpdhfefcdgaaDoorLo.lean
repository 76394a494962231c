/- Pairs as an argument; pairs of one's own. -/
import Derived.Test.YtjmcpdhfefcdgaaDoorLh
import Derived.Test.YtjmcpdhfefcdgaaDoorRow
namespace Go.Proofs.YtjmcpdhfefcdgaaDoor
open Go.RowKit Lb Go.ChangeShapes Go.WideShapes

section
variable {H : Type} {enc : TypeId × Value → H} {P : Program} {w : World} {base : Nat} {spare : Nat → Bool} {held : Bool}
/-- A slice's capacity, as it came in. -/
theorem capG_of {t e : TypeId} {a : Option Addr} {len cap : Nat} {n : Nat} {x : DataW H × List MemPlace} (ht : P.underlying t = some (.slice e))
    (h : DataW.trod enc P w base spare held n t [.slice a len cap] = some x) : (a = none → cap = 0) ∧ len ≤ cap := by
  rcases Go.Deep.open_slice ht h with ⟨hcs, _⟩ | ⟨ad, l, c, m, k, D, Pl, hcs, _, hl, _⟩
  · simp only [List.cons.injEq, Value.slice.injEq, and_true] at hcs
    obtain ⟨rfl, rfl, rfl⟩ := hcs
    exact ⟨fun _ => rfl, Nat.le_refl _⟩
  · simp only [List.cons.injEq, Value.slice.injEq, and_true] at hcs
    obtain ⟨rfl, rfl, rfl⟩ := hcs
    exact ⟨fun h => (by cases h), hl⟩
end

/-- A pair of texts. -/
def isSS (_ : World) (cs : List Value) (y : Pr) : Prop := cs = [.string y.1, .string y.2] ∧ y.1.size ≤ 140737488351232 ∧ y.2.size ≤ 140737488351232
theorem isSS_of {H : Type} {enc : TypeId × Value → H} {P : Program} {w : World} {base : Nat} {spare : Nat → Bool} {held : Bool} {e : TypeId} {f0 f1 : Field} (he : P.underlying e = some (.struct #[f0, f1])) (o0 : f0.offset = 0) (o1 : f1.offset = 1) (c0 : P.cellsOf f0.type = 1) (c1 : P.cellsOf f1.type = 1) (t0 : P.underlying f0.type = some .string) (t1 : P.underlying f1.type = some .string) :
    ∀ m cs (y : DataW H × List MemPlace), cs.length = 2 → DataW.trod enc P w base spare held m e cs = some y → Wt P e y.1 → ∃ z, isSS w cs z := by
  intro m cs y hl h hw
  obtain ⟨y0, m0, h0, w0⟩ := struct_field he h hw 0 f0 rfl
  obtain ⟨y1, m1, h1, w1⟩ := struct_field he h hw 1 f1 rfl
  match cs, hl with
  | [v0, v1], _ =>
    rw [o0, c0] at h0
    rw [o1, c1] at h1
    obtain ⟨s0, rfl, hs0⟩ := cell_string t0 h0 w0
    obtain ⟨s, rfl, hs⟩ := cell_string t1 h1 w1
    exact ⟨(s0, s), rfl, hs0, hs⟩
theorem RowQ.of_rowG {w : World} {a : Option Addr} {l : List Pr} (h : RowG isSS 2 w a l) : RowQ w a l ∧ (∀ p ∈ l, p.1.size ≤ 140737488351232 ∧ p.2.size ≤ 140737488351232) := by
  rcases h with rfl | ⟨x, rfl, h⟩
  · exact ⟨⟨.inl rfl⟩, fun p hp => by simp at hp⟩
  · refine ⟨⟨.inr ⟨x, rfl, fun i p hp => ?_⟩⟩, fun p hp => ?_⟩
    · obtain ⟨cs, _, hc, rfl, _⟩ := h i p hp
      refine ⟨hc 0 _ rfl, ?_⟩
      have := hc 1 _ rfl
      rw [add_field _ _ _ (by decide)] at this
      exact this
    · obtain ⟨i, hi⟩ := List.mem_iff_getElem?.mp hp
      obtain ⟨cs, _, _, _, h1⟩ := h i p hi
      exact h1
/-- The pairs, cell by cell. -/
theorem RowQ.src {w : World} {a : Option Addr} {n c : Nat} {l : List Pr} (h : RowQ w a l) (hn : l.length = n) (hc : (a = none → c = 0) ∧ n ≤ c) : Src w 2 a n c (encP l) := by
  refine ⟨by rw [encP_len, hn], ?_⟩
  have key : ∀ x : Addr, (∀ (i : Nat) (p : Pr), l[i]? = some p → w.cell? (x.add (i * 2)) = some (.string p.1) ∧ w.cell? ⟨(x.add (i * 2)).block, (x.add (i * 2)).off + 1, none⟩ = some (.string p.2)) → ∀ j u, (encP l)[j]? = some u → w.cell? (x.add j) = some u := fun x h1 j u hu => by
    have hj : j < l.length * 2 := by
      rcases Nat.lt_or_ge j (l.length * 2) with h2 | h2
      · exact h2
      · rw [List.getElem?_eq_none (by rw [encP_len]; exact h2)] at hu; cases hu
    obtain ⟨p, hp⟩ : ∃ p, l[j / 2]? = some p := ⟨_, List.getElem?_eq_getElem (by omega)⟩
    obtain ⟨g1, g2⟩ := encP_get l _ _ hp
    obtain ⟨k1, k2⟩ := h1 _ _ hp
    rcases (by omega : j = j / 2 * 2 ∨ j = j / 2 * 2 + 1) with e | e
    · rw [← e] at g1 k1
      rw [g1] at hu; cases hu; exact k1
    · rw [← add_field _ _ _ (by decide), ← e] at k2
      rw [← e] at g2
      rw [g2] at hu; cases hu; exact k2
  rcases h.row with rfl | ⟨x, rfl, h1⟩
  · cases a with
    | none => exact .inl ⟨rfl, by simpa using hn.symm, hc.1 rfl⟩
    | some x => exact .inr ⟨x, rfl, key x (fun i p hp => by simp at hp)⟩
  · exact .inr ⟨x, rfl, key x h1⟩
theorem encP_one (l : List Pr) : ∀ u ∈ encP l, u.oneCell' = true := by
  intro u hu
  induction l with
  | nil => simp [encP] at hu
  | cons p l ih =>
    simp only [encP, List.map_cons, List.flatten_cons, List.mem_append, List.mem_cons, List.not_mem_nil, or_false] at hu ih
    rcases hu with (rfl | rfl) | hu
    · rfl
    · rfl
    · exact ih hu

/-- Pairs that one owns. -/
structure OwnP (w : World) (B : Nat) (l : List Pr) (v : Value) : Prop where
  ex : ∃ (a : Option Addr) (n c : Nat), v = .slice a n c ∧ l.length = n ∧ RowQ w a l ∧ ((a = none → c = 0) ∧ n ≤ c) ∧ w.ownsRow 0 47 2 v n (encP l) ∧ (∀ g, v.ownBlock = some g → B ≤ g)
theorem OwnP.of_owns {w : World} {B : Nat} {v : Value} {n : Nat} {l : List Pr} (h : w.ownsRow 0 47 2 v n (encP l)) (hg : ∀ g, v.ownBlock = some g → B ≤ g) : OwnP w B l v := by
  obtain ⟨a, c, rfl, hq, hl⟩ := RowQ.of_owns h
  refine ⟨a, n, c, rfl, hl, hq, ?_, h, hg⟩
  rcases h.2 with ⟨h1, rfl⟩ | ⟨g, cap, cur, h1, _, _, h2, _⟩
  · cases h1; exact ⟨fun _ => rfl, Nat.le_refl _⟩
  · cases h1; exact ⟨fun h => (by cases h), h2⟩

end Go.Proofs.YtjmcpdhfefcdgaaDoor
