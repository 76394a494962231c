/- Arguments that are slices, opened for a walk. -/
import Derived.Test.YtjmcpdhfefcdgaaDoorBase
import Derived.ChangeSlices
import Derived.Deep.SlicePairs
import Derived.SizedLaws
import Derived.Below
import Derived.Carry
namespace Go.Proofs.YtjmcpdhfefcdgaaDoor
open Go.RowKit Go.ChangeShapes Go.WideShapes

/-- A slice of whole numbers. -/
structure RowI (k : IntKind) (w : World) (a : Option Addr) (zs : List Int) : Prop where
  wf : ∀ z ∈ zs, (Lit.int k z).wf = true
  row : zs = [] ∨ ∃ x, a = some x ∧ ∀ i z, zs[i]? = some z → w.cell? (x.add i) = some (.int k z)

/-- A slice of pairs of whole numbers. -/
structure RowP (k0 k1 : IntKind) (w : World) (a : Option Addr) (zs : List (Int × Int)) : Prop where
  wf : ∀ z ∈ zs, (Lit.int k0 z.1).wf = true ∧ (Lit.int k1 z.2).wf = true
  row : zs = [] ∨ ∃ x, a = some x ∧ ∀ i z, zs[i]? = some z → w.cell? (x.add (i * 2)) = some (.int k0 z.1) ∧ w.cell? ⟨(x.add (i * 2)).block, (x.add (i * 2)).off + 1, none⟩ = some (.int k1 z.2)

theorem add_field (x : Addr) (n j : Nat) (hj : j ≠ 0) : x.add (n + j) = ⟨(x.add n).block, (x.add n).off + j, none⟩ := by
  rw [← Go.Deep.add_add]
  generalize x.add n = y
  unfold Addr.add
  rw [if_neg hj]

section
variable {H : Type} {enc : TypeId × Value → H} {P : Program} {w : World} {base : Nat} {spare : Nat → Bool} {held : Bool}

theorem rowI_of {t e : TypeId} {k : IntKind} {a : Option Addr} {len cap : Nat} {d : DataW H} {ps : List MemPlace} (ht : P.underlying t = some (.slice e)) (he : P.underlying e = some (.int k)) (hc : P.cellsOf e = 1)
    (h : DataW.Trod enc P w base spare held t (.slice a len cap) d ps) : ∃ zs, zs.length = len ∧ RowI k w a zs := by
  obtain ⟨fuel, hf⟩ := h
  rcases open_ints ht he hc hf with ⟨hcs, _⟩ | ⟨x, l, c, zs, hcs, _, hl, hm, hz, _, hcell, hwz⟩
  · simp [Value.cells] at hcs
    obtain ⟨rfl, rfl, rfl⟩ := hcs
    exact ⟨[], rfl, fun z hz => by simp at hz, .inl rfl⟩
  · simp [Value.cells] at hcs
    obtain ⟨rfl, rfl, rfl⟩ := hcs
    have hlz : len ≤ zs.length := by rw [hz]; split <;> omega
    refine ⟨zs.take len, by rw [List.length_take]; omega, fun z hzz => hwz z (List.mem_of_mem_take hzz), .inr ⟨x, rfl, fun i z hi => ?_⟩⟩
    rw [List.getElem?_take] at hi
    split at hi
    · have hlt : i < zs.length := by omega
      rw [hcell i hlt, List.getD_eq_getElem?_getD, hi]; rfl
    · cases hi

theorem sizedI_of {t e : TypeId} {k : IntKind} {a : Option Addr} {len cap : Nat} {d : DataW H} {ps : List MemPlace} {ts : List TypeId} {ds : List (DataW H)} {j : Nat}
    (hsz : (DataW.weightsEach P ts ds).all (· ≤ reachBytes) = true) (ht : ts[j]? = some t) (hd : ds[j]? = some d) (hu : P.underlying t = some (.slice e)) (he : P.underlying e = some (.int k)) (hc : P.cellsOf e = 1) {B : Nat} (hB : P.bytesOf e = B)
    (h : DataW.Trod enc P w base spare held t (.slice a len cap) d ps) : len * B ≤ 140737488351232 := by
  obtain ⟨fuel, hf⟩ := h
  rcases open_ints hu he hc hf with ⟨hcs, _⟩ | ⟨x, l, c, zs, hcs, _, hl, _, hz, hx, _, _⟩
  · simp [Value.cells] at hcs
    obtain ⟨rfl, rfl, rfl⟩ := hcs
    simp
  · simp [Value.cells] at hcs
    obtain ⟨rfl, rfl, rfl⟩ := hcs
    obtain ⟨hx, _⟩ := Prod.mk.inj hx
    subst hx
    have z := sized_slice hsz ht hd hu
    rw [hB] at z
    have hl2 : len ≤ zs.length := by rw [hz]; split <;> omega
    have h1 : (lits (H := H) k (zs.take len)).length + (lits (H := H) k (zs.drop len)).length = zs.length := by simp [lits]; omega
    rw [h1] at z
    exact Nat.le_trans (Nat.mul_le_mul_right _ hl2) z

theorem intcell {k : IntKind} {t : TypeId} {n : Nat} {v : Value} {y : DataW H × List MemPlace} (ht : P.underlying t = some (.int k)) (h : DataW.trod enc P w base spare held n t [v] = some y) : ∃ z, v = .int k z ∧ (Lit.int k z).wf = true := by
  obtain ⟨z, hv, _, hz⟩ := DataW.trod_int ht h
  simp at hv
  exact ⟨z, hv, hz⟩

theorem rowP_of {t e : TypeId} {f0 f1 : Field} {k0 k1 : IntKind} {a : Option Addr} {len cap : Nat} {d : DataW H} {ps : List MemPlace} (ht : P.underlying t = some (.slice e)) (he : P.underlying e = some (.struct #[f0, f1]))
    (ce : P.cellsOf e = 2) (o0 : f0.offset = 0) (o1 : f1.offset = 1) (c0 : P.cellsOf f0.type = 1) (c1 : P.cellsOf f1.type = 1) (t0 : P.underlying f0.type = some (.int k0)) (t1 : P.underlying f1.type = some (.int k1))
    (h : DataW.Trod enc P w base spare held t (.slice a len cap) d ps) : ∃ zs, zs.length = len ∧ RowP k0 k1 w a zs := by
  obtain ⟨fuel, hf⟩ := h
  rcases Go.Deep.open_slice_pairs ht he ce o0 o1 c0 c1 hf with ⟨hcs, _⟩ | ⟨x, l, c, m, n, V0, V1, D0, D1, P0, P1, hcs, _, hl, hm, hmm, _, hi⟩
  · simp [Value.cells] at hcs
    obtain ⟨rfl, rfl, rfl⟩ := hcs
    exact ⟨[], rfl, fun z hz => by simp at hz, .inl rfl⟩
  · simp [Value.cells] at hcs
    obtain ⟨rfl, rfl, rfl⟩ := hcs
    have hlm : len ≤ m := by rw [hmm]; split <;> omega
    have each : ∀ i, i < len → ∃ q : Int × Int, w.cell? (x.add (i * 2)) = some (.int k0 q.1) ∧ w.cell? (x.add (i * 2 + 1)) = some (.int k1 q.2) ∧ (Lit.int k0 q.1).wf = true ∧ (Lit.int k1 q.2).wf = true := by
      intro i hlt
      obtain ⟨h1, h2, h3, h4⟩ := hi i (by omega)
      obtain ⟨z0, e0, y0⟩ := intcell t0 h3
      obtain ⟨z1, e1, y1⟩ := intcell t1 h4
      exact ⟨(z0, z1), by rw [h1, e0], by rw [h2, e1], y0, y1⟩
    obtain ⟨q, hq⟩ := Go.Deep.choose_lt each
    refine ⟨(List.range len).map q, by simp, fun z hz => ?_, .inr ⟨x, rfl, fun i z hz => ?_⟩⟩
    · obtain ⟨i, hi2, rfl⟩ := List.mem_map.1 hz
      have := hq i (List.mem_range.1 hi2)
      exact ⟨this.2.2.1, this.2.2.2⟩
    · have hlt : i < len := by
        rcases Nat.lt_or_ge i len with h | h
        · exact h
        · rw [List.getElem?_eq_none (by simpa using h)] at hz; cases hz
      simp [hlt] at hz
      subst hz
      have := hq i hlt
      exact ⟨this.1, by rw [← add_field _ _ _ (by decide)]; exact this.2.1⟩

theorem sizedP_of {t e : TypeId} {f0 f1 : Field} {a : Option Addr} {len cap : Nat} {d : DataW H} {ps : List MemPlace} {ts : List TypeId} {ds : List (DataW H)} {j : Nat} (hu : P.underlying t = some (.slice e)) (he : P.underlying e = some (.struct #[f0, f1]))
    (ce : P.cellsOf e = 2) (o0 : f0.offset = 0) (o1 : f1.offset = 1) (c0 : P.cellsOf f0.type = 1) (c1 : P.cellsOf f1.type = 1)
    (hsz : (DataW.weightsEach P ts ds).all (· ≤ reachBytes) = true) (ht : ts[j]? = some t) (hd : ds[j]? = some d) {B : Nat} (hB : P.bytesOf e = B)
    (h : DataW.Trod enc P w base spare held t (.slice a len cap) d ps) : len * B ≤ 140737488351232 := by
  obtain ⟨fuel, hf⟩ := h
  rcases Go.Deep.open_slice_pairs hu he ce o0 o1 c0 c1 hf with ⟨hcs, _⟩ | ⟨x, l, c, m, n, V0, V1, D0, D1, P0, P1, hcs, _, hl, hm, hmm, hx, _⟩
  · simp [Value.cells] at hcs
    obtain ⟨rfl, rfl, rfl⟩ := hcs
    simp
  · simp [Value.cells] at hcs
    obtain ⟨rfl, rfl, rfl⟩ := hcs
    obtain ⟨hx, _⟩ := Prod.mk.inj hx
    subst hx
    have z := sized_slice hsz ht hd hu
    rw [hB] at z
    simp only [List.length_map, List.length_range] at z
    exact Nat.le_trans (Nat.mul_le_mul_right _ (Nat.le_add_right _ _)) z
end

theorem RowI.below {k : IntKind} {w w' : World} {a : Option Addr} {zs : List Int} (h : RowI k w a zs) (hb : Below w.heap.size w w') : RowI k w' a zs := by
  refine ⟨h.wf, ?_⟩
  rcases h.row with h0 | ⟨x, hx, hc⟩
  · exact .inl h0
  · refine .inr ⟨x, hx, fun i z hi => ?_⟩
    have h1 := hc i z hi
    rw [hb.cell (World.block_lt_of_cell? w _ h1)]; exact h1
theorem RowP.below {k0 k1 : IntKind} {w w' : World} {a : Option Addr} {zs : List (Int × Int)} (h : RowP k0 k1 w a zs) (hb : Below w.heap.size w w') : RowP k0 k1 w' a zs := by
  refine ⟨h.wf, ?_⟩
  rcases h.row with h0 | ⟨x, hx, hc⟩
  · exact .inl h0
  · refine .inr ⟨x, hx, fun i z hi => ?_⟩
    have h1 := hc i z hi
    rw [hb.cell (World.block_lt_of_cell? w _ h1.1), hb.cell (World.block_lt_of_cell? w _ h1.2)]; exact h1
end Go.Proofs.YtjmcpdhfefcdgaaDoor
