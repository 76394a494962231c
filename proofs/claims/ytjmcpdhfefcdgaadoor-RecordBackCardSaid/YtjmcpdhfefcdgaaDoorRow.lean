/- Arguments that are slices of anything, opened for a walk. -/
import Derived.Test.YtjmcpdhfefcdgaaDoorMem
import Derived.Test.YtjmcpdhfefcdgaaDoorSlice
namespace Go.Proofs.YtjmcpdhfefcdgaaDoor
open Go.RowKit Go.ChangeShapes Go.WideShapes

section
variable {H : Type} {enc : TypeId × Value → H} {P : Program} {w : World} {base : Nat} {spare : Nat → Bool} {held : Bool}

/-- Nothing in a datum is greater than can be. -/
def Wt (P : Program) (t : TypeId) (d : DataW H) : Prop := (d.weights P t).all (· ≤ reachBytes) = true

theorem wt_arg {ts : List TypeId} {ds : List (DataW H)} {j : Nat} {t : TypeId} {d : DataW H} (h : (DataW.weightsEach P ts ds).all (· ≤ reachBytes) = true) (ht : ts[j]? = some t) (hd : ds[j]? = some d) : Wt P t d := by
  unfold Wt
  rw [List.all_eq_true]
  intro n hn
  exact List.all_eq_true.1 h _ (DataW.weights_mem_each ht hd n hn)

theorem wt_all {e : TypeId} {ds : List (DataW H)} (h : (DataW.weightsAll P e ds).all (· ≤ reachBytes) = true) (d : DataW H) (hd : d ∈ ds) : Wt P e d := by
  induction ds with
  | nil => simp at hd
  | cons x r ih =>
    simp only [DataW.weightsAll, List.all_append, Bool.and_eq_true] at h
    rcases List.mem_cons.1 hd with rfl | h1
    · exact h.1
    · exact ih h.2 h1

/-- A field of a struct. -/
theorem struct_field {e : TypeId} {fs : Array Field} {n : Nat} {cs : List Value} {x : DataW H × List MemPlace} (he : P.underlying e = some (.struct fs)) (h : DataW.trod enc P w base spare held n e cs = some x) (hw : Wt P e x.1) (i : Nat) (f : Field) (hf : fs[i]? = some f) :
    ∃ y m, DataW.trod enc P w base spare held m f.type ((cs.drop f.offset).take (P.cellsOf f.type)) = some y ∧ Wt P f.type y.1 := by
  obtain ⟨xs, m, _, rfl, _, hxl, hfl⟩ := DataW.trod_struct he h
  have hi : i < xs.length := by
    rw [hxl]
    rcases Nat.lt_or_ge i fs.size with h1 | h1
    · exact h1
    · rw [Array.getElem?_eq_none h1] at hf; cases hf
  have h1 := hfl i f hf
  rw [List.getElem?_eq_getElem hi] at h1
  refine ⟨xs[i], m, h1, ?_⟩
  unfold Wt at hw ⊢
  simp only [DataW.weights, he] at hw
  rw [List.all_eq_true] at hw ⊢
  intro k hk
  refine hw k (DataW.weights_mem_each (j := i) (t := f.type) (d := xs[i].1) ?_ ?_ k hk)
  · rw [List.getElem?_map]
    have : fs.toList[i]? = some f := by rw [Array.getElem?_toList]; exact hf
    rw [this]; rfl
  · rw [List.getElem?_map, List.getElem?_eq_getElem hi]; rfl

theorem wt_string {t : TypeId} {bytes : List UInt8} (h : Wt (H := H) P t (.lit (.string bytes))) : bytes.length ≤ 140737488351232 := by
  unfold Wt at h
  simp [DataW.weights] at h
  exact h

theorem cell_string {t : TypeId} {n : Nat} {v : Value} {y : DataW H × List MemPlace} (ht : P.underlying t = some .string) (h : DataW.trod enc P w base spare held n t [v] = some y) (hw : Wt P t y.1) : ∃ s : ByteArray, v = .string s ∧ s.size ≤ 140737488351232 := by
  obtain ⟨s, hv, rfl, _⟩ := DataW.trod_string ht h
  simp at hv
  have := wt_string hw
  exact ⟨s, hv, by rw [size_toList]; exact this⟩
end

/-- A slice of elements, each of which is read as R says. -/
def RowG {α : Type} (R : World → List Value → α → Prop) (size : Nat) (w : World) (a : Option Addr) (ys : List α) : Prop :=
  ys = [] ∨ ∃ x, a = some x ∧ ∀ i y, ys[i]? = some y → ∃ cs : List Value, cs.length = size ∧ (∀ j v, cs[j]? = some v → w.cell? (x.add (i * size + j)) = some v) ∧ R w cs y

theorem add_block (x : Addr) (j : Nat) : (x.add j).block = x.block := by unfold Addr.add; split <;> rfl

theorem RowG.keep {α : Type} {R : World → List Value → α → Prop} {size : Nat} {w w' : World} {a : Option Addr} {ys : List α} {F : Nat → Prop} (h : RowG R size w a ys) (hc : Chg F w w') (hf : ∀ x, a = some x → ¬ F x.block) (hR : ∀ cs y, R w cs y → R w' cs y) : RowG R size w' a ys := by
  rcases h with h1 | ⟨x, rfl, h1⟩
  · exact .inl h1
  · refine .inr ⟨x, rfl, fun i y hy => ?_⟩
    obtain ⟨cs, h2, h3, h4⟩ := h1 i y hy
    refine ⟨cs, h2, fun j v hv => hc.cell (h3 j v hv) ?_, hR _ _ h4⟩
    rw [add_block]; exact hf x rfl

section
variable {H : Type} {enc : TypeId × Value → H} {P : Program} {w : World} {base : Nat} {spare : Nat → Bool} {held : Bool}
theorem rowG_of {α : Type} [Inhabited α] {R : World → List Value → α → Prop} {size : Nat} {t e : TypeId} {a : Option Addr} {len cap : Nat} {n : Nat} {x : DataW H × List MemPlace} (ht : P.underlying t = some (.slice e)) (hs : P.cellsOf e = size)
    (h : DataW.trod enc P w base spare held n t [.slice a len cap] = some x) (hw : Wt P t x.1)
    (hR : ∀ m cs y, cs.length = size → DataW.trod enc P w base spare held m e cs = some y → Wt P e y.1 → ∃ z, R w cs z) :
    ∃ ys : List α, ys.length = len ∧ RowG R size w a ys ∧ len * P.bytesOf e ≤ 140737488351232 ∧ len ≤ cap := by
  subst hs
  rcases Go.Deep.open_slice ht h with ⟨hcs, rfl⟩ | ⟨ad, l, c, m, k, D, Pl, hcs, _, hl, hm, hmm, rfl, hx⟩
  · simp only [List.cons.injEq, Value.slice.injEq, and_true] at hcs
    obtain ⟨rfl, rfl, rfl⟩ := hcs
    exact ⟨[], rfl, .inl rfl, by simp, by simp⟩
  · simp only [List.cons.injEq, Value.slice.injEq, and_true] at hcs
    obtain ⟨rfl, rfl, rfl⟩ := hcs
    have hlm : len ≤ m := by rw [hmm]; split <;> omega
    unfold Wt at hw
    simp only [DataW.weights, ht, List.all_cons, List.all_append, Bool.and_eq_true, List.length_map, List.length_range] at hw
    obtain ⟨hw1, hw2, _⟩ := hw
    have each : ∀ i, i < len → ∃ q : List Value × α, q.1.length = P.cellsOf e ∧ (∀ j v, q.1[j]? = some v → w.cell? (ad.add (i * P.cellsOf e + j)) = some v) ∧ R w q.1 q.2 := by
      intro i hi
      obtain ⟨cs', g1, g2⟩ := hx i (by omega)
      obtain ⟨_, hlen, hcell⟩ := World.cells?_some g1
      obtain ⟨z, hz⟩ := hR _ cs' _ hlen g2 (wt_all hw2 _ (List.mem_map.2 ⟨i, List.mem_range.2 hi, rfl⟩))
      refine ⟨(cs', z), hlen, fun j v hv => ?_, hz⟩
      have hjl : j < P.cellsOf e := by
        rcases Nat.lt_or_ge j cs'.length with h1 | h1
        · omega
        · rw [List.getElem?_eq_none h1] at hv; cases hv
      have := hcell j hjl
      rw [Go.Deep.add_add] at this
      rw [this]; exact hv
    obtain ⟨q, hq⟩ := Go.Deep.choose_lt each
    refine ⟨(List.range len).map fun i => (q i).2, by simp, .inr ⟨ad, rfl, fun i y hy => ?_⟩, ?_, hl⟩
    · have hlt : i < len := by
        rcases Nat.lt_or_ge i len with h1 | h1
        · exact h1
        · rw [List.getElem?_eq_none (by simpa using h1)] at hy; cases hy
      simp [hlt] at hy
      subst hy
      exact ⟨(q i).1, hq i hlt⟩
    · have h9 : (len + (m - len)) * P.bytesOf e ≤ reachBytes := of_decide_eq_true hw1
      exact Nat.le_trans (Nat.mul_le_mul_right _ (Nat.le_add_right _ _)) h9
end

/-- A number and a text. -/
def isIS (k : IntKind) (_ : World) (cs : List Value) (y : Int × ByteArray) : Prop := cs = [.int k y.1, .string y.2] ∧ (Lit.int k y.1).wf = true ∧ y.2.size ≤ 140737488351232
theorem isIS_of {H : Type} {enc : TypeId × Value → H} {P : Program} {w : World} {base : Nat} {spare : Nat → Bool} {held : Bool} {k : IntKind} {e : TypeId} {f0 f1 : Field} (he : P.underlying e = some (.struct #[f0, f1])) (o0 : f0.offset = 0) (o1 : f1.offset = 1) (c0 : P.cellsOf f0.type = 1) (c1 : P.cellsOf f1.type = 1) (t0 : P.underlying f0.type = some (.int k)) (t1 : P.underlying f1.type = some .string) :
    ∀ m cs (y : DataW H × List MemPlace), cs.length = 2 → DataW.trod enc P w base spare held m e cs = some y → Wt P e y.1 → ∃ z, isIS k w cs z := by
  intro m cs y hl h hw
  obtain ⟨y0, m0, h0, _⟩ := struct_field he h hw 0 f0 rfl
  obtain ⟨y1, m1, h1, w1⟩ := struct_field he h hw 1 f1 rfl
  match cs, hl with
  | [v0, v1], _ =>
    rw [o0, c0] at h0
    rw [o1, c1] at h1
    obtain ⟨z, rfl, hz⟩ := intcell t0 h0
    obtain ⟨s, rfl, hs⟩ := cell_string t1 h1 w1
    exact ⟨(z, s), rfl, hz, hs⟩
end Go.Proofs.YtjmcpdhfefcdgaaDoor
