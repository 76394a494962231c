/- Rows of anything that one owns. -/
import Derived.Test.YtjmcpdhfefcdgaaDoorRow
import Derived.Test.YtjmcpdhfefcdgaaDoorCopy
namespace Go.Proofs.YtjmcpdhfefcdgaaDoor
open Go.RowKit Go.ChangeShapes Go.WideShapes

section
variable {α : Type} {R : World → List Value → α → Prop} {f : α → List Value} {size : Nat}
/-- The cells of a row, element by element. -/
def encR (f : α → List Value) (l : List α) : List Value := (l.map f).flatten
theorem encR_snoc (l : List α) (y : α) : encR f (l ++ [y]) = encR f l ++ f y := by simp [encR]
theorem encR_app (a b : List α) : encR f (a ++ b) = encR f a ++ encR f b := by simp [encR]
theorem encR_nil : encR f [] = [] := rfl
theorem encR_one (y : α) : encR f [y] = f y := by simp [encR]
theorem encR_len (hf : ∀ y, (f y).length = size) (l : List α) : (encR f l).length = l.length * size := by
  induction l with
  | nil => simp [encR]
  | cons a l ih =>
    have : encR f (a :: l) = f a ++ encR f l := by simp [encR]
    rw [this, List.length_append, hf, ih, List.length_cons, Nat.add_mul]; omega
theorem encR_get (hf : ∀ y, (f y).length = size) : ∀ (l : List α) (i : Nat) (y : α), l[i]? = some y → ∀ j v, (f y)[j]? = some v → (encR f l)[i * size + j]? = some v := by
  intro l
  induction l with
  | nil => intro i y h; simp at h
  | cons a l ih =>
    intro i y h j v hv
    have he : encR f (a :: l) = f a ++ encR f l := by simp [encR]
    have hj : j < size := by
      rcases Nat.lt_or_ge j (f y).length with h1 | h1
      · rw [hf] at h1; exact h1
      · rw [List.getElem?_eq_none h1] at hv; cases hv
    cases i with
    | zero =>
      simp at h; subst h
      rw [he, Nat.zero_mul, Nat.zero_add, List.getElem?_append_left (by rw [hf]; exact hj)]; exact hv
    | succ i =>
      have := ih i y (by simpa using h) j v hv
      rw [he, List.getElem?_append_right (by rw [hf, Nat.add_mul]; omega), hf]
      rw [show (i + 1) * size + j - size = i * size + j from by rw [Nat.add_mul]; omega]
      exact this
theorem encR_one' (h1 : ∀ y, ∀ u ∈ f y, u.oneCell' = true) (l : List α) : ∀ u ∈ encR f l, u.oneCell' = true := by
  intro u hu
  unfold encR at hu
  rw [List.mem_flatten] at hu
  obtain ⟨x, hx, hu⟩ := hu
  obtain ⟨y, _, rfl⟩ := List.mem_map.mp hx
  exact h1 y u hu

/-- A row that one owns, with what its elements lead to. -/
structure OwnR (R : World → List Value → α → Prop) (f : α → List Value) (size : Nat) (t : TypeId) (w : World) (B : Nat) (l : List α) (v : Value) : Prop where
  ex : ∃ (a : Option Addr) (n c : Nat), v = .slice a n c ∧ l.length = n ∧ RowG R size w a l ∧ ((a = none → c = 0) ∧ n ≤ c) ∧ w.ownsRow 0 t size v n (encR f l) ∧ (∀ g, v.ownBlock = some g → B ≤ g)
theorem OwnR.of_owns {t : TypeId} {w : World} {B : Nat} {v : Value} {n : Nat} {l : List α} (hf : ∀ y, (f y).length = size) (hs : 0 < size) (h : w.ownsRow 0 t size v n (encR f l)) (hR : ∀ y ∈ l, R w (f y) y) (hg : ∀ g, v.ownBlock = some g → B ≤ g) :
    OwnR R f size t w B l v := by
  refine ⟨?_⟩
  have hl : l.length = n := by
    have h1 := h.1
    rw [encR_len hf] at h1
    exact Nat.eq_of_mul_eq_mul_right hs h1
  subst hl
  rcases h.2 with ⟨h1, h0⟩ | ⟨g, cap, cur, h1, _, _, h2, _⟩
  · exact ⟨none, l.length, 0, by rw [h1, h0], rfl, .inl (List.length_eq_zero_iff.mp h0), ⟨fun _ => rfl, by omega⟩, h, hg⟩
  · refine ⟨some ⟨g, 0, none⟩, l.length, cap, h1, rfl, .inr ⟨_, rfl, fun i y hy => ?_⟩, ⟨fun h => (by cases h), h2⟩, h, hg⟩
    exact ⟨f y, hf y, fun j u hu => h.cells (g := g) (by rw [h1]; rfl) _ _ (encR_get hf l i y hy j u hu), hR y (List.mem_of_getElem? hy)⟩
theorem RowG.at_ {w : World} {x : Addr} {l : List α} (h : RowG R size w (some x) l) {i : Nat} {y : α} (hy : l[i]? = some y) : ∃ cs : List Value, cs.length = size ∧ (∀ j v, cs[j]? = some v → w.cell? (x.add (i * size + j)) = some v) ∧ R w cs y := by
  rcases h with rfl | ⟨x', hx, h⟩
  · simp at hy
  · cases hx; exact h i y hy
theorem RowG.some_ {w : World} {a : Option Addr} {l : List α} (h : RowG R size w a l) {i : Nat} {y : α} (hy : l[i]? = some y) : ∃ x, a = some x := by
  rcases h with rfl | ⟨x', hx, h⟩
  · simp at hy
  · exact ⟨x', hx⟩
theorem RowG.all {w : World} {a : Option Addr} {l : List α} (h : RowG R size w a l) : ∀ y ∈ l, ∃ cs, R w cs y := by
  intro y hy
  rcases h with rfl | ⟨x', hx, h⟩
  · simp at hy
  · obtain ⟨i, hi⟩ := List.mem_iff_getElem?.mp hy
    obtain ⟨cs, _, _, h1⟩ := h i y hi
    exact ⟨cs, h1⟩
theorem RowG.src {w : World} {a : Option Addr} {n c : Nat} {l : List α} (h : RowG R size w a l) (hf : ∀ y, (f y).length = size) (hs : 0 < size) (hRf : ∀ cs y, R w cs y → cs = f y) (hn : l.length = n) (hc : (a = none → c = 0) ∧ n ≤ c) : Src w size a n c (encR f l) := by
  refine ⟨by rw [encR_len hf, hn], ?_⟩
  cases a with
  | none =>
    rcases h with rfl | ⟨x, hx, _⟩
    · exact .inl ⟨rfl, by simpa using hn.symm, hc.1 rfl⟩
    · cases hx
  | some x =>
    refine .inr ⟨x, rfl, fun j u hu => ?_⟩
    have hj : j < l.length * size := by
      rcases Nat.lt_or_ge j (l.length * size) with h2 | h2
      · exact h2
      · rw [List.getElem?_eq_none (by rw [encR_len hf]; exact h2)] at hu; cases hu
    have hi : j / size < l.length := by rw [Nat.div_lt_iff_lt_mul hs]; exact hj
    obtain ⟨y, hy⟩ : ∃ y, l[j / size]? = some y := ⟨_, List.getElem?_eq_getElem hi⟩
    obtain ⟨cs, h1, h2, h3⟩ := h.at_ hy
    have := hRf cs y h3
    subst this
    have hm : j = j / size * size + j % size := by rw [Nat.mul_comm]; exact (Nat.div_add_mod j size).symm
    have hlt : j % size < size := Nat.mod_lt _ hs
    obtain ⟨v, hv⟩ : ∃ v, (f y)[j % size]? = some v := ⟨_, List.getElem?_eq_getElem (by rw [hf]; exact hlt)⟩
    have h4 := encR_get hf l _ y hy _ v hv
    rw [← hm, hu] at h4
    cases h4
    have h5 := h2 _ _ hv
    rw [← hm] at h5
    exact h5
end
end Go.Proofs.YtjmcpdhfefcdgaaDoor
