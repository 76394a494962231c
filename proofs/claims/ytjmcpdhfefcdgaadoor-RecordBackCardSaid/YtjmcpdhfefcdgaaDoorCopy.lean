/- An append of any slice, nil or not, upon an owned one. -/
import Derived.Test.YtjmcpdhfefcdgaaDoorMem
import Derived.Laws.AppendOwnNone
namespace Go.Proofs.YtjmcpdhfefcdgaaDoor
open Go.RowKit

/-- These cells stand in a slice's place, or the slice is nil. -/
def Src (w : World) (size : Nat) (ao : Option Addr) (m c : Nat) (news : List Value) : Prop :=
  news.length = m * size ∧ ((ao = none ∧ m = 0 ∧ c = 0) ∨ ∃ ad, ao = some ad ∧ ∀ j u, news[j]? = some u → w.cell? (ad.add j) = some u)

theorem Src.keep {F : Nat → Prop} {w w' : World} {size : Nat} {ao : Option Addr} {m c : Nat} {news : List Value} (h : Src w size ao m c news) (hc : Chg F w w') (hf : ∀ ad, ao = some ad → ¬ F ad.block) : Src w' size ao m c news := by
  refine ⟨h.1, ?_⟩
  rcases h.2 with h1 | ⟨ad, rfl, h1⟩
  · exact .inl h1
  · refine .inr ⟨ad, rfl, fun j u hu => hc.cell (h1 j u hu) ?_⟩
    have : (ad.add j).block = ad.block := by unfold Addr.add; split <;> rfl
    rw [this]; exact hf ad rfl

theorem run_append_copy {P : Program} (w : World) (base : Nat) (t ty e : TypeId) (i : TypeInfo) (z : Value) (size bytes : Nat) (ht : P.underlying t = some (.slice e)) (hi : P.info? e = some i) (hz : i.zero = some z)
    (hsize : i.size = size) (hby : i.bytes = bytes) (hzs : z.cells.size = size) (hsz : 0 < size)
    (v : Value) (n : Nat) (xs : List Value) (hown : w.ownsRow base e size v n xs)
    (ao : Option Addr) (m c : Nat) (news : List Value) (hs : Src w size ao m c news) (h1 : ∀ u ∈ news, u.oneCell' = true)
    (h63 : n + m ≤ maxLen) (hbytes : (n + m) * bytes ≤ 140737488355328) (hbase : base ≤ w.heap.size) :
    ∃ v' w', (Builtin.append_ #[t, t] ty #[v, .slice ao m c]).run P w = .ok v' w' ∧ w'.ownsRow base e size v' (n + m) (xs ++ news) ∧ Chg (fun k => v.ownBlock = some k) w w' ∧
      (v'.ownBlock = v.ownBlock ∨ v'.ownBlock = some w.heap.size) := by
  rcases hs.2 with ⟨rfl, rfl, rfl⟩ | ⟨ad, rfl, hc⟩
  · have hn : news = [] := List.length_eq_zero_iff.mp (by have := hs.1; simpa using this)
    subst hn
    refine ⟨v, w, run_append_owned_none w base t ty e i size ht hi v n xs hown, by simpa using hown, Chg.refl _ _, .inl rfl⟩
  · obtain ⟨v', w', a1, a2, a3, _, a5⟩ := run_append_fp (P := P) w base t ty e i z size bytes ht hi hz hsize hby hzs hsz v n xs hown ad m c news hs.1 hc h1 h63 hbytes hbase
    exact ⟨v', w', a1, a2, (Chg.grown a3).mono (fun _ _ x => x.symm), a5⟩

theorem wpList_append_copy {P : Program} {ops : Array Oper} {rest : List Oper} {o : Oper} {a : Act} {Q : Exit → Act → World → Prop} {w : World} (hgd : o.guard = none) (s x : Operand) (t : TypeId)
    (ho : o.op = .call { callee := .builtin .append, args := #[s, x], argTypes := #[t, t] })
    (base : Nat) (e : TypeId) (i : TypeInfo) (z : Value) (size bytes : Nat) (ht : P.underlying t = some (.slice e)) (hi : P.info? e = some i) (hz : i.zero = some z)
    (hsize : i.size = size) (hby : i.bytes = bytes) (hzs : z.cells.size = size) (hsz : 0 < size)
    (v : Value) (n : Nat) (xs : List Value) (hs : a.eval s = v) (hown : w.ownsRow base e size v n xs)
    (ao : Option Addr) (m c : Nat) (news : List Value) (hx : a.eval x = .slice ao m c) (hsrc : Src w size ao m c news) (h1 : ∀ u ∈ news, u.oneCell' = true)
    (h63 : n + m ≤ maxLen) (hbytes : (n + m) * bytes ≤ 140737488355328) (hbase : base ≤ w.heap.size)
    (h : ∀ v' w', w'.ownsRow base e size v' (n + m) (xs ++ news) → Chg (fun k => v.ownBlock = some k) w w' → (v'.ownBlock = v.ownBlock ∨ v'.ownBlock = some w.heap.size) → wpList P ops Q rest (a.put o.dst v') w') :
    wpList P ops Q (o :: rest) a w := by
  obtain ⟨v', w', hr, h2, h3, h5⟩ := run_append_copy (P := P) w base t o.type e i z size bytes ht hi hz hsize hby hzs hsz v n xs hown ao m c news hsrc h1 h63 hbytes hbase
  refine wpList_plain hgd fun K hK => ?_
  unfold Oper.wp execOp
  simp only [ho, resolve, invoke, builtin, Sem.run_bind, Sem.run_pure, Result.andThen_ok, List.map_toArray, List.map_cons, List.map_nil, hs, hx, hr]
  exact hK _ _ (h v' w' h2 h3 h5)

/-- The same upon a slice that was just made, with nothing in it: a copy of its own. -/
theorem wpList_copy_new {P : Program} {ops : Array Oper} {rest : List Oper} {o : Oper} {a : Act} {Q : Exit → Act → World → Prop} {w0 w : World} (hgd : o.guard = none) (s x : Operand) (t : TypeId)
    (ho : o.op = .call { callee := .builtin .append, args := #[s, x], argTypes := #[t, t] })
    (e : TypeId) (hw : w = w0.alloc (.cells #[] e)) (i : TypeInfo) (z : Value) (size bytes : Nat) (ht : P.underlying t = some (.slice e)) (hi : P.info? e = some i) (hz : i.zero = some z)
    (hsize : i.size = size) (hby : i.bytes = bytes) (hzs : z.cells.size = size) (hsz : 0 < size)
    (hs : a.eval s = .slice (some ⟨w0.heap.size, 0, none⟩) 0 0)
    (ao : Option Addr) (m c : Nat) (news : List Value) (hx : a.eval x = .slice ao m c) (hsrc : Src w0 size ao m c news) (h1 : ∀ u ∈ news, u.oneCell' = true)
    (h63 : m ≤ maxLen) (hbytes : m * bytes ≤ 140737488355328)
    (h : ∀ v' w', w'.ownsRow 0 e size v' m news → Below w0.heap.size w0 w' → (∀ g, v'.ownBlock = some g → w0.heap.size ≤ g) → wpList P ops Q rest (a.put o.dst v') w') :
    wpList P ops Q (o :: rest) a w := by
  subst hw
  have hb : Below w0.heap.size w0 (w0.alloc (.cells #[] e)) := (Below.refl _ _).alloc (Nat.le_refl _) _
  refine wpList_append_copy hgd s x t ho 0 e i z size bytes ht hi hz hsize hby hzs hsz _ 0 [] hs (World.ownsRow_lit w0 #[] 0 (Nat.zero_le _) (Nat.zero_le _) (by simp)) ao m c news hx
    (Src.keep (F := fun _ => False) hsrc (Chg.of_below _ hb) (fun _ _ x => x)) h1 (by omega) (by rw [Nat.zero_add]; exact hbytes) (Nat.zero_le _) ?_
  intro v' w' h2 h3 h4
  rw [Nat.zero_add, List.nil_append] at h2
  refine h v' w' h2 (h3.below_tr hb ?_) ?_
  · intro k hk e
    have e2 : some w0.heap.size = some k := e
    have := Option.some.inj e2
    omega
  · intro g hg
    rcases h4 with h5 | h5
    · rw [h5] at hg
      have e2 : some w0.heap.size = some g := hg
      have := Option.some.inj e2
      omega
    · rw [h5] at hg
      have := Option.some.inj hg
      simp at this; omega

section
variable {P : Program}
/-- A struct read out of its cells. -/
theorem run_loadVar_cells (w : World) (g : Nat) (ty : TypeId) (cs : Array Value) (d : TypeDesc) (hc : ∀ j v, cs[j]? = some v → w.cell? ⟨g, j, none⟩ = some v)
    (hu : P.underlying ty = some d) (hd : (match d with | .struct _ | .array _ _ => true | _ => false) = true) (hi : (P.info? ty).map (·.size) = some cs.size) :
    (loadVar ty ⟨g, 0, none⟩).run P w = .ok (.agg cs) w := by
  have hl : (loadCells ⟨g, 0, none⟩ cs.toList.length).run P w = .ok cs.toList.toArray w :=
    run_loadCells_list (P := P) w ⟨g, 0, none⟩ cs.toList (fun j v hv => by
      have hadd : (⟨g, 0, none⟩ : Addr).add j = ⟨g, j, none⟩ := by unfold Addr.add; split <;> simp_all
      rw [hadd]
      exact hc j v (by simpa using hv))
  cases hq : P.info? ty with
  | none => simp [hq] at hi
  | some i =>
    have hs : i.size = cs.size := by simpa [hq] using hi
    have hagg : (isAgg ty).run P w = .ok true w := by
      unfold isAgg
      rw [Sem.run_bind, run_underlying hu w]
      cases d <;> simp_all
    simp only [Array.length_toList, Array.toArray_toList] at hl
    simp [loadVar, Sem.run_bind, hagg, sizeOf, typeInfo, hq, hs, hl]

theorem results_cell_tmp3 {fn : Func} {p u v : Tmp} {ty : TypeId} (h : fn.results = #[.cell p ty, .tmp u, .tmp v]) (tmps : Array Value) (w : World) (g : Nat) (x : Value)
    (hp : tmps.getD p undef = .pointer (some ⟨g, 0, none⟩)) (hl : (loadVar ty ⟨g, 0, none⟩).run P w = .ok x w) :
    (results fn tmps).run P w = .ok (.tuple #[x, tmps.getD u undef, tmps.getD v undef]) w := by
  have hp' : tmps[p]?.getD undef = .pointer (some ⟨g, 0, none⟩) := by simpa using hp
  simp [results, h, hp', asAddr, hl]
theorem results_cell_tmp2 {fn : Func} {p u : Tmp} {ty : TypeId} (h : fn.results = #[.cell p ty, .tmp u]) (tmps : Array Value) (w : World) (g : Nat) (x : Value)
    (hp : tmps.getD p undef = .pointer (some ⟨g, 0, none⟩)) (hl : (loadVar ty ⟨g, 0, none⟩).run P w = .ok x w) :
    (results fn tmps).run P w = .ok (.tuple #[x, tmps.getD u undef]) w := by
  have hp' : tmps[p]?.getD undef = .pointer (some ⟨g, 0, none⟩) := by simpa using hp
  simp [results, h, hp', asAddr, hl]
end

/-- Two cells of one block. -/
structure Two (w : World) (B : Nat) (x0 x1 : Value) : Prop where
  c0 : w.cell? ⟨B, 0, none⟩ = some x0
  c1 : w.cell? ⟨B, 1, none⟩ = some x1
  f0 : w.frozen? ⟨B, 0, none⟩ = false
  f1 : w.frozen? ⟨B, 1, none⟩ = false
theorem Two.keep {F : Nat → Prop} {w w' : World} {B : Nat} {x0 x1 : Value} (h : Two w B x0 x1) (hc : Chg F w w') (hp : ¬ F B) : Two w' B x0 x1 := by
  have hlt := World.block_lt_of_cell? w _ h.c0
  exact ⟨hc.cell h.c0 hp, hc.cell h.c1 hp, by rw [hc.frozen (a := ⟨B, 0, none⟩) hlt hp]; exact h.f0, by rw [hc.frozen (a := ⟨B, 1, none⟩) hlt hp]; exact h.f1⟩
theorem Two.below {w w' : World} {B : Nat} {x0 x1 : Value} (h : Two w B x0 x1) (hb : Below w.heap.size w w') : Two w' B x0 x1 := h.keep (Chg.of_below (fun _ => False) hb) (fun x => x)
theorem Two.set {w : World} {B : Nat} {x0 x1 : Value} (h : Two w B x0 x1) (y0 y1 : Value) :
    Two ((w.setCell ⟨B, 0, none⟩ y0).setCell ⟨B, 1, none⟩ y1) B y0 y1 ∧ Chg (fun k => k = B) w ((w.setCell ⟨B, 0, none⟩ y0).setCell ⟨B, 1, none⟩ y1) := by
  have n01 : (⟨B, 0, none⟩ : Addr) ≠ ⟨B, 1, none⟩ := fun e => by simpa using congrArg Addr.off e
  have d0 := World.cell?_setCell_same w ⟨B, 0, none⟩ y0 h.c0
  have d1 : (w.setCell ⟨B, 0, none⟩ y0).cell? ⟨B, 1, none⟩ = some x1 := by rw [World.cell?_setCell_other _ _ _ _ (fun e => n01 e)]; exact h.c1
  refine ⟨⟨?_, World.cell?_setCell_same _ _ _ d1, ?_, ?_⟩, (Chg.setCell w ⟨B, 0, none⟩ y0).trans (Chg.setCell _ ⟨B, 1, none⟩ y1) (fun _ _ x => x)⟩
  · rw [World.cell?_setCell_other _ _ _ _ (fun e => n01 e.symm)]; exact d0
  · rw [World.frozen?_setCell, World.frozen?_setCell]; exact h.f0
  · rw [World.frozen?_setCell, World.frozen?_setCell]; exact h.f1
theorem Two.load {P : Program} {w : World} {B : Nat} {x0 x1 : Value} (h : Two w B x0 x1) (ty : TypeId) (fs : Array Field) (hu : P.underlying ty = some (.struct fs)) (hi : (P.info? ty).map (·.size) = some 2) :
    (loadVar ty ⟨B, 0, none⟩).run P w = .ok (.agg #[x0, x1]) w := by
  refine run_loadVar_cells w B ty #[x0, x1] (.struct fs) ?_ hu rfl hi
  intro j v hv
  match j, hv with
  | 0, hv => simp at hv; subst hv; exact h.c0
  | 1, hv => simp at hv; subst hv; exact h.c1
  | j + 2, hv => simp at hv

/-- The cells of a block from its front on; they may be written. -/
def RowV (w : World) (B : Nat) (xs : List Value) : Prop := ∀ j v, xs[j]? = some v → w.cell? ⟨B, j, none⟩ = some v ∧ w.frozen? ⟨B, j, none⟩ = false
theorem RowV.keep {F : Nat → Prop} {w w' : World} {B : Nat} {xs : List Value} (h : RowV w B xs) (hc : Chg F w w') (hp : ¬ F B) : RowV w' B xs := fun j v hj => by
  obtain ⟨h1, h2⟩ := h j v hj
  have hlt := World.block_lt_of_cell? w _ h1
  exact ⟨hc.cell h1 hp, by rw [hc.frozen (a := ⟨B, j, none⟩) hlt hp]; exact h2⟩
theorem RowV.below {w w' : World} {B : Nat} {xs : List Value} (h : RowV w B xs) (hb : Below w.heap.size w w') : RowV w' B xs := h.keep (Chg.of_below (fun _ => False) hb) (fun x => x)
theorem RowV.set {w : World} {B : Nat} {xs : List Value} (h : RowV w B xs) (i : Nat) (hi : i < xs.length) (y : Value) : RowV (w.setCell ⟨B, i, none⟩ y) B (xs.set i y) := by
  intro j v hj
  rw [List.getElem?_set] at hj
  have hx := h i xs[i] (List.getElem?_eq_getElem hi)
  by_cases e : i = j
  · subst e
    rw [if_pos rfl, if_pos hi] at hj
    cases hj
    exact ⟨World.cell?_setCell_same _ _ _ hx.1, by rw [World.frozen?_setCell]; exact hx.2⟩
  · rw [if_neg e] at hj
    obtain ⟨h1, h2⟩ := h j v hj
    refine ⟨?_, by rw [World.frozen?_setCell]; exact h2⟩
    rw [World.cell?_setCell_other]; exact h1
    intro e2; apply e; simpa using congrArg Addr.off e2
theorem RowV.new (w : World) (xs : List Value) (e : TypeId) : RowV (w.alloc (.cells xs.toArray e)) w.heap.size xs := by
  intro j v hj
  have hlt : j < xs.length := by
    rcases Nat.lt_or_ge j xs.length with h | h
    · exact h
    · rw [List.getElem?_eq_none h] at hj; cases hj
  have hg := heap_alloc_new w (.cells xs.toArray e)
  refine ⟨?_, frozen_of_row _ _ _ _ _ hg⟩
  rw [cell_of_row _ _ _ _ _ _ hg]; simpa using hj
theorem RowV.lt {w : World} {B : Nat} {xs : List Value} (h : RowV w B xs) (hp : 0 < xs.length) : B < w.heap.size := World.block_lt_of_cell? w _ (h 0 xs[0] (List.getElem?_eq_getElem hp)).1
theorem RowV.load {P : Program} {w : World} {B : Nat} {xs : List Value} (h : RowV w B xs) (ty : TypeId) (d : TypeDesc) (hu : P.underlying ty = some d) (hd : (match d with | .struct _ | .array _ _ => true | _ => false) = true) (hi : (P.info? ty).map (·.size) = some xs.length) :
    (loadVar ty ⟨B, 0, none⟩).run P w = .ok (.agg xs.toArray) w := by
  refine run_loadVar_cells w B ty xs.toArray d ?_ hu hd (by simpa using hi)
  intro j v hv
  exact (h j v (by simpa using hv)).1
theorem results_cell_tmp1 {P : Program} {fn : Func} {p : Tmp} {ty : TypeId} (h : fn.results = #[.cell p ty]) (tmps : Array Value) (w : World) (g : Nat) (x : Value)
    (hp : tmps.getD p undef = .pointer (some ⟨g, 0, none⟩)) (hl : (loadVar ty ⟨g, 0, none⟩).run P w = .ok x w) :
    (results fn tmps).run P w = .ok x w := by
  have hp' : tmps[p]?.getD undef = .pointer (some ⟨g, 0, none⟩) := by simpa using hp
  simp [results, h, hp', asAddr, hl]
end Go.Proofs.YtjmcpdhfefcdgaaDoor
