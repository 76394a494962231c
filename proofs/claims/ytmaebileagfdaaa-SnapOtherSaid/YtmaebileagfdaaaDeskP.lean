/- A desk of pieces, plain; blocks known whole. -/
import Derived.Test.YtmaebileagfdaaaSnap
import Derived.Laws.CopyOwn
import Derived.Deep.OwnRows
namespace Go.Proofs.Ytmaebileagfdaaa
open Go.RowKit Crc

namespace Dk
structure Book where
  lsn : Int
  last : Int
  sum : Int
  b : List UInt8
  t : List Bool
def lies (last ofs : Int) (tx : List UInt8) : Bool := decide (1 ≤ last ∧ last ≤ 16777216 ∧ 1 ≤ (tx.length : Int) ∧ (tx.length : Int) ≤ 256 ∧ 0 ≤ ofs ∧ ofs ≤ last - (tx.length : Int))
def fresh (lsn last sum : Int) : Book := ⟨lsn, last, sum, List.replicate last.toNat 0, List.replicate last.toNat false⟩
def hand (s : Option Book) (lsn last sum : Int) : Book :=
  match s with
  | some k => if k.lsn = lsn ∧ k.last = last ∧ k.sum = sum then k else fresh lsn last sum
  | none => fresh lsn last sum
def lay {α : Type} (l : List α) (ofs : Nat) (cs : List α) : List α := l.take ofs ++ (cs ++ l.drop (ofs + cs.length))
def put (k : Book) (ofs : Nat) (tx : List UInt8) : Book := { k with b := lay k.b ofs tx, t := lay k.t ofs (List.replicate tx.length true) }
def Book.ok (k : Book) : Prop := 1 ≤ k.last ∧ k.last ≤ 16777216 ∧ k.b.length = k.last.toNat ∧ k.t.length = k.last.toNat
def hasN (s : Option Book) : Nat := match s with | none => 0 | some k => k.t.count true
def deskStep (s : Option Book) (lsn last sum ofs : Int) (tx : List UInt8) : Option Book × Option (List UInt8) :=
  if lies last ofs tx then
    let k := put (hand s lsn last sum) ofs.toNat tx
    if (k.t.count true : Int) < last then (some k, none)
    else (none, if (moreN 0 k.b : Int) = sum then some k.b else none)
  else (s, none)
theorem lay_len {α : Type} (l : List α) (ofs : Nat) (cs : List α) (h : ofs + cs.length ≤ l.length) : (lay l ofs cs).length = l.length := by simp [lay]; omega
theorem lay_nil {α : Type} (l : List α) (ofs : Nat) : lay l ofs [] = l := by simp [lay]
theorem lay_get {α : Type} (l : List α) (ofs : Nat) (cs : List α) (h : ofs + cs.length < l.length) : (lay l ofs cs)[ofs + cs.length]? = l[ofs + cs.length]? := by
  unfold lay
  rw [List.getElem?_append_right (by simp; omega), List.getElem?_append_right (by simp; omega), List.getElem?_drop]
  congr 1; simp; omega
theorem lay_set {α : Type} (l : List α) (ofs : Nat) (cs : List α) (c : α) (h : ofs + cs.length < l.length) : (lay l ofs cs).set (ofs + cs.length) c = lay l ofs (cs ++ [c]) := by
  have hm : min ofs l.length = ofs := by omega
  unfold lay
  rw [List.set_append_right _ _ (by simp; omega), List.set_append_right _ _ (by simp [hm])]
  rw [List.drop_eq_getElem_cons h]
  have e : ofs + cs.length - (List.take ofs l).length - cs.length = 0 := by simp [hm]
  rw [e, List.set_cons_zero]
  simp [Nat.add_assoc]
theorem lay_same {α : Type} (l : List α) (ofs : Nat) (cs : List α) (c : α) (h : l[ofs + cs.length]? = some c) : lay l ofs (cs ++ [c]) = lay l ofs cs := by
  have hlt : ofs + cs.length < l.length := by
    rcases Nat.lt_or_ge (ofs + cs.length) l.length with h1 | h1
    · exact h1
    · rw [List.getElem?_eq_none h1] at h; cases h
  rw [← lay_set l ofs cs c hlt]
  apply List.ext_getElem?
  intro i
  rw [List.getElem?_set]
  split
  · rename_i e; subst e
    rw [lay_get l ofs cs hlt, h, lay_len l ofs cs (by omega), if_pos hlt]
  · rfl
theorem tcount_set (l : List Bool) : ∀ (i : Nat), l[i]? = some false → (l.set i true).count true = l.count true + 1 := by
  induction l with
  | nil => intro i h; simp at h
  | cons a l ih =>
    intro i h
    cases i with
    | zero => simp at h; subst h; simp
    | succ i =>
      rw [List.set_cons_succ, List.count_cons, List.count_cons, ih i (by simpa using h)]; omega
theorem tcount_le (l : List Bool) : l.count true ≤ l.length := List.count_le_length
theorem put_ok (k : Book) (ofs : Nat) (tx : List UInt8) (h : k.ok) (hf : ofs + tx.length ≤ k.last.toNat) : (put k ofs tx).ok := by
  obtain ⟨h1, h2, h3, h4⟩ := h
  refine ⟨h1, h2, ?_, ?_⟩
  · simp only [put]; rw [lay_len _ _ _ (by omega)]; exact h3
  · simp only [put]; rw [lay_len _ _ _ (by simp; omega)]; exact h4
theorem fresh_ok (lsn last sum : Int) (h1 : 1 ≤ last) (h2 : last ≤ 16777216) : (fresh lsn last sum).ok := ⟨h1, h2, by simp [fresh], by simp [fresh]⟩
theorem hand_key (s : Option Book) (lsn last sum : Int) : (hand s lsn last sum).lsn = lsn ∧ (hand s lsn last sum).last = last ∧ (hand s lsn last sum).sum = sum := by
  unfold hand
  cases s with
  | none => exact ⟨rfl, rfl, rfl⟩
  | some k =>
    simp only
    split
    · assumption
    · exact ⟨rfl, rfl, rfl⟩
end Dk
open Dk

/-- A block known whole. -/
def RowH (w : World) (g : Nat) (e : TypeId) (xs : List Value) : Prop := w.heap[g]? = some (.cells xs.toArray e (0, 0))
theorem RowH.lt {w : World} {g : Nat} {e : TypeId} {xs : List Value} (h : RowH w g e xs) : g < w.heap.size := by
  rcases Nat.lt_or_ge g w.heap.size with h' | h'
  · exact h'
  · have h2 : w.heap[g]? = _ := h
    rw [Array.getElem?_eq_none h'] at h2; cases h2
theorem RowH.keep {F : Nat → Prop} {w w' : World} {g : Nat} {e : TypeId} {xs : List Value} (h : RowH w g e xs) (hc : Chg F w w') (hp : ¬ F g) : RowH w' g e xs := by
  unfold RowH; rw [hc.block g h.lt hp]; exact h
theorem RowH.cell {w : World} {g : Nat} {e : TypeId} {xs : List Value} (h : RowH w g e xs) (i : Nat) (v : Value) (hi : xs[i]? = some v) : w.cell? ⟨g, i, none⟩ = some v := by
  have h2 : w.heap[g]? = _ := h
  simp [World.cell?, h2, hi]
theorem RowH.frozen {w : World} {g : Nat} {e : TypeId} {xs : List Value} (h : RowH w g e xs) (i : Nat) : w.frozen? ⟨g, i, none⟩ = false := by
  have h2 : w.heap[g]? = _ := h
  simp [World.frozen?, h2]
theorem RowH.rowV {w : World} {g : Nat} {e : TypeId} {xs : List Value} (h : RowH w g e xs) : RowV w g xs := fun j v hj => ⟨h.cell j v hj, h.frozen j⟩
theorem RowH.new (w : World) (xs : List Value) (e : TypeId) : RowH (w.alloc (.cells xs.toArray e)) w.heap.size e xs := heap_alloc_new w _
theorem RowH.set {w : World} {g : Nat} {e : TypeId} {xs : List Value} (h : RowH w g e xs) (i : Nat) (v : Value) : RowH (w.setCell ⟨g, i, none⟩ v) g e (xs.set i v) := by
  have h2 : w.heap[g]? = _ := h
  rw [setCell_eq_setRow w g i _ e (0, 0) v h2]
  have := setRow_heap w g xs.toArray (xs.toArray.setIfInBounds i v) e _ h2
  unfold RowH; rw [this]; simp

def encY (l : List UInt8) : List Value := l.map fun b => Value.int .u8 (b.toNat : Nat)
theorem RowV.set7 {w : World} {B : Nat} {xs : List Value} (h : RowV w B xs) (hl : xs.length = 7) (v0 v1 v2 v3 v4 v5 v6 : Value) (W : World)
    (hW : W = ((((((w.setCell ⟨B, 0, none⟩ v0).setCell ⟨B, 1, none⟩ v1).setCell ⟨B, 2, none⟩ v2).setCell ⟨B, 3, none⟩ v3).setCell ⟨B, 4, none⟩ v4).setCell ⟨B, 5, none⟩ v5).setCell ⟨B, 6, none⟩ v6) :
    RowV W B [v0, v1, v2, v3, v4, v5, v6] ∧ Chg (fun k => k = B) w W ∧ W.heap.size = w.heap.size := by
  match xs, hl with
  | [y0, y1, y2, y3, y4, y5, y6], _ =>
    have h1 := ((((((h.set 0 (by simp) v0).set 1 (by simp) v1).set 2 (by simp) v2).set 3 (by simp) v3).set 4 (by simp) v4).set 5 (by simp) v5).set 6 (by simp) v6
    rw [hW]
    refine ⟨h1, ?_, by simp [World.setCell]⟩
    exact ((((((Chg.setCell w ⟨B, 0, none⟩ v0).trans (Chg.setCell _ ⟨B, 1, none⟩ v1) (fun _ _ x => x)).trans (Chg.setCell _ ⟨B, 2, none⟩ v2) (fun _ _ x => x)).trans (Chg.setCell _ ⟨B, 3, none⟩ v3) (fun _ _ x => x)).trans (Chg.setCell _ ⟨B, 4, none⟩ v4) (fun _ _ x => x)).trans (Chg.setCell _ ⟨B, 5, none⟩ v5) (fun _ _ x => x)).trans (Chg.setCell _ ⟨B, 6, none⟩ v6) (fun _ _ x => x)
theorem madeCells_rep (z : Value) (n : Nat) : madeCells #[z] n = (List.replicate n z).toArray := by
  apply Array.ext
  · simp [madeCells]
  · intro i h1 h2
    simp [madeCells, Nat.mod_one]
theorem run_copy_str {P : Program} (w : World) (dT sT ty elem : TypeId) (g o dLen dCap : Nat) (s : ByteArray) (cur : List Value) (t : TypeId)
    (hu : P.underlying dT = some (.slice elem)) (hs : (P.info? elem).map (·.size) = some 1)
    (hg : RowH w g t cur) (hn : s.size ≤ dLen) (hfit : o + s.size ≤ cur.length) :
    ∃ w', (Builtin.copy_ #[dT, sT] ty #[.slice (some ⟨g, o, none⟩) dLen dCap, .string s]).run P w = .ok (goInt s.size) w' ∧ RowH w' g t (lay cur o (encY s.data.toList)) ∧ Chg (fun k => k = g) w w' := by
  have hl : (encY s.data.toList).length = s.size := by rw [encY, List.length_map, ← size_toList]
  have hmin : Nat.min s.size dLen = s.size := Nat.min_eq_left hn
  have h1 : ∀ v ∈ encY s.data.toList, v.oneCell' = true := by
    intro v hv
    simp only [encY, List.mem_map] at hv
    obtain ⟨x, _, rfl⟩ := hv
    rfl
  have hst := run_storeCells_at P g o t (encY s.data.toList) 0 cur.toArray w hg (by simp [hl]; omega) h1
  have hcells : ((s.extract 0 s.size).data.map fun b => Value.int .u8 b.toNat).toList = encY s.data.toList := by
    have : s.extract 0 s.size = s := by simp
    rw [this]; simp [encY]
  refine ⟨w.setRow g (lay cur o (encY s.data.toList)).toArray, ?_, ?_, ?_⟩
  · cases hq : P.info? elem with
    | none => simp [hq] at hs
    | some i =>
      have hi : i.size = 1 := by simpa [hq] using hs
      have e2 : ((Builtin.firstCells 1 s.size (.string s)).run P w) = .ok ((s.extract 0 s.size).data.map fun b => Value.int .u8 b.toNat) w := rfl
      have e3 : (sizeOf elem).run P w = .ok 1 w := by simp [sizeOf, typeInfo, hq, hi]
      simp only [Builtin.copy_, run_underlying hu, Builtin.lenOf, Sem.run_bind, Sem.run_pure, Result.andThen_ok, List.getElem?_toArray, List.getElem?_cons_zero, List.getElem?_cons_succ, e3, hmin, e2, hcells, hst]
      simp [lay]
  · exact setRow_heap w g _ _ t _ hg
  · exact ⟨rfl, rfl, rfl, by simp [World.setRow], fun k _ hk => setRow_other w g k _ hk⟩
theorem wpList_copy_str {P : Program} {w : World} {ops : Array Oper} {rest : List Oper} {o : Oper} {a : Act} {Q : Exit → Act → World → Prop} (hgd : o.guard = none) (d s : Operand) (dT sT : TypeId)
    (ho : o.op = .call { callee := .builtin .copy, args := #[d, s], argTypes := #[dT, sT] }) (elem : TypeId) (hu : P.underlying dT = some (.slice elem)) (hsz : (P.info? elem).map (·.size) = some 1)
    (g off dLen dCap : Nat) (tx : ByteArray) (hd : a.eval d = .slice (some ⟨g, off, none⟩) dLen dCap) (hs : a.eval s = .string tx)
    (cur : List Value) (t : TypeId) (hg : RowH w g t cur) (hn : tx.size ≤ dLen) (hfit : off + tx.size ≤ cur.length)
    (h : ∀ w', RowH w' g t (lay cur off (encY tx.data.toList)) → Chg (fun k => k = g) w w' → wpList P ops Q rest (a.put o.dst (goInt tx.size)) w') : wpList P ops Q (o :: rest) a w := by
  obtain ⟨w', hr, h1, h2⟩ := run_copy_str (P := P) w dT sT o.type elem g off dLen dCap tx cur t hu hsz hg hn hfit
  refine wpList_plain hgd fun K hK => ?_
  unfold Oper.wp execOp
  simp only [ho, resolve, invoke, builtin, Sem.run_bind, Sem.run_pure, Result.andThen_ok, List.map_toArray, List.map_cons, List.map_nil, hd, hs, hr]
  exact hK _ _ (h w' h1 h2)
theorem lay_map {α β : Type} (f : α → β) (l : List α) (ofs : Nat) (cs : List α) : (lay l ofs cs).map f = lay (l.map f) ofs (cs.map f) := by simp [lay, List.map_take, List.map_drop]
theorem encY_lay (l : List UInt8) (ofs : Nat) (cs : List UInt8) : encY (lay l ofs cs) = lay (encY l) ofs (encY cs) := lay_map _ _ _ _
theorem encY_len (l : List UInt8) : (encY l).length = l.length := by simp [encY]
theorem RowH.string {P : Program} {w : World} {g : Nat} {t : TypeId} {l : List UInt8} (h : RowH w g t (encY l)) (src dst e : TypeId) (hs : P.underlying src = some (.slice e)) (he : P.underlying e = some (.int .u8)) (hd : P.underlying dst = some .string) (n cap : Nat) (hn : l.length = n) :
    (convert src dst (.slice (some ⟨g, 0, none⟩) n cap)).run P w = .ok (.string (mkS l)) w := by
  refine run_bytes_string w src dst e _ n cap l hs he hd hn ?_
  intro j b hb
  have hadd : (⟨g, 0, none⟩ : Addr).add j = ⟨g, j, none⟩ := by unfold Addr.add; split <;> simp_all
  rw [hadd]
  exact h.cell j _ (by rw [encY, List.getElem?_map, hb]; rfl)
end Go.Proofs.Ytmaebileagfdaaa
