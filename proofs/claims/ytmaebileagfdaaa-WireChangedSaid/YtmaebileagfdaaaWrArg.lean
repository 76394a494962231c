/- An argument that is a message. -/
import Derived.Test.YtmaebileagfdaaaWrD
import Derived.Test.YtmaebileagfdaaaRow
namespace Go.Proofs.Ytmaebileagfdaaa
open Go.RowKit Go.ChangeShapes Go.WideShapes Wr

theorem nine' {ys : List Value} (h : ys.length = 9) : ∃ y0 y1 y2 y3 y4 y5 y6 y7 y8, ys = [y0, y1, y2, y3, y4, y5, y6, y7, y8] :=
  match ys, h with
  | [y0, y1, y2, y3, y4, y5, y6, y7, y8], _ => ⟨y0, y1, y2, y3, y4, y5, y6, y7, y8, rfl⟩
def isStr (_ : World) (cs : List Value) (y : ByteArray) : Prop := cs = [.string y] ∧ y.size ≤ 140737488351232

/-- A field of one cell. -/
theorem struct_cell {H : Type} {enc : TypeId × Value → H} {P : Program} {w : World} {base : Nat} {spare : Nat → Bool} {held : Bool} {e : TypeId} {fs : Array Field} {n : Nat} {cs : List Value} {x : DataW H × List MemPlace} (he : P.underlying e = some (.struct fs)) (h : DataW.trod enc P w base spare held n e cs = some x) (hw : Wt P e x.1)
    (i o : Nat) (T : TypeId) (v : Value) (hf : (fs[i]?).map (fun f => (f.type, f.offset)) = some (T, o)) (hc : P.cellsOf T = 1) (hv : cs[o]? = some v) : ∃ y m, DataW.trod enc P w base spare held m T [v] = some y ∧ Wt P T y.1 := by
  cases hfi : fs[i]? with
  | none => rw [hfi] at hf; cases hf
  | some f =>
    rw [hfi] at hf
    simp only [Option.map_some, Option.some.injEq, Prod.mk.injEq] at hf
    obtain ⟨rfl, rfl⟩ := hf
    obtain ⟨y, m, h1, h2⟩ := struct_field he h hw i f hfi
    refine ⟨y, m, ?_, h2⟩
    rw [hc] at h1
    have hlt : f.offset < cs.length := by
      rcases Nat.lt_or_ge f.offset cs.length with h | h
      · exact h
      · rw [List.getElem?_eq_none h] at hv; cases hv
    have : (cs.drop f.offset).take 1 = [v] := by
      rw [List.getElem?_eq_getElem hlt] at hv
      rw [List.drop_eq_getElem_cons hlt, List.take_succ_cons, List.take_zero, Option.some.inj hv]
    rw [this] at h1
    exact h1

theorem msg_arg {H : Type} {enc : TypeId × Value → H} {w : World} {base : Nat} {spare : Nat → Bool} {held : Bool} {v : Value} {d : DataW H} {ps : List MemPlace} {cs : Array Value} (hv : v = .agg cs) (hcs : cs.size = Try.prog.cellsOf 80)
    (h : DataW.Trod enc Try.prog w base spare held 80 v d ps) (hw : Wt Try.prog 80 d) :
    ∃ m a n c, v = msgV m a n c ∧ MWf m ∧ m.su < 4294967296 ∧ m.rs.length = n ∧ n * 16 ≤ 140737488351232 ∧ (a = none → n = 0 ∧ c = 0) ∧ RowS w a m.rs ∧ m.tx.size ≤ 140737488351232 := by
  obtain ⟨fuel, hf⟩ := h
  subst hv
  have hl : cs.toList.length = 9 := by rw [Array.length_toList, hcs]; kernel_rfl
  obtain ⟨y0, y1, y2, y3, y4, y5, y6, y7, y8, hy⟩ := nine' hl
  have hcl : (Value.agg cs).cells.toList = [y0, y1, y2, y3, y4, y5, y6, y7, y8] := by rw [← hy]; rfl
  rw [hcl] at hf
  have cI : Try.prog.cellsOf 3 = 1 := by kernel_rfl
  have cU : Try.prog.cellsOf 22 = 1 := by kernel_rfl
  have cL : Try.prog.cellsOf 78 = 1 := by kernel_rfl
  have cS : Try.prog.cellsOf 9 = 1 := by kernel_rfl
  obtain ⟨x0, m0, g0, w0⟩ := struct_cell Try.underlying80 hf hw 0 0 3 y0 rfl cI rfl
  obtain ⟨x1, m1, g1, w1⟩ := struct_cell Try.underlying80 hf hw 1 1 3 y1 rfl cI rfl
  obtain ⟨x2, m2, g2, w2⟩ := struct_cell Try.underlying80 hf hw 2 2 3 y2 rfl cI rfl
  obtain ⟨x3, m3, g3, w3⟩ := struct_cell Try.underlying80 hf hw 3 3 3 y3 rfl cI rfl
  obtain ⟨x4, m4, g4, w4⟩ := struct_cell Try.underlying80 hf hw 4 4 3 y4 rfl cI rfl
  obtain ⟨x5, m5, g5, w5⟩ := struct_cell Try.underlying80 hf hw 5 5 3 y5 rfl cI rfl
  obtain ⟨x6, m6, g6, w6⟩ := struct_cell Try.underlying80 hf hw 6 6 22 y6 rfl cU rfl
  obtain ⟨x7, m7, g7, w7⟩ := struct_cell Try.underlying80 hf hw 7 7 78 y7 rfl cL rfl
  obtain ⟨x8, m8, g8, w8⟩ := struct_cell Try.underlying80 hf hw 8 8 9 y8 rfl cS rfl
  obtain ⟨k, rfl, wk⟩ := intcell Try.underlying3 g0
  obtain ⟨e, rfl, we⟩ := intcell Try.underlying3 g1
  obtain ⟨b, rfl, wb⟩ := intcell Try.underlying3 g2
  obtain ⟨l, rfl, wl⟩ := intcell Try.underlying3 g3
  obtain ⟨la, rfl, wla⟩ := intcell Try.underlying3 g4
  obtain ⟨ap, rfl, wap⟩ := intcell Try.underlying3 g5
  obtain ⟨su, rfl, wsu⟩ := intcell Try.underlying22 g6
  obtain ⟨tx, rfl, wtx⟩ := cell_string Try.underlying9 g8 w8
  have hsu : 0 ≤ su ∧ su < 4294967296 := by
    simp only [Lit.wf, IntKind.min, IntKind.max, IntKind.signed, IntKind.bits] at wsu
    simp at wsu
    omega
  obtain ⟨su, rfl⟩ := Int.eq_ofNat_of_zero_le hsu.1
  have hfrm : ∃ a n c, y7 = .slice a n c ∧ (a = none → n = 0 ∧ c = 0) := by
    rcases Go.Deep.open_slice Try.underlying78 g7 with ⟨hc, _⟩ | ⟨ad, l, c, m, k, D, Pl, hc, _⟩
    · simp only [List.cons.injEq, and_true] at hc; exact ⟨none, 0, 0, hc, fun _ => ⟨rfl, rfl⟩⟩
    · simp only [List.cons.injEq, and_true] at hc; exact ⟨some ad, l, c, hc, fun h => by cases h⟩
  obtain ⟨a, n, c, rfl, hnone⟩ := hfrm
  obtain ⟨rs, hrl, hrow, hby, _⟩ := rowG_of (R := isStr) (size := 1) Try.underlying78 cS g7 w7 (fun m cs y hl h hw => by
    match cs, hl with
    | [v0], _ =>
      obtain ⟨s, rfl, hs⟩ := cell_string Try.underlying9 h hw
      exact ⟨s, rfl, hs⟩)
  rw [show Try.prog.bytesOf 9 = 16 from by kernel_rfl] at hby
  have hrs : RowS w a rs := by
    refine ⟨?_⟩
    rcases hrow with h1 | ⟨x, hx, h1⟩
    · exact .inl h1
    · refine .inr ⟨x, hx, fun i r hr => ?_⟩
      obtain ⟨cs, hcs1, hcs2, hcs3, _⟩ := h1 i r hr
      have := hcs2 0 (.string r) (by rw [hcs3]; rfl)
      rw [Nat.mul_one, Nat.add_zero] at this
      exact this
  have hagg : Value.agg cs = .agg #[.int .i64 k, .int .i64 e, .int .i64 b, .int .i64 l, .int .i64 la, .int .i64 ap, .int .u32 (su : Nat), .slice a n c, .string tx] := by
    rw [← Array.toArray_toList (xs := cs), hy]
  exact ⟨⟨k, e, b, l, la, ap, su, rs, tx⟩, a, n, c, hagg, ⟨wk, we, wb, wl, wla, wap⟩, by simp only; omega, hrl, hby, hnone, hrs, wtx⟩
end Go.Proofs.Ytmaebileagfdaaa
