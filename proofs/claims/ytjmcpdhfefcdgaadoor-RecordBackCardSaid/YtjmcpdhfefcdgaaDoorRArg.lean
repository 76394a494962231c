/- Arguments that are records or samples. -/
import Derived.Test.YtjmcpdhfefcdgaaDoorRi
import Derived.Test.YtjmcpdhfefcdgaaDoorRow
namespace Go.Proofs.YtjmcpdhfefcdgaaDoor
open Go.RowKit Go.ChangeShapes Go.WideShapes Lb

/-- A field of one cell. -/
theorem struct_cell {H : Type} {enc : TypeId × Value → H} {P : Program} {w : World} {base : Nat} {spare : Nat → Bool} {held : Bool} {e : TypeId} {fs : Array Field} {n : Nat} {cs : List Value} {x : DataW H × List MemPlace} (he : P.underlying e = some (.struct fs)) (h : DataW.trod enc P w base spare held n e cs = some x) (hw : Wt P e x.1)
    (i o : Nat) (T : TypeId) (v : Value) (hf : (fs[i]?).map (fun f => (f.type, f.offset)) = some (T, o)) (hc : P.cellsOf T = 1) (hv : cs[o]? = some v) : ∃ y m, DataW.trod enc P w base spare held m T [v] = some y ∧ Wt P T y.1 := by
  cases hfi : fs[i]? with
  | none => rw [hfi] at hf; cases hf
  | some f =>
    rw [hfi] at hf
    simp only [Option.map_some, Option.some.injEq, Prod.mk.injEq] at hf
    obtain ⟨rfl, rfl⟩ := hf
    obtain ⟨y, m, h1, h2⟩ := struct_field he h hw i f hfi
    refine ⟨y, m, ?_, h2⟩
    rw [hc] at h1
    have hlt : f.offset < cs.length := by
      rcases Nat.lt_or_ge f.offset cs.length with h | h
      · exact h
      · rw [List.getElem?_eq_none h] at hv; cases hv
    have : (cs.drop f.offset).take 1 = [v] := by
      rw [List.getElem?_eq_getElem hlt] at hv
      rw [List.drop_eq_getElem_cons hlt, List.take_succ_cons, List.take_zero, Option.some.inj hv]
    rw [this] at h1
    exact h1
theorem three' {ys : List Value} (h : ys.length = 3) : ∃ y0 y1 y2, ys = [y0, y1, y2] :=
  match ys, h with
  | [y0, y1, y2], _ => ⟨y0, y1, y2, rfl⟩
theorem five' {ys : List Value} (h : ys.length = 5) : ∃ y0 y1 y2 y3 y4, ys = [y0, y1, y2, y3, y4] :=
  match ys, h with
  | [y0, y1, y2, y3, y4], _ => ⟨y0, y1, y2, y3, y4, rfl⟩
theorem wfr_i64 {z : Int} (h : (Lit.int .i64 z).wf = true) : -9223372036854775808 ≤ z ∧ z < 9223372036854775808 := by
  simp only [Lit.wf, IntKind.min, IntKind.max, IntKind.signed, IntKind.bits] at h
  simp at h
  omega
theorem wfr_u64 {z : Int} (h : (Lit.int .u64 z).wf = true) : 0 ≤ z ∧ z < 18446744073709551616 := by
  simp only [Lit.wf, IntKind.min, IntKind.max, IntKind.signed, IntKind.bits] at h
  simp at h
  omega
theorem slice_form {H : Type} {enc : TypeId × Value → H} {P : Program} {w : World} {base : Nat} {spare : Nat → Bool} {held : Bool} {t e : TypeId} {n : Nat} {v : Value} {x : DataW H × List MemPlace} (ht : P.underlying t = some (.slice e)) (h : DataW.trod enc P w base spare held n t [v] = some x) : ∃ a n c, v = .slice a n c := by
  rcases Go.Deep.open_slice ht h with ⟨hc, _⟩ | ⟨ad, l, c, m, k, D, Pl, hc, _⟩
  · simp only [List.cons.injEq, and_true] at hc; exact ⟨none, 0, 0, hc⟩
  · simp only [List.cons.injEq, and_true] at hc; exact ⟨some ad, l, c, hc⟩
/-- A sample's three cells. -/
theorem isSm_of {H : Type} {enc : TypeId × Value → H} {w : World} {base : Nat} {spare : Nat → Bool} {held : Bool} :
    ∀ m cs (y : DataW H × List MemPlace), cs.length = 3 → DataW.trod enc Tryd.prog w base spare held m 43 cs = some y → Wt Tryd.prog 43 y.1 → ∃ z, isSm w cs z := by
  intro m cs y hl h hw
  obtain ⟨y0, y1, y2, rfl⟩ := three' hl
  obtain ⟨x0, m0, g0, w0⟩ := struct_cell Tryd.underlying43 h hw 0 0 40 y0 rfl (by kernel_rfl) rfl
  obtain ⟨x1, m1, g1, w1⟩ := struct_cell Tryd.underlying43 h hw 1 1 2 y1 rfl (by kernel_rfl) rfl
  obtain ⟨x2, m2, g2, w2⟩ := struct_cell Tryd.underlying43 h hw 2 2 41 y2 rfl (by kernel_rfl) rfl
  obtain ⟨t, rfl, ht⟩ := intcell Tryd.underlying2 g1
  obtain ⟨v, rfl, hv⟩ := intcell Tryd.underlying41 g2
  obtain ⟨a, n, c, rfl⟩ := slice_form Tryd.underlying40 g0
  obtain ⟨z, zl, zr, zb, _⟩ := rowG_of (R := isSS) (size := 2) Tryd.underlying40 (by kernel_rfl) g0 w0 (isSS_of Tryd.underlying47 rfl rfl (by kernel_rfl) (by kernel_rfl) Tryd.underlying9 Tryd.underlying9)
  rw [show Tryd.prog.bytesOf 47 = 32 from by kernel_rfl] at zb
  have q := capG_of Tryd.underlying40 g0
  obtain ⟨hq, hsz⟩ := RowQ.of_rowG zr
  have hv2 := wfr_u64 hv
  obtain ⟨v, rfl⟩ := Int.eq_ofNat_of_zero_le hv2.1
  exact ⟨(z, t, v), a, n, c, rfl, hq, zl, q, zb, hsz, wfr_i64 ht, by simp only; omega⟩
theorem rec_arg {H : Type} {enc : TypeId × Value → H} {w : World} {base : Nat} {spare : Nat → Bool} {held : Bool} {v : Value} {d : DataW H} {ps : List MemPlace} {cs : Array Value} (hv : v = .agg cs) (hcs : cs.size = Tryd.prog.cellsOf 25)
    (h : DataW.Trod enc Tryd.prog w base spare held 25 v d ps) (hw : Wt Tryd.prog 25 d) :
    ∃ k sm ms fr tt a n c b n' c', v = .agg #[.int .i64 k, .slice a n c, .slice b n' c', .int .i64 fr, .int .i64 tt] ∧ n * 40 ≤ 140737488351232 ∧ n' * 40 ≤ 140737488351232 ∧ RecIn w k sm ms fr tt a n c b n' c' ∧ ((b = none → c' = 0) ∧ n' ≤ c') ∧ ((a = none → c = 0) ∧ n ≤ c) := by
  obtain ⟨fuel, hf⟩ := h
  subst hv
  have hl : cs.toList.length = 5 := by rw [Array.length_toList, hcs]; kernel_rfl
  obtain ⟨y0, y1, y2, y3, y4, hy⟩ := five' hl
  have hcl : (Value.agg cs).cells.toList = [y0, y1, y2, y3, y4] := by rw [← hy]; rfl
  rw [hcl] at hf
  obtain ⟨x0, m0, g0, w0⟩ := struct_cell Tryd.underlying25 hf hw 0 0 3 y0 rfl (by kernel_rfl) rfl
  obtain ⟨x1, m1, g1, w1⟩ := struct_cell Tryd.underlying25 hf hw 1 1 22 y1 rfl (by kernel_rfl) rfl
  obtain ⟨x2, m2, g2, w2⟩ := struct_cell Tryd.underlying25 hf hw 2 2 23 y2 rfl (by kernel_rfl) rfl
  obtain ⟨x3, m3, g3, w3⟩ := struct_cell Tryd.underlying25 hf hw 3 3 2 y3 rfl (by kernel_rfl) rfl
  obtain ⟨x4, m4, g4, w4⟩ := struct_cell Tryd.underlying25 hf hw 4 4 2 y4 rfl (by kernel_rfl) rfl
  obtain ⟨k, rfl, hk⟩ := intcell Tryd.underlying3 g0
  obtain ⟨fr, rfl, hfr⟩ := intcell Tryd.underlying2 g3
  obtain ⟨tt, rfl, htt⟩ := intcell Tryd.underlying2 g4
  obtain ⟨a, n, c, rfl⟩ := slice_form Tryd.underlying22 g1
  obtain ⟨b, n', c', rfl⟩ := slice_form Tryd.underlying23 g2
  obtain ⟨sm, zl, zr, zb, _⟩ := rowG_of (R := isSm) (size := 3) Tryd.underlying22 (by kernel_rfl) g1 w1 isSm_of
  obtain ⟨ms, zl', zr', zb', _⟩ := rowG_of (R := isMt) (size := 3) Tryd.underlying23 (by kernel_rfl) g2 w2 (isMt_of Tryd.underlying88 rfl rfl rfl (by kernel_rfl) (by kernel_rfl) (by kernel_rfl) Tryd.underlying3 Tryd.underlying9 Tryd.underlying9)
  rw [show Tryd.prog.bytesOf 43 = 40 from by kernel_rfl] at zb
  rw [show Tryd.prog.bytesOf 88 = 40 from by kernel_rfl] at zb'
  have q := capG_of Tryd.underlying22 g1
  have q' := capG_of Tryd.underlying23 g2
  have hcs2 : cs = #[.int .i64 k, .slice a n c, .slice b n' c', .int .i64 fr, .int .i64 tt] := by cases cs; simp_all
  exact ⟨k, sm, ms, fr, tt, a, n, c, b, n', c', by rw [hcs2], zb, zb', ⟨zr, zl, zr', zl', by omega, by omega, wfr_i64 hfr, wfr_i64 htt⟩, q', q⟩
end Go.Proofs.YtjmcpdhfefcdgaaDoor
