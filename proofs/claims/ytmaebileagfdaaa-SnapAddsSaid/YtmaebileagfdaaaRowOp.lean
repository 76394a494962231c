/- An argument that is a slice of pieces, each with its key. -/
import Derived.Test.YtmaebileagfdaaaRow
namespace Go.Proofs.Ytmaebileagfdaaa
open Go.RowKit Go.ChangeShapes Go.WideShapes

/-- Three numbers (a key), a number and a text (a piece). -/
structure OpV where
  lsn : Int
  last : Int
  sum : Int
  ofs : Int
  tx : ByteArray
instance : Inhabited OpV := ⟨⟨0, 0, 0, 0, ⟨#[]⟩⟩⟩
def isOp (_ : World) (cs : List Value) (y : OpV) : Prop :=
  cs = [.int .i64 y.lsn, .int .i64 y.last, .int .u32 y.sum, .int .i64 y.ofs, .string y.tx] ∧ (Lit.int .i64 y.lsn).wf = true ∧ (Lit.int .i64 y.last).wf = true ∧ (Lit.int .u32 y.sum).wf = true ∧ (Lit.int .i64 y.ofs).wf = true ∧ y.tx.size ≤ 140737488351232
set_option maxRecDepth 100000 in
theorem isOp_of {H : Type} {enc : TypeId × Value → H} {w : World} {base : Nat} {spare : Nat → Bool} {held : Bool} :
    ∀ m cs (y : DataW H × List MemPlace), cs.length = 5 → DataW.trod enc Try.prog w base spare held m 52 cs = some y → Wt Try.prog 52 y.1 → ∃ z, isOp w cs z := by
  intro m cs y hl h hw
  obtain ⟨y0, m0, h0, w0⟩ := struct_field Try.underlying52 h hw 0 _ rfl
  obtain ⟨y1, m1, h1, w1⟩ := struct_field Try.underlying52 h hw 1 _ rfl
  match cs, hl with
  | [v0, v1, v2, v3, v4], _ =>
    have h0' : DataW.trod enc Try.prog w base spare held m0 26 [v0, v1, v2] = some y0 := h0
    have h1' : DataW.trod enc Try.prog w base spare held m1 34 [v3, v4] = some y1 := h1
    obtain ⟨a0, n0, k0, _⟩ := struct_field Try.underlying26 h0' w0 0 _ rfl
    obtain ⟨a1, n1, k1, _⟩ := struct_field Try.underlying26 h0' w0 1 _ rfl
    obtain ⟨a2, n2, k2, _⟩ := struct_field Try.underlying26 h0' w0 2 _ rfl
    obtain ⟨a3, n3, k3, _⟩ := struct_field Try.underlying34 h1' w1 0 _ rfl
    obtain ⟨a4, n4, k4, u4⟩ := struct_field Try.underlying34 h1' w1 1 _ rfl
    obtain ⟨z0, rfl, e0⟩ := intcell (v := v0) Try.underlying3 k0
    obtain ⟨z1, rfl, e1⟩ := intcell (v := v1) Try.underlying3 k1
    obtain ⟨z2, rfl, e2⟩ := intcell (v := v2) Try.underlying22 k2
    obtain ⟨z3, rfl, e3⟩ := intcell (v := v3) Try.underlying3 k3
    obtain ⟨s, rfl, e4⟩ := cell_string (v := v4) Try.underlying9 k4 u4
    exact ⟨⟨z0, z1, z2, z3, s⟩, rfl, e0, e1, e2, e3, e4⟩
end Go.Proofs.Ytmaebileagfdaaa
