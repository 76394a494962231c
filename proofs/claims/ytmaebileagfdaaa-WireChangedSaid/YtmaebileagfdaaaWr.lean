/- Messages, in plain lists. No program in sight. -/
import Derived.Test.YtmaebileagfdaaaFrameG
import Derived.Test.YtmaebileagfdaaaSlice
namespace Go.Proofs.Ytmaebileagfdaaa
open Go.RowKit Dig

namespace Wr
structure Msg where
  k : Int
  e : Int
  b : Int
  l : Int
  la : Int
  ap : Int
  su : Nat
  rs : List ByteArray
  tx : ByteArray

def inB (low n : Int) : Bool := decide (low ≤ n) && decide (n ≤ 99999999)
def recsB (rs : List ByteArray) : Bool := rs.all fun r => decide (1 ≤ r.size) && decide (r.size ≤ 65536)
def noB (m : Msg) : Bool := decide (m.la = 0) && decide (m.ap = 0) && decide (m.su = 0) && decide (m.tx.size = 0)
def headB (m : Msg) : Bool := inB 1 m.e && (inB 0 m.b && (inB 0 m.l && inB 0 m.ap))
def pieceB (m : Msg) : Bool := decide (m.rs.length = 0) && decide (1 ≤ m.tx.size) && decide (m.tx.size ≤ 256) && decide (1 ≤ m.la) && decide (m.la ≤ 16777216) && decide (m.ap ≤ m.la - m.tx.size)
def dataB (m : Msg) : Bool := noB m && decide (0 < m.l) && (recsB m.rs && decide (m.rs.length ≤ 4))
def bareB (m : Msg) : Bool := noB m && decide (m.rs.length = 0)
def okB (m : Msg) : Bool := headB m &&
  (if m.k = 2 then dataB m else if m.k = 4 then pieceB m else if m.k = 5 then bareB m && decide (m.l = 0) else bareB m && decide (m.b = 0))
/-- What is wrong with a message. -/
def chk (m : Msg) : Nat := if m.k < 1 ∨ 5 < m.k then 5 else if okB m then 0 else 3
/-- The message as a value. -/
def msgV (m : Msg) (a : Option Addr) (n c : Nat) : Value := .agg #[.int .i64 m.k, .int .i64 m.e, .int .i64 m.b, .int .i64 m.l, .int .i64 m.la, .int .i64 m.ap, .int .u32 (m.su : Nat), .slice a n c, .string m.tx]
end Wr

/-- Strings in a row. -/
structure RowS (w : World) (a : Option Addr) (rs : List ByteArray) : Prop where
  row : rs = [] ∨ ∃ x, a = some x ∧ ∀ i r, rs[i]? = some r → w.cell? (x.add i) = some (.string r)
theorem RowS.below {w w' : World} {a : Option Addr} {rs : List ByteArray} (h : RowS w a rs) (hb : Below w.heap.size w w') : RowS w' a rs := by
  refine ⟨?_⟩
  rcases h.row with h | ⟨x, hx, hc⟩
  · exact .inl h
  · exact .inr ⟨x, hx, fun i r hr => (Chg.of_below (fun _ => False) hb).cell (hc i r hr) (fun x => x)⟩
end Go.Proofs.Ytmaebileagfdaaa
