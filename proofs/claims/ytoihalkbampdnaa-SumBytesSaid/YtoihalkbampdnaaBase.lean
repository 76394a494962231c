/- Small facts about the model's worlds and strings that many walks share. -/
import Derived.Test.YtoihalkbampdnaaProg
import Derived.WalkKit
import Derived.KernelRfl
import Derived.RowKit3
import Derived.Below
import Derived.Tactics
import Derived.LoopTactic
import Derived.Outline
import Derived.Lib.Hide
import Derived.Laws.BytesString
import Derived.Laws.BytesArg
import Derived.Lib.ConvBytes
import Derived.Laws.OwnMore
import Derived.Laws.MakeOwn
import Derived.Laws.Slices
import Derived.Laws.BitsLemmas
import Derived.IntWalk
import Derived.Deep.Draws
import Derived.Deep.QuietTactic
import Derived.BigQuiet
import Derived.Deep.DeepCutAuto
namespace Go.Proofs.Ytoihalkbampdnaa
open Go.RowKit

theorem ret_int {k : IntKind} {a b : Int} (h : a = b) : Ending.returned (.int k a) = .returned (.int k b) := by rw [h]
theorem ret_bool {a b : Bool} (h : a = b) : Ending.returned (.bool a) = .returned (.bool b) := by rw [h]
theorem ret_str {a b : ByteArray} (h : a = b) : Ending.returned (.string a) = .returned (.string b) := by rw [h]

theorem take_snoc (s : ByteArray) (k : Nat) (h : k < s.size) : s.data.toList.take (k + 1) = s.data.toList.take k ++ [s[k]] := by
  rw [List.take_succ_eq_append_getElem (by simpa using h)]; rfl

/-- A string out of a list of bytes. -/
def mkS (l : List UInt8) : ByteArray := ⟨l.toArray⟩
theorem mkS_toList (s : ByteArray) : mkS s.data.toList = s := by simp [mkS]
theorem mkS_data (l : List UInt8) : (mkS l).data.toList = l := by simp [mkS]
theorem mkS_size (l : List UInt8) : (mkS l).size = l.length := by simp [mkS, ByteArray.size]
theorem mkS_append (a b : List UInt8) : mkS a ++ mkS b = mkS (a ++ b) := by
  apply ByteArray.ext; simp [mkS, ByteArray.data_append]

theorem foldl_push (l : List UInt8) (s : ByteArray) : (l.map fun b => ((b.toNat : Nat) : Int)).foldl (fun r n => r.push (UInt8.ofNat n.toNat)) s = mkS (s.data.toList ++ l) := by
  induction l generalizing s with
  | nil => simp [mkS]
  | cons b l ih => simp only [List.map_cons, List.foldl_cons]; rw [ih]; simp [mkS, ByteArray.push]

/-- The cells from an address on are these bytes. -/
def BytesAt (w : World) (a : Addr) (l : List UInt8) : Prop := ∀ j (b : UInt8), l[j]? = some b → w.cell? (a.add j) = some (.int .u8 (b.toNat : Nat))

theorem run_bytes_string {P : Program} (w : World) (src dst e : TypeId) (a : Addr) (len cap : Nat) (l : List UInt8)
    (hs : P.underlying src = some (.slice e)) (he : P.underlying e = some (.int .u8)) (hd : P.underlying dst = some .string)
    (hl : l.length = len) (h : BytesAt w a l) :
    (convert src dst (.slice (some a) len cap)).run P w = .ok (.string (mkS l)) w := by
  rw [run_convert_bytes_string w src dst e _ _ _ hs he hd]
  have := run_bytesToString (P := P) w a len cap (l.map fun b => ((b.toNat : Nat) : Int)) (by
    have h2 := run_loadCells_list (P := P) w a (l.map fun b => Value.int .u8 (b.toNat : Nat)) (by
      intro j v hv
      rw [List.getElem?_map] at hv
      cases hb : l[j]? with
      | none => simp [hb] at hv
      | some b => simp [hb] at hv; rw [← hv]; exact h j b hb)
    rw [List.length_map, hl] at h2
    rw [h2]; congr 1; simp)
  rw [this, foldl_push]; rfl

theorem run_bytes_string_new {P : Program} (w : World) (src dst e : TypeId) (cs : Array Value) (len cap : Nat) (l : List UInt8)
    (hs : P.underlying src = some (.slice e)) (he : P.underlying e = some (.int .u8)) (hd : P.underlying dst = some .string)
    (hl : l.length = len) (hc : cs = (l.map fun b => Value.int .u8 (b.toNat : Nat)).toArray) :
    (convert src dst (.slice (some ⟨w.heap.size, 0, none⟩) len cap)).run P (w.alloc (.cells cs e)) = .ok (.string (mkS l)) (w.alloc (.cells cs e)) := by
  refine run_bytes_string _ src dst e _ len cap l hs he hd hl ?_
  intro j b hb
  subst hc
  have hj : j < l.length := by
    rcases Nat.lt_or_ge j l.length with h | h
    · exact h
    · rw [List.getElem?_eq_none h] at hb; cases hb
  rw [List.getElem?_eq_getElem hj] at hb
  cases hb
  have e1 : (Addr.add ⟨w.heap.size, 0, none⟩ j) = ⟨w.heap.size, j, none⟩ := by unfold Addr.add; split <;> simp [*]
  rw [e1]
  simp [World.cell?, World.alloc, -World.alloc_eq, hj]

theorem below_tr {w w1 w2 : World} (h1 : Below w.heap.size w w1) (h2 : Below w1.heap.size w1 w2) : Below w.heap.size w w2 :=
  h1.trans (h2.mono h1.size)

theorem wf_u8 {n : Int} (h : (Lit.int .u8 n).wf = true) : 0 ≤ n ∧ n < 256 := by
  simp [Lit.wf, IntKind.min, IntKind.max, IntKind.signed, IntKind.bits] at h; omega
theorem wf_u32 {n : Int} (h : (Lit.int .u32 n).wf = true) : 0 ≤ n ∧ n < 4294967296 := by
  simp [Lit.wf, IntKind.min, IntKind.max, IntKind.signed, IntKind.bits] at h; omega
theorem wf_u64 {n : Int} (h : (Lit.int .u64 n).wf = true) : 0 ≤ n ∧ n < 18446744073709551616 := by
  simp [Lit.wf, IntKind.min, IntKind.max, IntKind.signed, IntKind.bits] at h; omega
theorem wf_i64 {n : Int} (h : (Lit.int .i64 n).wf = true) : -9223372036854775808 ≤ n ∧ n < 9223372036854775808 := by
  simp [Lit.wf, IntKind.min, IntKind.max, IntKind.signed, IntKind.bits] at h; omega

theorem u8_of {a : Int} (h0 : 0 ≤ a) (h1 : a < 256) : ∃ u : UInt8, a = ((u.toNat : Nat) : Int) := by
  obtain ⟨n, rfl⟩ := Int.eq_ofNat_of_zero_le h0
  exact ⟨UInt8.ofNat n, by simp; omega⟩
theorem append_mkS (s : ByteArray) (l : List UInt8) : (s ++ mkS l).data.toList = s.data.toList ++ l := by simp [mkS]

/-- One byte as a string, whatever else is in memory: as a rule for a walk. -/
theorem run_byte_string {P : Program} (src dst e : TypeId) (u : UInt8)
    (hs : P.underlying src = some (.slice e)) (he : P.underlying e = some (.int .u8)) (hd : P.underlying dst = some .string) (W : World) (g cap : Nat)
    (h : W.cell? ⟨g, 0, none⟩ = some (.int .u8 (u.toNat : Nat))) :
    (convert src dst (.slice (some ⟨g, 0, none⟩) 1 cap)).run P W = .ok (.string (mkS [u])) W := by
  refine run_bytes_string W src dst e _ 1 cap [u] hs he hd rfl ?_
  intro j b hb
  match j, hb with
  | 0, hb => simp at hb; subst hb; simpa [Addr.add] using h
  | j + 1, hb => simp at hb

theorem bcell {W w1 : World} (hb : Below W.heap.size W w1) : (∀ b o, b < W.heap.size → w1.cell? ⟨b, o, none⟩ = W.cell? ⟨b, o, none⟩) ∧ (∀ b o, b < W.heap.size → w1.frozen? ⟨b, o, none⟩ = W.frozen? ⟨b, o, none⟩) :=
  ⟨fun b o h => hb.cell (p := ⟨b, o, none⟩) h, fun b o h => hb.frozen (p := ⟨b, o, none⟩) h⟩

theorem below_drewN {B : Nat} {a w : World} (h : Below B a w) (n : Nat) : Below B a (w.drewN n) := h.trans ⟨rfl, rfl, rfl, Nat.le_refl _, fun _ _ => rfl⟩
theorem beq_cast_iff {a b : Nat} {u v : UInt8} (h : a = b ↔ u = v) : (((a : Int) == (b : Int)) == (((u.toNat : Nat) : Int) == ((v.toNat : Nat) : Int))) = true := by
  by_cases e : u = v
  · have := h.mpr e; subst e; subst this; simp
  · have h1 : ¬ a = b := fun x => e (h.mp x)
    have h2 : ¬ u.toNat = v.toNat := fun x => e (UInt8.toNat_inj.mp x)
    have h3 : ((a : Int) == (b : Int)) = false := by rw [beq_eq_false_iff_ne]; omega
    have h4 : (((u.toNat : Nat) : Int) == ((v.toNat : Nat) : Int)) = false := by rw [beq_eq_false_iff_ne]; omega
    rw [h3, h4]; rfl
end Go.Proofs.Ytoihalkbampdnaa
