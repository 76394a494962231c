/- Small facts about the model's worlds and strings that many walks share. -/
import Derived.Test.YtjmcpdhfefcdgaaDoorProg
import Derived.WalkKit
import Derived.KernelRfl
import Derived.RowKit3
import Derived.Below
import Derived.Tactics
import Derived.LoopTactic
import Derived.Outline
import Derived.Lib.Hide
import Derived.Laws.BytesString
import Derived.Laws.BytesArg
import Derived.Lib.ConvBytes
import Derived.Laws.OwnMore
import Derived.Laws.MakeOwn
import Derived.Laws.Slices
import Derived.Laws.BitsLemmas
import Derived.IntWalk
import Derived.Deep.Draws
import Derived.Deep.QuietTactic
import Derived.BigQuiet
import Derived.Deep.DeepCutAuto
namespace Go.Proofs.YtjmcpdhfefcdgaaDoor
open Go.RowKit

theorem ret_int {k : IntKind} {a b : Int} (h : a = b) : Ending.returned (.int k a) = .returned (.int k b) := by rw [h]
theorem ret_bool {a b : Bool} (h : a = b) : Ending.returned (.bool a) = .returned (.bool b) := by rw [h]
theorem ret_str {a b : ByteArray} (h : a = b) : Ending.returned (.string a) = .returned (.string b) := by rw [h]

theorem take_snoc (s : ByteArray) (k : Nat) (h : k < s.size) : s.data.toList.take (k + 1) = s.data.toList.take k ++ [s[k]] := by
  rw [List.take_succ_eq_append_getElem (by simpa using h)]; rfl

/-- A string out of a list of bytes. -/
def mkS (l : List UInt8) : ByteArray := ⟨l.toArray⟩
theorem mkS_toList (s : ByteArray) : mkS s.data.toList = s := by simp [mkS]
theorem mkS_data (l : List UInt8) : (mkS l).data.toList = l := by simp [mkS]
theorem mkS_size (l : List UInt8) : (mkS l).size = l.length := by simp [mkS, ByteArray.size]
theorem mkS_append (a b : List UInt8) : mkS a ++ mkS b = mkS (a ++ b) := by
  apply ByteArray.ext; simp [mkS, ByteArray.data_append]

theorem foldl_push (l : List UInt8) (s : ByteArray) : (l.map fun b => ((b.toNat : Nat) : Int)).foldl (fun r n => r.push (UInt8.ofNat n.toNat)) s = mkS (s.data.toList ++ l) := by
  induction l generalizing s with
  | nil => simp [mkS]
  | cons b l ih => simp only [List.map_cons, List.foldl_cons]; rw [ih]; simp [mkS, ByteArray.push]

/-- The cells from an address on are these bytes. -/
def BytesAt (w : World) (a : Addr) (l : List UInt8) : Prop := ∀ j (b : UInt8), l[j]? = some b → w.cell? (a.add j) = some (.int .u8 (b.toNat : Nat))

theorem run_bytes_string {P : Program} (w : World) (src dst e : TypeId) (a : Addr) (len cap : Nat) (l : List UInt8)
    (hs : P.underlying src = some (.slice e)) (he : P.underlying e = some (.int .u8)) (hd : P.underlying dst = some .string)
    (hl : l.length = len) (h : BytesAt w a l) :
    (convert src dst (.slice (some a) len cap)).run P w = .ok (.string (mkS l)) w := by
  rw [run_convert_bytes_string w src dst e _ _ _ hs he hd]
  have := run_bytesToString (P := P) w a len cap (l.map fun b => ((b.toNat : Nat) : Int)) (by
    have h2 := run_loadCells_list (P := P) w a (l.map fun b => Value.int .u8 (b.toNat : Nat)) (by
      intro j v hv
      rw [List.getElem?_map] at hv
      cases hb : l[j]? with
      | none => simp [hb] at hv
      | some b => simp [hb] at hv; rw [← hv]; exact h j b hb)
    rw [List.length_map, hl] at h2
    rw [h2]; congr 1; simp)
  rw [this, foldl_push]; rfl

theorem run_bytes_string_new {P : Program} (w : World) (src dst e : TypeId) (cs : Array Value) (len cap : Nat) (l : List UInt8)
    (hs : P.underlying src = some (.slice e)) (he : P.underlying e = some (.int .u8)) (hd : P.underlying dst = some .string)
    (hl : l.length = len) (hc : cs = (l.map fun b => Value.int .u8 (b.toNat : Nat)).toArray) :
    (convert src dst (.slice (some ⟨w.heap.size, 0, none⟩) len cap)).run P (w.alloc (.cells cs e)) = .ok (.string (mkS l)) (w.alloc (.cells cs e)) := by
  refine run_bytes_string _ src dst e _ len cap l hs he hd hl ?_
  intro j b hb
  subst hc
  have hj : j < l.length := by
    rcases Nat.lt_or_ge j l.length with h | h
    · exact h
    · rw [List.getElem?_eq_none h] at hb; cases hb
  rw [List.getElem?_eq_getElem hj] at hb
  cases hb
  have e1 : (Addr.add ⟨w.heap.size, 0, none⟩ j) = ⟨w.heap.size, j, none⟩ := by unfold Addr.add; split <;> simp [*]
  rw [e1]
  simp [World.cell?, World.alloc, -World.alloc_eq, hj]

theorem below_tr {w w1 w2 : World} (h1 : Below w.heap.size w w1) (h2 : Below w1.heap.size w1 w2) : Below w.heap.size w w2 :=
  h1.trans (h2.mono h1.size)

theorem wf_u8 {n : Int} (h : (Lit.int .u8 n).wf = true) : 0 ≤ n ∧ n < 256 := by
  simp [Lit.wf, IntKind.min, IntKind.max, IntKind.signed, IntKind.bits] at h; omega
theorem wf_u32 {n : Int} (h : (Lit.int .u32 n).wf = true) : 0 ≤ n ∧ n < 4294967296 := by
  simp [Lit.wf, IntKind.min, IntKind.max, IntKind.signed, IntKind.bits] at h; omega
theorem wf_u64 {n : Int} (h : (Lit.int .u64 n).wf = true) : 0 ≤ n ∧ n < 18446744073709551616 := by
  simp [Lit.wf, IntKind.min, IntKind.max, IntKind.signed, IntKind.bits] at h; omega
theorem wf_i64 {n : Int} (h : (Lit.int .i64 n).wf = true) : -9223372036854775808 ≤ n ∧ n < 9223372036854775808 := by
  simp [Lit.wf, IntKind.min, IntKind.max, IntKind.signed, IntKind.bits] at h; omega

theorem u8_of {a : Int} (h0 : 0 ≤ a) (h1 : a < 256) : ∃ u : UInt8, a = ((u.toNat : Nat) : Int) := by
  obtain ⟨n, rfl⟩ := Int.eq_ofNat_of_zero_le h0
  exact ⟨UInt8.ofNat n, by simp; omega⟩
theorem append_mkS (s : ByteArray) (l : List UInt8) : (s ++ mkS l).data.toList = s.data.toList ++ l := by simp [mkS]

/-- One byte as a string, whatever else is in memory: as a rule for a walk. -/
theorem run_byte_string {P : Program} (src dst e : TypeId) (u : UInt8)
    (hs : P.underlying src = some (.slice e)) (he : P.underlying e = some (.int .u8)) (hd : P.underlying dst = some .string) (W : World) (g cap : Nat)
    (h : W.cell? ⟨g, 0, none⟩ = some (.int .u8 (u.toNat : Nat))) :
    (convert src dst (.slice (some ⟨g, 0, none⟩) 1 cap)).run P W = .ok (.string (mkS [u])) W := by
  refine run_bytes_string W src dst e _ 1 cap [u] hs he hd rfl ?_
  intro j b hb
  match j, hb with
  | 0, hb => simp at hb; subst hb; simpa [Addr.add] using h
  | j + 1, hb => simp at hb

theorem bcell {W w1 : World} (hb : Below W.heap.size W w1) : (∀ b o, b < W.heap.size → w1.cell? ⟨b, o, none⟩ = W.cell? ⟨b, o, none⟩) ∧ (∀ b o, b < W.heap.size → w1.frozen? ⟨b, o, none⟩ = W.frozen? ⟨b, o, none⟩) :=
  ⟨fun b o h => hb.cell (p := ⟨b, o, none⟩) h, fun b o h => hb.frozen (p := ⟨b, o, none⟩) h⟩

theorem below_drewN {B : Nat} {a w : World} (h : Below B a w) (n : Nat) : Below B a (w.drewN n) := h.trans ⟨rfl, rfl, rfl, Nat.le_refl _, fun _ _ => rfl⟩
theorem beq_cast_iff {a b : Nat} {u v : UInt8} (h : a = b ↔ u = v) : (((a : Int) == (b : Int)) == (((u.toNat : Nat) : Int) == ((v.toNat : Nat) : Int))) = true := by
  by_cases e : u = v
  · have := h.mpr e; subst e; subst this; simp
  · have h1 : ¬ a = b := fun x => e (h.mp x)
    have h2 : ¬ u.toNat = v.toNat := fun x => e (UInt8.toNat_inj.mp x)
    have h3 : ((a : Int) == (b : Int)) = false := by rw [beq_eq_false_iff_ne]; omega
    have h4 : (((u.toNat : Nat) : Int) == ((v.toNat : Nat) : Int)) = false := by rw [beq_eq_false_iff_ne]; omega
    rw [h3, h4]; rfl

/-- A row of bytes that may be written: the block's first cells are these bytes. -/
def RowB (w : World) (g : Nat) (l : List UInt8) : Prop := ∀ j (b : UInt8), l[j]? = some b → w.cell? ⟨g, j, none⟩ = some (.int .u8 (b.toNat : Nat)) ∧ w.frozen? ⟨g, j, none⟩ = false
theorem RowB.drew {w : World} {g : Nat} {l : List UInt8} (h : RowB w g l) : RowB w.drew g l := h
theorem RowB.lt {w : World} {g : Nat} {l : List UInt8} (h : RowB w g l) (hl : 0 < l.length) : g < w.heap.size := by
  have h1 := (h 0 l[0] (by rw [List.getElem?_eq_getElem hl])).1
  exact World.block_lt_of_cell? w _ h1
theorem RowB.below {w w' : World} {g : Nat} {l : List UInt8} (h : RowB w g l) (hb : Below w.heap.size w w') : RowB w' g l := by
  intro j b hj
  have hl : 0 < l.length := by
    rcases Nat.lt_or_ge 0 l.length with h0 | h0
    · exact h0
    · have : l = [] := List.length_eq_zero_iff.mp (by omega)
      subst this; simp at hj
  have hg := h.lt hl
  rw [hb.cell (p := ⟨g, j, none⟩) hg, hb.frozen (p := ⟨g, j, none⟩) hg]
  exact h j b hj
theorem RowB.set {w : World} {g : Nat} {l : List UInt8} (h : RowB w g l) (p : Nat) (hp : p < l.length) (x : UInt8) : RowB (w.setCell ⟨g, p, none⟩ (.int .u8 (x.toNat : Nat))) g (l.set p x) := by
  intro j b hj
  rw [List.getElem?_set] at hj
  have hc0 := (h p l[p] (by rw [List.getElem?_eq_getElem hp])).1
  by_cases e : p = j
  · subst e
    rw [if_pos rfl, if_pos hp] at hj
    cases hj
    have hz := (h p l[p] (by rw [List.getElem?_eq_getElem hp])).2
    refine ⟨World.cell?_setCell_same _ _ _ hc0, ?_⟩
    rw [World.frozen?_setCell]; exact hz
  · rw [if_neg e] at hj
    obtain ⟨h1, h2⟩ := h j b hj
    refine ⟨?_, by rw [World.frozen?_setCell]; exact h2⟩
    rw [World.cell?_setCell_other]; exact h1
    intro e2; apply e; simpa using congrArg Addr.off e2
theorem RowB.bytesAt {w : World} {g : Nat} {l : List UInt8} (h : RowB w g l) : BytesAt w ⟨g, 0, none⟩ l := by
  intro j b hj
  have e : (Addr.add ⟨g, 0, none⟩ j) = ⟨g, j, none⟩ := by unfold Addr.add; split <;> simp [*]
  rw [e]; exact (h j b hj).1
theorem below_setCell {B : Nat} {a w : World} (h : Below B a w) {g p : Nat} (hg : B ≤ g) (v : Value) : Below B a (w.setCell ⟨g, p, none⟩ v) := h.setCell hg v

theorem bytesWorld_row (w : World) (e : TypeId) (s : ByteArray) : RowB (Lib.bytesWorld w e s) w.heap.size s.data.toList := by
  intro j b hj
  have hlt : j < s.size := by
    rcases Nat.lt_or_ge j s.data.toList.length with h | h
    · simpa using h
    · rw [List.getElem?_eq_none h] at hj; cases hj
  refine ⟨?_, ?_⟩
  · rw [Lib.bytesWorld_cell w e s j hlt]
    have : s.data.toList.getD j 0 = b := by rw [List.getD_eq_getElem?_getD, hj]; rfl
    rw [this]
  · simp only [World.frozen?, Lib.bytesWorld_at_new]
    have : s.size ≤ (Lib.bytesCells w e s).size := by simp [Lib.bytesCells]
    simp; omega
theorem bytesWorld_below (w : World) (e : TypeId) (s : ByteArray) : Below w.heap.size w (Lib.bytesWorld w e s) :=
  ⟨rfl, rfl, rfl, by rw [Lib.bytesWorld_size]; omega, fun k hk => Lib.bytesWorld_at_old w e s k hk⟩

/-- int(uint64(a) % uint64(m)): some place below m. -/
theorem umod_k (a m : Int) (hm : 0 < m) (hm2 : m < 9223372036854775808) : ∃ K : Nat, wrap64 ((IntKind.u64.wrap a).tmod m) = (K : Int) ∧ (K : Int) < m := by
  have h0 : 0 ≤ IntKind.u64.wrap a := by simp [IntKind.wrap, IntKind.bits, IntKind.signed]; omega
  rw [Int.tmod_eq_emod_of_nonneg h0]
  have h1 := Int.emod_nonneg (IntKind.u64.wrap a) (show m ≠ 0 by omega)
  have h2 := Int.emod_lt_of_pos (IntKind.u64.wrap a) hm
  generalize IntKind.u64.wrap a % m = r at h1 h2 ⊢
  refine ⟨r.toNat, ?_, by omega⟩
  unfold wrap64
  omega

theorem mod_u8 (n : Nat) : ∃ y : UInt8, (n : Int) % 256 = ((y.toNat : Nat) : Int) ∧ Hid (y = UInt8.ofNat n) :=
  ⟨UInt8.ofNat n, by rw [UInt8.toNat_ofNat']; omega, Lib.hid rfl⟩
/-- The bytes from a place on. -/
theorem RowB.bytesFrom {w : World} {g : Nat} {l : List UInt8} (h : RowB w g l) (k : Nat) : BytesAt w ⟨g, k, none⟩ (l.drop k) := by
  intro j b hj
  rw [List.getElem?_drop] at hj
  have e : (Addr.add ⟨g, k, none⟩ j) = ⟨g, k + j, none⟩ := by unfold Addr.add; split <;> simp [*]
  rw [e]; exact (h _ b hj).1

theorem RowB.some {w : World} {g : Nat} {l : List UInt8} (h : RowB w g l) (p : Nat) (hp : p < l.length) : ∃ x : UInt8, w.cell? ⟨g, p, none⟩ = some (.int .u8 (x.toNat : Nat)) ∧ w.frozen? ⟨g, p, none⟩ = false :=
  ⟨l[p], h p l[p] (by rw [List.getElem?_eq_getElem hp])⟩

theorem extract_toList (s : ByteArray) (a b : Nat) : (s.extract a b).data.toList = (s.data.toList.take b).drop a := by
  simp [ByteArray.data_extract, List.drop_take]
theorem size_toList (s : ByteArray) : s.size = s.data.toList.length := by simp
theorem isEmpty_true {s : ByteArray} (h : s.data.toList = []) : s.toList.isEmpty = true := by
  rw [ByteArray.toList_eq, h]; rfl
theorem isEmpty_false {s : ByteArray} (h : 0 < s.size) : s.toList.isEmpty = false := by
  rw [ByteArray.toList_eq]
  cases hl : s.data.toList with
  | nil => rw [size_toList, hl] at h; simp at h
  | cons c r => rfl
end Go.Proofs.YtjmcpdhfefcdgaaDoor
