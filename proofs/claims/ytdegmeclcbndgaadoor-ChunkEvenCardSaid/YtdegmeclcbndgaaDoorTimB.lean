/- Coder and writer in one; coder and reader in one; rows of times, in plain lists. -/
import Derived.Test.YtdegmeclcbndgaaDoorTimJ
import Derived.Test.YtdegmeclcbndgaaDoorBitReads
namespace Go.Proofs.YtdegmeclcbndgaaDoor
open Go.RowKit Bit Tim

structure CP (w : World) (B c p : Nat) (s : St) (L : List Bool) : Prop where
  ex : ∃ v, CW w c p s v L ∧ ∀ g, v.ownBlock = some g → B ≤ g
  bc : B ≤ c
  bp : B ≤ p

theorem CP.keep {w w' : World} {B c p : Nat} {s : St} {L : List Bool} (h : CP w B c p s L) (hb : Below w.heap.size w w') : CP w' B c p s L := by
  obtain ⟨v, h1, h2⟩ := h.ex
  exact ⟨⟨v, h1.below hb, h2⟩, h.bc, h.bp⟩
theorem CP.le {w : World} {B c p : Nat} {s : St} {L : List Bool} (h : CP w B c p s L) : B ≤ w.heap.size := by
  obtain ⟨v, h1, h2⟩ := h.ex
  have := World.block_lt_of_cell? w _ h1.cw.c0
  have := h.bc
  simp only at *; omega

theorem tput_cp (w : World) (B c p : Nat) (s : St) (L : List Bool) (t : Int) (h : CP w B c p s L) (hL : L.length ≤ 1000000) :
    Calls Tryd.prog 45 #[.pointer (some ⟨c, 0, none⟩), .pointer (some ⟨p, 0, none⟩), .int .i64 t] w fun e w' => e = .returned (.tuple #[]) ∧
      CP w' B c p (s.next t) (L ++ encT s t) ∧ Below B w w' := by
  have hle := h.le
  obtain ⟨v, h1, h2⟩ := h.ex
  have b1 := h.bc
  have b2 := h.bp
  refine (tput_any w c p s v L t h1 (by omega)).mono ?_
  rintro e w' ⟨rfl, v', hc, hS⟩
  have ho : ∀ g, v'.ownBlock = some g → B ≤ g ∧ g ≠ c := fun g hg => by
    rcases hS.own g hg with h3 | h3
    · exact ⟨h2 g h3, fun e => h1.nv (by rw [← e]; exact h3)⟩
    · have hcl : c < w.heap.size := World.block_lt_of_cell? w _ h1.cw.c0
      exact ⟨by omega, by omega⟩
  refine ⟨rfl, ⟨⟨v', ⟨hc, hS.inv, h1.ne, fun e => (ho c e).2 rfl⟩, fun g hg => (ho g hg).1⟩, b1, b2⟩, hS.chg.below hle (fun k hk hf => ?_)⟩
  rcases hf with (e | e) | e
  · omega
  · have := h2 k e; omega
  · omega

theorem cp_start (w w1 w2 : World) (hc : CInv w1 w.heap.size St.zero) (hb1 : Below w.heap.size w w1) (hw : WInv w2 w1.heap.size (.slice none 0 0) [] 0) (hb2 : Below w1.heap.size w1 w2) : CP w2 w.heap.size w.heap.size w1.heap.size St.zero [] := by
  have hcl : w.heap.size < w1.heap.size := World.block_lt_of_cell? w1 _ hc.c0
  exact ⟨⟨_, ⟨hc.keep (Chg.of_below (fun _ => False) hb2) (fun x => x), hw, by omega, by simp [Value.ownBlock]⟩, fun g hg => by simp [Value.ownBlock] at hg⟩, Nat.le_refl _, hb1.size⟩

theorem len_cp (w : World) (B c p : Nat) (s : St) (L : List Bool) (h : CP w B c p s L) : Calls Tryd.prog 16 #[.pointer (some ⟨p, 0, none⟩)] w fun e w' => e = .returned (.int .i64 (L.length : Nat)) ∧ w = w' := by
  obtain ⟨v, h1, h2⟩ := h.ex
  exact len_any w p v _ _ h1.ww
theorem text_cp (w : World) (B c p : Nat) (s : St) (L : List Bool) (h : CP w B c p s L) : Calls Tryd.prog 17 #[.pointer (some ⟨p, 0, none⟩)] w fun e w' => e = .returned (.string (mkS (pack L))) ∧ w = w' := by
  obtain ⟨v, h1, h2⟩ := h.ex
  exact text_any w p v _ _ h1.ww

/-- A reader of what was written. -/
theorem newreader_of (w : World) (L : List Bool) (hL : L.length ≤ 1000000) : Calls Tryd.prog 19 #[.string (mkS (pack L)), .int .i64 (L.length : Nat)] w fun x w' => x = .returned (.pointer (some ⟨w.heap.size, 0, none⟩)) ∧ DR w' w.heap.size L ∧ Below w.heap.size w w' := by
  have hs : (mkS (pack L)).size = (L.length + 7) / 8 := by rw [txt_size, pack_length]
  refine (newreader_any w (mkS (pack L)) L.length L.length (by rw [hs]; omega) (by rw [hs]; omega)).mono ?_
  rintro x w' ⟨rfl, h1, h2⟩
  refine ⟨rfl, ⟨_, 0, L.length, h1, by omega, by rw [hs]; omega, by rw [hs]; omega, ?_⟩, h2⟩
  rw [txt_list, List.drop_zero, bitsT_pack]

structure RP (w : World) (B d r : Nat) (s : St) (R : List Bool) : Prop where
  cd : CInv w d s
  rd : DR w r R
  ne : d ≠ r
  bd : B ≤ d
  br : B ≤ r
theorem RP.keep {w w' : World} {B c p : Nat} {s : St} {L : List Bool} (h : RP w B c p s L) (hb : Below w.heap.size w w') : RP w' B c p s L :=
  ⟨h.cd.keep (Chg.of_below (fun _ => False) hb) (fun x => x), h.rd.keep (Chg.of_below (fun _ => False) hb) (fun x => x), h.ne, h.bd, h.br⟩

structure TgP (w : World) (B d r : Nat) (s : St) (R : List Bool) (y : Ending) (w' : World) : Prop where
  ex : ∃ (t : Int) (ok : Bool), y = .returned (.tuple #[.int .i64 t, .bool ok]) ∧ Below B w w' ∧
      (ok = true → ∃ n, getT s R = some (t, n) ∧ RP w' B d r (s.next t) (R.drop n)) ∧ (ok = false → getT s R = none ∧ t = 0 ∧ ∃ R', DR w' r R' ∧ R'.length ≤ R.length)

theorem tget_rp (w : World) (B d r : Nat) (s : St) (R : List Bool) (h : RP w B d r s R) :
    Calls Tryd.prog 58 #[.pointer (some ⟨d, 0, none⟩), .pointer (some ⟨r, 0, none⟩)] w (TgP w B d r s R) := by
  have h1 := h.bd
  have h2 := h.br
  have hdl : d < w.heap.size := World.block_lt_of_cell? w _ h.cd.c0
  refine (tget_any w d r s R h.cd h.rd h.ne).mono ?_
  rintro y w' ⟨t, ok, R', rfl, g1, g2, g3, g4, g5⟩
  refine ⟨t, ok, rfl, g3.below (by omega) (fun k hk hf => by omega), fun ho => ?_, fun ho => ?_⟩
  · obtain ⟨n, e1, e2, e3⟩ := g4 ho
    exact ⟨n, e1, e3, by rw [← e2]; exact g1, h.ne, h1, h2⟩
  · exact ⟨(g5 ho).1, (g5 ho).2, R', g1, g2⟩

namespace Tim
def encR (s : St) : List Int → List Bool
  | [] => []
  | t :: l => encT s t ++ encR (s.next t) l
def stR (s : St) : List Int → St
  | [] => s
  | t :: l => stR (s.next t) l
theorem encR_snoc (l : List Int) : ∀ s t, encR s (l ++ [t]) = encR s l ++ encT (stR s l) t := by
  induction l with
  | nil => intro s t; simp [encR, stR]
  | cons a l ih => intro s t; simp [encR, stR, ih]
theorem stR_snoc (l : List Int) : ∀ s t, stR s (l ++ [t]) = (stR s l).next t := by
  induction l with
  | nil => intro s t; rfl
  | cons a l ih => intro s t; simp [stR, ih]
theorem encR_len (l : List Int) : ∀ s, (encR s l).length ≤ 68 * l.length := by
  induction l with
  | nil => intro s; simp [encR]
  | cons a l ih => intro s; have := ih (s.next a); have := encT_len s a; simp only [encR, List.length_append, List.length_cons]; omega

def Fit (s : St) : Prop := -9223372036854775808 ≤ s.t ∧ s.t < 9223372036854775808 ∧ -9223372036854775808 ≤ s.d ∧ s.d < 9223372036854775808
theorem wrap_fit (x : Int) : -9223372036854775808 ≤ wrap64 x ∧ wrap64 x < 9223372036854775808 := by unfold wrap64; omega
theorem Fit.zero : Fit St.zero := by simp [Fit, St.zero]
theorem Fit.next {s : St} (h : Fit s) {t : Int} (h1 : -9223372036854775808 ≤ t) (h2 : t < 9223372036854775808) : Fit (s.next t) := by
  unfold St.next
  split
  · exact ⟨h1, h2, wrap_fit _⟩
  · exact ⟨h1, h2, h.2.2⟩

theorem getT_enc (s : St) (t : Int) (R : List Bool) (h1 : -9223372036854775808 ≤ t) (h2 : t < 9223372036854775808) : getT s (encT s t ++ R) = some (t, (encT s t).length) := by
  unfold getT encT
  split
  · rw [decX_enc (chgX s t) (wrap_fit _)]
    simp only
    congr 2
    unfold chgX wrap64
    omega
  · have hu : IntKind.u64.wrap t = t % 18446744073709551616 := by simp [IntKind.wrap, IntKind.bits, IntKind.signed]
    rw [if_pos (by rw [List.length_append, bitsOf_length]; omega), List.take_append_of_le_length (by rw [bitsOf_length]; omega), List.take_of_length_le (by rw [bitsOf_length]; omega), valB_bitsOf, bitsOf_length, hu]
    congr 2
    have e : (2 : Nat) ^ 64 = 18446744073709551616 := by decide
    rw [e, Nat.mod_eq_of_lt (by omega)]
    unfold wrap64
    omega
theorem getT_nil (s : St) : getT s [] = none := by
  unfold getT
  split
  · rfl
  · simp
end Tim
end Go.Proofs.YtdegmeclcbndgaaDoor
