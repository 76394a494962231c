/- Coder of patterns and writer in one; coder and reader in one. -/
import Derived.Test.YtdegmeclcbndgaaDoorXorH
import Derived.Test.YtdegmeclcbndgaaDoorTimB
namespace Go.Proofs.YtdegmeclcbndgaaDoor
open Go.RowKit Bit Tim Xo

structure KP (w : World) (B c p : Nat) (s : XS) (L : List Bool) : Prop where
  ex : ∃ v, KW w c p s v L ∧ ∀ g, v.ownBlock = some g → B ≤ g
  bc : B ≤ c
  bp : B ≤ p
  tab : Tab w
  b0 : 0 < B

theorem KP.keep {w w' : World} {B c p : Nat} {s : XS} {L : List Bool} (h : KP w B c p s L) (hb : Below w.heap.size w w') : KP w' B c p s L := by
  obtain ⟨v, h1, h2⟩ := h.ex
  exact ⟨⟨v, h1.below hb, h2⟩, h.bc, h.bp, h.tab.below hb h.tab.pos, h.b0⟩
theorem KP.le {w : World} {B c p : Nat} {s : XS} {L : List Bool} (h : KP w B c p s L) : B ≤ w.heap.size := by
  obtain ⟨v, h1, h2⟩ := h.ex
  have := h1.cw.lt
  have := h.bc
  omega

theorem vput_kp (w : World) (B c p : Nat) (s : XS) (L : List Bool) (x : Nat) (hx : x < 18446744073709551616) (h : KP w B c p s L) (hL : L.length ≤ 1000000) :
    Calls Tryd.prog 14 #[.pointer (some ⟨c, 0, none⟩), .pointer (some ⟨p, 0, none⟩), .int .u64 x] w fun e w' => e = .returned (.tuple #[]) ∧
      KP w' B c p (s.next x) (L ++ encV s x) ∧ Below B w w' := by
  have hle := h.le
  obtain ⟨v, h1, h2⟩ := h.ex
  have b1 := h.bc
  have b2 := h.bp
  have b0 := h.b0
  refine (vput_any w c p s v L x hx h.tab (by omega) h1 (by omega)).mono ?_
  rintro e w' ⟨rfl, v', hc, hS⟩
  have ho : ∀ g, v'.ownBlock = some g → B ≤ g ∧ g ≠ c := fun g hg => by
    rcases hS.own g hg with h3 | h3
    · exact ⟨h2 g h3, fun e => h1.nv (by rw [← e]; exact h3)⟩
    · have hcl := h1.cw.lt
      exact ⟨by omega, by omega⟩
  have hbel : Below B w w' := hS.chg.below hle (fun k hk hf => by
    rcases hf with (e | e) | e
    · omega
    · have := h2 k e; omega
    · omega)
  exact ⟨rfl, ⟨⟨v', ⟨hc, hS.inv, h1.ne, fun e => (ho c e).2 rfl⟩, fun g hg => (ho g hg).1⟩, b1, b2, h.tab.below hbel b0, b0⟩, hbel⟩

theorem kp_start (w w1 w2 : World) (hT : Tab w) (hc : KInv w1 w.heap.size XS.zero) (hb1 : Below w.heap.size w w1) (hw : WInv w2 w1.heap.size (.slice none 0 0) [] 0) (hb2 : Below w1.heap.size w1 w2) : KP w2 w.heap.size w.heap.size w1.heap.size XS.zero [] := by
  have hcl := hc.lt
  exact ⟨⟨_, ⟨hc.keep (Chg.of_below (fun _ => False) hb2) (fun x => x), hw, by omega, by simp [Value.ownBlock]⟩, fun g hg => by simp [Value.ownBlock] at hg⟩, Nat.le_refl _, hb1.size, (hT.below hb1 hT.pos).below hb2 (by have := hT.pos; omega), hT.pos⟩

theorem len_kp (w : World) (B c p : Nat) (s : XS) (L : List Bool) (h : KP w B c p s L) : Calls Tryd.prog 16 #[.pointer (some ⟨p, 0, none⟩)] w fun e w' => e = .returned (.int .i64 (L.length : Nat)) ∧ w = w' := by
  obtain ⟨v, h1, h2⟩ := h.ex
  exact len_any w p v _ _ h1.ww
theorem text_kp (w : World) (B c p : Nat) (s : XS) (L : List Bool) (h : KP w B c p s L) : Calls Tryd.prog 17 #[.pointer (some ⟨p, 0, none⟩)] w fun e w' => e = .returned (.string (mkS (pack L))) ∧ w = w' := by
  obtain ⟨v, h1, h2⟩ := h.ex
  exact text_any w p v _ _ h1.ww

structure KRP (w : World) (B d r : Nat) (s : XS) (R : List Bool) : Prop where
  cd : KInv w d s
  rd : DR w r R
  ne : d ≠ r
  bd : B ≤ d
  br : B ≤ r
  tab : Tab w
  b0 : 0 < B
theorem KRP.keep {w w' : World} {B c p : Nat} {s : XS} {L : List Bool} (h : KRP w B c p s L) (hb : Below w.heap.size w w') : KRP w' B c p s L :=
  ⟨h.cd.keep (Chg.of_below (fun _ => False) hb) (fun x => x), h.rd.keep (Chg.of_below (fun _ => False) hb) (fun x => x), h.ne, h.bd, h.br, h.tab.below hb h.tab.pos, h.b0⟩

structure VgP (w : World) (B d r : Nat) (s : XS) (R : List Bool) (y : Ending) (w' : World) : Prop where
  ex : ∃ (v : Nat) (ok : Bool), y = .returned (.tuple #[.int .u64 (v : Nat), .bool ok]) ∧ Below B w w' ∧
      (ok = true → ∃ n, getV s R = some (v, n) ∧ KRP w' B d r (s.next v) (R.drop n)) ∧ (ok = false → getV s R = none ∧ v = 0 ∧ ∃ R', DR w' r R' ∧ R'.length ≤ R.length)

theorem vget_rp (w : World) (B d r : Nat) (s : XS) (R : List Bool) (h : KRP w B d r s R) :
    Calls Tryd.prog 21 #[.pointer (some ⟨d, 0, none⟩), .pointer (some ⟨r, 0, none⟩)] w (VgP w B d r s R) := by
  have h1 := h.bd
  have h2 := h.br
  have h0 := h.b0
  have hdl := h.cd.lt
  refine (vget_any w d r s R h.tab (by omega) (by omega) h.cd h.rd h.ne).mono ?_
  rintro y w' ⟨v, ok, R', rfl, g1, g2, g3, g4, g5⟩
  have hbel : Below B w w' := g3.below (by omega) (fun k hk hf => by omega)
  refine ⟨v, ok, rfl, hbel, fun ho => ?_, fun ho => ?_⟩
  · obtain ⟨n, e1, e2, e3⟩ := g4 ho
    exact ⟨n, e1, e3, by rw [← e2]; exact g1, h.ne, h1, h2, h.tab.below hbel h0, h0⟩
  · exact ⟨(g5 ho).1, (g5 ho).2, R', g1, g2⟩

/-- Rows of patterns, each one a uint64. -/
theorem row_u64 {w : World} {a : Option Addr} {zs : List Int} (h : RowI .u64 w a zs) : ∃ xs : List Nat, zs = xs.map (fun x : Nat => (x : Int)) ∧ ∀ x ∈ xs, x < 18446744073709551616 := by
  refine ⟨zs.map Int.toNat, ?_, ?_⟩
  · rw [List.map_map]
    have : ∀ l : List Int, (∀ z ∈ l, 0 ≤ z) → l = l.map ((fun x : Nat => (x : Int)) ∘ Int.toNat) := by
      intro l hl
      induction l with
      | nil => rfl
      | cons a l ih =>
        have h1 := hl a (by simp)
        rw [List.map_cons, ← ih (fun z hz => hl z (by simp [hz]))]
        congr 1
        show a = ((a.toNat : Nat) : Int)
        omega
    exact this zs (fun z hz => (wf_u64 (h.wf z hz)).1)
  · intro x hx
    obtain ⟨z, hz, rfl⟩ := List.mem_map.mp hx
    have := wf_u64 (h.wf z hz)
    omega
end Go.Proofs.YtdegmeclcbndgaaDoor
