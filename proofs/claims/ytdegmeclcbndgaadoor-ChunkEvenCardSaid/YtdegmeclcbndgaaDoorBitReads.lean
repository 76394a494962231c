/- The law of the readers of bits. -/
import Derived.Test.YtdegmeclcbndgaaDoorBitLaw
namespace Go.Proofs.YtdegmeclcbndgaaDoor
open Go.RowKit Bit

/-- What is read: the number, whether it was there, and where the reader is then. -/
def getR (B : List Bool) (a e : Nat) (n : Int) : Nat × Bool × Nat :=
  if 0 ≤ n ∧ n ≤ 64 ∧ (a : Int) + n ≤ e then (valB ((B.drop a).take n.toNat), true, a + n.toNat) else (0, false, a)

theorem getR_le (B : List Bool) (a e : Nat) (n : Int) (h : a ≤ e) : a ≤ (getR B a e n).2.2 ∧ (getR B a e n).2.2 ≤ e := by
  unfold getR; split <;> simp <;> omega

theorem rget_any (w : World) (p : Nat) (s : ByteArray) (a e : Nat) (n : Int) (h : DInv w p s a e) (ha : a ≤ e) (he : e ≤ 8 * s.size) (hs : s.size ≤ 17592186044416) :
    Calls Tryd.prog 40 #[.pointer (some ⟨p, 0, none⟩), .int .i64 n] w fun x w' => x = .returned (.tuple #[.int .u64 ((getR (bitsT s.data.toList) a e n).1 : Nat), .bool (getR (bitsT s.data.toList) a e n).2.1]) ∧
      DInv w' p s (getR (bitsT s.data.toList) a e n).2.2 e ∧ Chg (fun k => k = p) w w' := by
  unfold getR
  split
  · rename_i hc
    obtain ⟨m, rfl⟩ := Int.eq_ofNat_of_zero_le hc.1
    simp only [Int.toNat_natCast]
    exact rget_some w p s a e m h ha he (by omega) (by omega) (by omega)
  · rename_i hc
    refine (rget_none w p s a e n h ha (by omega) (by omega)).mono ?_
    rintro x w' ⟨rfl, m, rfl⟩
    exact ⟨rfl, h.keep (Chg.drewN (fun _ => False) _ _) (fun x => x), Chg.drewN _ _ _⟩

theorem refget_any (w : World) (p : Nat) (v : Value) (B : List Bool) (a e : Nat) (n : Int) (hB : e ≤ B.length) (h : XInv w p v ((B.take e).drop a)) (ha : a ≤ e) :
    Calls Tryd.prog 53 #[.pointer (some ⟨p, 0, none⟩), .int .i64 n] w fun x w' => x = .returned (.tuple #[.int .u64 ((getR B a e n).1 : Nat), .bool (getR B a e n).2.1]) ∧
      (∃ v', XInv w' p v' ((B.take e).drop (getR B a e n).2.2) ∧ v'.ownBlock = v.ownBlock) ∧ Chg (fun k => k = p) w w' := by
  have hlen : ((B.take e).drop a).length = e - a := by rw [List.length_drop, List.length_take]; omega
  unfold getR
  split
  · rename_i hc
    obtain ⟨m, rfl⟩ := Int.eq_ofNat_of_zero_le hc.1
    simp only [Int.toNat_natCast]
    have := refget_some w p v _ m h (by omega) (by rw [hlen]; omega)
    rw [List.drop_drop] at this
    have e1 : ((B.take e).drop a).take m = (B.drop a).take m := by
      rw [List.drop_take, List.take_take]; congr 1; omega
    rw [e1] at this
    exact this
  · rename_i hc
    refine (refget_none w p v _ n h (by rw [hlen]; omega)).mono ?_
    rintro x w' ⟨rfl, rfl⟩
    exact ⟨rfl, ⟨v, h, rfl⟩, Chg.refl _ _⟩

theorem left_d (w : World) (p : Nat) (s : ByteArray) (a e d : Nat) (h : DInv w p s a e) (ha : a ≤ e) (he : e ≤ 1125899906842624) (hd : e - a = d) :
    Calls Tryd.prog 24 #[.pointer (some ⟨p, 0, none⟩)] w fun x w' => x = .returned (.int .i64 (d : Nat)) ∧ ∃ m, w' = w.drewN m := by
  have := left_any w p s a e h ha he
  rw [show (e : Int) - a = (d : Int) from by omega] at this
  exact this

/-- Both readers, apart from each other, above a line. -/
structure BothR (w : World) (B p q : Nat) (v : Value) (s : ByteArray) (a e : Nat) : Prop where
  r1 : DInv w p s a e
  r2 : XInv w q v (((bitsT s.data.toList).take e).drop a)
  bp : B ≤ p
  bq : B ≤ q
  pq : p ≠ q
  bv : ∀ g, v.ownBlock = some g → B ≤ g ∧ g ≠ p

theorem BothR.keep {w w' : World} {B p q : Nat} {v : Value} {s : ByteArray} {a e : Nat} {F : Nat → Prop} (h : BothR w B p q v s a e) (hc : Chg F w w') (hf : ∀ k, F k → k < B) : BothR w' B p q v s a e := by
  refine ⟨h.r1.keep hc (fun hF => ?_), h.r2.keep hc ?_, h.bp, h.bq, h.pq, h.bv⟩
  · have := hf _ hF; have := h.bp; omega
  · rintro k (rfl | hk) hF
    · have := hf _ hF; have := h.bq; omega
    · have := hf _ hF; have := (h.bv k hk).1; omega

theorem BothR.mid {w w' : World} {B p q : Nat} {v : Value} {s : ByteArray} {a e : Nat} (h : BothR w B p q v s a e) (hc : Chg (fun k => k = p) w w') : XInv w' q v (((bitsT s.data.toList).take e).drop a) := by
  refine h.r2.keep hc ?_
  rintro k (rfl | hk) hF
  · exact h.pq hF.symm
  · exact (h.bv k hk).2 hF

theorem BothR.step {w w1 w2 : World} {B p q : Nat} {v v' : Value} {s : ByteArray} {a a' e : Nat} (h : BothR w B p q v s a e) (h1 : DInv w1 p s a' e) (h2 : XInv w2 q v' (((bitsT s.data.toList).take e).drop a')) (hv : v'.ownBlock = v.ownBlock)
    (hc2 : Chg (fun k => k = q) w1 w2) : BothR w2 B p q v' s a' e :=
  ⟨h1.keep hc2 h.pq, h2, h.bp, h.bq, h.pq, fun g hg => h.bv g (by rw [← hv]; exact hg)⟩

theorem xslice {w : World} {p : Nat} {v : Value} {L : List Bool} (h : XInv w p v L) : ∃ a cap, v = .slice a L.length cap := by
  rcases h.sl with ⟨rfl, rfl⟩ | ⟨g, o, cap, hv, _⟩
  · exact ⟨none, 0, rfl⟩
  · exact ⟨_, _, hv⟩
theorem txt_size (l : List UInt8) : (mkS l).size = l.length := by rw [size_toList]; simp [mkS]
theorem txt_list (l : List UInt8) : (mkS l).data.toList = l := by simp [mkS]
end Go.Proofs.YtdegmeclcbndgaaDoor
