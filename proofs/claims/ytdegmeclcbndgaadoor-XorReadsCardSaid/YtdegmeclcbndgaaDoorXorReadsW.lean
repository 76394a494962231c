/- The law XorReads. -/
import Derived.Test.YtdegmeclcbndgaaDoorXorL
namespace Go.Proofs.YtdegmeclcbndgaaDoor
open Go.RowKit Bit Tim Xo

structure QuadX (w : World) (B c r p q : Nat) (s : XS) (v : Value) (R : List Bool) : Prop where
  cc : KInv w c s
  cr : JInv w r s
  rp : DR w p R
  rq : XInv w q v R
  hB : B ≤ c ∧ B ≤ r ∧ B ≤ p ∧ B ≤ q
  ap : c ≠ r ∧ c ≠ p ∧ c ≠ q ∧ r ≠ p ∧ r ≠ q ∧ p ≠ q
  bv : ∀ g, v.ownBlock = some g → B ≤ g ∧ g ≠ c ∧ g ≠ r ∧ g ≠ p ∧ g ≠ q

theorem QuadX.mid {w w' : World} {B c r p q : Nat} {s : XS} {v : Value} {R : List Bool} (h : QuadX w B c r p q s v R) (hc : Chg (fun k => k = c ∨ k = p) w w') : JInv w' r s ∧ XInv w' q v R := by
  obtain ⟨a1, a2, a3, a4, a5, a6⟩ := h.ap
  refine ⟨h.cr.keep hc (by omega), h.rq.keep hc ?_⟩
  rintro k (rfl | hk) hF
  · omega
  · have := h.bv k hk; omega
theorem QuadX.step {w w1 w2 : World} {B c r p q : Nat} {s s' : XS} {v v' : Value} {R R' : List Bool} (h : QuadX w B c r p q s v R) (h1 : KInv w1 c s') (h2 : DR w1 p R') (h3 : JInv w2 r s') (h4 : XInv w2 q v' R') (hv : v'.ownBlock = v.ownBlock)
    (hc : Chg (fun k => k = r ∨ k = q) w1 w2) : QuadX w2 B c r p q s' v' R' := by
  obtain ⟨a1, a2, a3, a4, a5, a6⟩ := h.ap
  exact ⟨h1.keep hc (by omega), h3, h2.keep hc (by omega), h4, h.hB, h.ap, fun g hg => h.bv g (by rw [← hv]; exact hg)⟩

set_option maxRecDepth 100000 in
set_option maxHeartbeats 2000000 in
theorem xorReads_walk (s : ByteArray) (n : Int) (_hs : s.size ≤ 140737488351232) (hn : (Lit.int .i64 n).wf = true) (w : World) (hT : Tab w) :
    Calls Tryd.prog 4 #[.string s, .int .i64 n] w fun e w' => e = .returned (.bool true) ∧ Below w.heap.size w w' := by
  have hN := wf_i64 hn
  go_enter Tryd.func4, Tryd.ntmps4
  by_cases hbig : 300 < (s.size : Int)
  · go_wp2
    go_ret
    exact ⟨rfl, Below.refl _ _⟩
  have hsz : s.size ≤ 300 := by omega
  obtain ⟨e, he⟩ : ∃ e : Nat, Hid ((e : Int) = min (max n 0) (8 * s.size)) := ⟨(min (max n 0) (8 * s.size)).toNat, Lib.hid (by omega)⟩
  have heb : e ≤ 8 * s.size := by have := he.out; omega
  go_upto_region 7 with (first
    | (go_at_call 12; refine (xornew_any _).mono ?_; rintro e w1 ⟨rfl, hc1, hb1⟩)
    | (go_at_call 19; refine (newreader_any _ s n e (by omega) he.out).mono ?_; rintro x w2 ⟨rfl, hw2, hb2⟩)
    | (go_at_call 20; refine (refnewreader_any _ s n hN.1 hN.2 e (by omega) he.out).mono ?_; rintro x w3 ⟨rfl, v, hw3, hv3, hb3⟩))
  have hcl : w.heap.size < w1.heap.size := hc1.lt
  obtain ⟨wa, hwa⟩ : ∃ wa, Hid (wa = w1.alloc (.cells #[.bool false, .int .u64 0, .bool false, .int .i64 0, .int .i64 0] 28)) := ⟨_, Lib.hid rfl⟩
  have hba : Below w1.heap.size w1 wa := by rw [hwa.out]; exact (Below.refl _ _).alloc (Nat.le_refl _) _
  have hca : JInv wa w1.heap.size XS.zero := by rw [hwa.out]; exact ⟨RowV.new w1 _ _, XOk.zero⟩
  have hsa : wa.heap.size = w1.heap.size + 1 := by rw [hwa.out]; simp
  rw [← hwa.out] at hw2 hb2
  have hpl : wa.heap.size < w2.heap.size := World.block_lt_of_cell? w2 _ hw2.c0
  have hD2 : DR w2 wa.heap.size ((bitsT s.data.toList).take e) := ⟨s, 0, e, hw2, Nat.zero_le _, heb, by omega, by rw [List.drop_zero]⟩
  have hQ : QuadX w3 w.heap.size w.heap.size w1.heap.size wa.heap.size w2.heap.size XS.zero v ((bitsT s.data.toList).take e) := by
    refine ⟨?_, ?_, hD2.keep (Chg.of_below (fun _ => False) hb3) (fun x => x), XInv.of hw3, ⟨by omega, by omega, by omega, by omega⟩, ⟨by omega, by omega, by omega, by omega, by omega, by omega⟩, fun g hg => ?_⟩
    · exact ((hc1.keep (Chg.of_below (fun _ => False) hba) (fun x => x)).keep (Chg.of_below (fun _ => False) hb2) (fun x => x)).keep (Chg.of_below (fun _ => False) hb3) (fun x => x)
    · exact (hca.keep (Chg.of_below (fun _ => False) hb2) (fun x => x)).keep (Chg.of_below (fun _ => False) hb3) (fun x => x)
    · have := hv3 g hg
      have := hw3.ne
      refine ⟨by omega, by omega, by omega, by omega, fun e => hw3.ne (by rw [hg, e])⟩
  have hbel0 : Below w.heap.size w w3 := below_tr (below_tr (below_tr hb1 hba) hb2) hb3
  obtain ⟨r, hrr⟩ : ∃ r, Hid (r = w1.heap.size) := ⟨_, Lib.hid rfl⟩
  obtain ⟨p, hpp⟩ : ∃ p, Hid (p = w1.heap.size + 1) := ⟨_, Lib.hid rfl⟩
  obtain ⟨q, hqq⟩ : ∃ q, Hid (q = w2.heap.size) := ⟨_, Lib.hid rfl⟩
  rw [hsa, ← hpp.out, ← hrr.out, ← hqq.out] at hQ
  rw [← hpp.out, ← hrr.out, ← hqq.out]
  obtain ⟨R0, hR0⟩ : ∃ R0, Hid (R0 = (bitsT s.data.toList).take e) := ⟨_, Lib.hid rfl⟩
  have hRl : R0.length ≤ 2400 := by rw [hR0.out, List.length_take, bitsT_length, ← size_toList]; omega
  rw [← hR0.out] at hQ
  clear hw2 hb2 hc1 hb1 hw3 hv3 hb3 hba hca hD2 hsa hcl hpl
  go_wp2
  go_loopw [9] (fun i wr => ∃ (j : Nat) (S : XS) (v : Value) (R : List Bool), j ≤ 100 ∧ i = .int .i64 j ∧ QuadX wr w.heap.size w.heap.size r p q S v R ∧ R.length ≤ 2400 ∧ Below w.heap.size w wr) (fun i _ => 100 - (intOf i).toNat)
  case atStart => exact ⟨0, _, _, R0, by omega, rfl, hQ, hRl, hbel0⟩
  case round =>
    obtain ⟨j, S, v, R, hj, rfl, hB, hRl, hbel⟩ := hrel
    clear hQ hbel0
    by_cases h60 : j < 100
    · have hj6 : (j : Int) < 100 := by omega
      obtain ⟨a1, a2, a3, a4, a5, a6⟩ := id hB.ap
      obtain ⟨b1, b2, b3, b4⟩ := id hB.hB
      go_upto_region 11 with (go_at_call 21; refine (vget_any wr _ p S R (hT.below hbel hT.pos) (by have := hT.pos; omega) (by have := hT.pos; omega) hB.cc hB.rp a2).mono ?_; rintro y w5 ⟨t, ok, R', rfl, g1, g2, g3, g4, g5⟩)
      obtain ⟨m1, m2⟩ := hB.mid g3
      have hb5 : Below w.heap.size w w5 := hbel.trans (g3.below hbel.size (fun k hk hf => by omega))
      go_upto_region 12 with (go_at_call 22; refine (vrget_any w5 r q S v R m1 m2 a5 (fun e => (hB.bv r e).2.2.1 rfl) (by omega)).mono ?_; rintro y w6 ⟨u, is, rfl, k3, k4, k5⟩)
      have hb6 : Below w.heap.size w w6 := hb5.trans (k3.below hb5.size (fun k hk hf => by omega))
      cases ok with
      | true =>
        obtain ⟨n1, e1, e2, e3⟩ := g4 rfl
        cases is with
        | false => have := (k5 rfl).1; rw [e1] at this; cases this
        | true =>
          obtain ⟨n2, v', e4, e5, e6, e7⟩ := k4 rfl
          rw [e1] at e4
          cases e4
          subst e2
          have hS := hB.step e3 g1 e7 e5 e6 k3
          clear g4 g5 k4 k5 e1 e3 e5 e6 e7 g1 g3 k3 m1 m2
          go_wp2
          go_roundw
          case rel => exact ⟨j + 1, _, _, _, by omega, by go_num, hS, by omega, hb6⟩
          case measure => simp [intOf]; omega
      | false =>
        obtain ⟨e1, rfl⟩ := g5 rfl
        cases is with
        | true => obtain ⟨n2, v', e4, _⟩ := k4 rfl; rw [e1] at e4; cases e4
        | false =>
          obtain ⟨_, rfl⟩ := k5 rfl
          clear g4 g5 k4 k5
          go_wp2
          go_ret
          exact ⟨rfl, hb6⟩
    · have hj6 : ¬ (j : Int) < 100 := by omega
      go_wp2
      go_ret
      exact ⟨rfl, hbel⟩
end Go.Proofs.YtdegmeclcbndgaaDoor
