/- The law of records that are read. -/
import Derived.Test.YtjmcpdhfefcdgaaDoorRn
import Derived.Test.YtjmcpdhfefcdgaaDoorRm
import Derived.Test.YtjmcpdhfefcdgaaDoorRh
namespace Go.Proofs.YtjmcpdhfefcdgaaDoor
open Go.RowKit Lb Dig Inn

set_option maxRecDepth 100000 in
set_option maxHeartbeats 4000000 in
theorem recordReads_walk (s : ByteArray) (hs : s.size ≤ 140737488351232) (w : World) :
    Calls Tryd.prog 4 #[.string s] w fun e w' => e = .returned (.bool true) ∧ Below w.heap.size w w' := by
  by_cases h5 : s.size ≤ 20000
  · have h5i : ¬ (20000 : Int) < (s.size : Int) := by omega
    have LD := fun W => rdec_any s (by omega) W
    have RD := fun W => rrdec_any s (by omega) W
    obtain ⟨D, hD⟩ : ∃ D, Hid (decR s.data.toList = D) := ⟨_, Lib.hid rfl⟩
    rw [hD.out] at LD RD
    obtain ⟨⟨k, sm, ms, fr, tt⟩, e⟩ := D
    go_enter Tryd.func4, Tryd.ntmps4
    go_upto_region 4 with (go_at_call 17; refine (LD _).mono ?_; rintro y w1 ⟨a, n, c, b, n', c', rfl, hr1, hb1⟩; clear LD)
    have O2 := RowV.new w1 [.int .i64 k, .slice a n c, .slice b n' c', .int .i64 fr, .int .i64 tt] 25
    have B2 : Below w1.heap.size w1 (w1.alloc (.cells #[.int .i64 k, .slice a n c, .slice b n' c', .int .i64 fr, .int .i64 tt] 25)) := (Below.refl _ _).alloc (Nat.le_refl _) _
    generalize w1.alloc (.cells #[.int .i64 k, .slice a n c, .slice b n' c', .int .i64 fr, .int .i64 tt] 25) = w2 at O2 B2 ⊢
    generalize w1.heap.size = p at O2 ⊢
    have hr2 := hr1.below B2
    have B02 := below_tr hb1 B2
    clear hr1 hb1 B2
    go_upto_region 5 with (go_at_call 18; refine (RD _).mono ?_; rintro y w3 ⟨a2, n2, c2, b2, m2, d2, rfl, hr3, hb3⟩; clear RD)
    have O3 := O2.below hb3
    have hq3 := hr2.below hb3
    have B03 := below_tr B02 hb3
    have Q4 := RowV.new w3 [.int .i64 k, .slice a2 n2 c2, .slice b2 m2 d2, .int .i64 fr, .int .i64 tt] 25
    have B4 : Below w3.heap.size w3 (w3.alloc (.cells #[.int .i64 k, .slice a2 n2 c2, .slice b2 m2 d2, .int .i64 fr, .int .i64 tt] 25)) := (Below.refl _ _).alloc (Nat.le_refl _) _
    generalize w3.alloc (.cells #[.int .i64 k, .slice a2 n2 c2, .slice b2 m2 d2, .int .i64 fr, .int .i64 tt] 25) = w4 at Q4 B4 ⊢
    generalize w3.heap.size = q at Q4 ⊢
    have O4 := O3.below B4
    have hr4 := hr3.below B4
    have hq4 := hq3.below B4
    have B04 := below_tr B03 B4
    clear hr2 hr3 hq3 hb3 B02 B03 B4 O2 O3
    have k0 := (O4 0 _ rfl).1
    have k1 := (O4 1 _ rfl).1
    have k2 := (O4 2 _ rfl).1
    have k3 := (O4 3 _ rfl).1
    have k4 := (O4 4 _ rfl).1
    have o0 := (Q4 0 _ rfl).1
    have o1 := (Q4 1 _ rfl).1
    have o2 := (Q4 2 _ rfl).1
    have o3 := (Q4 3 _ rfl).1
    have o4 := (Q4 4 _ rfl).1
    have SM := rsame_eq k sm ms fr tt a n c b n' c' a2 n2 c2 b2 m2 d2 w4 hq4 hr4
    go_wp2_with (go_at_call 16; refine SM.mono ?_; rintro y w5 ⟨rfl, hb5⟩)
    go_ret
    exact ⟨rfl, below_tr B04 hb5⟩
  · have h5i : (20000 : Int) < (s.size : Int) := by omega
    go_enter Tryd.func4, Tryd.ntmps4
    go_wp2
    go_ret
    exact ⟨rfl, Below.refl _ _⟩
end Go.Proofs.YtjmcpdhfefcdgaaDoor
