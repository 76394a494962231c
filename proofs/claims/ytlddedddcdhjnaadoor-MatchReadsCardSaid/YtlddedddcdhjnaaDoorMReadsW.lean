/- The law of matchers that are read. -/
import Derived.Test.YtlddedddcdhjnaaDoorMj
namespace Go.Proofs.YtlddedddcdhjnaaDoor
open Go.RowKit Lb Dig Inn

set_option maxRecDepth 100000 in
set_option maxHeartbeats 4000000 in
theorem matchReads_walk (s : ByteArray) (hs : s.size ≤ 140737488351232) (w : World) :
    Calls Tryd.prog 8 #[.string s] w fun e w' => e = .returned (.bool true) ∧ Below w.heap.size w w' := by
  by_cases h5 : s.size ≤ 5000
  · have h5i : (s.size : Int) ≤ 5000 := by omega
    have LD := fun W => mget_any s (by omega) W
    have RD := fun W => rmget_any s (by omega) W
    have hlen := (getM_facts s.data.toList).1
    obtain ⟨D, hD⟩ : ∃ D, Hid (getM s.data.toList = D) := ⟨_, Lib.hid rfl⟩
    rw [hD.out] at LD RD hlen
    go_enter Tryd.func8, Tryd.ntmps8
    go_upto_region 5 with (first
      | (go_at_call 29; refine (LD _).mono ?_; rintro y w1 ⟨a1, n1, c1, rfl, hq1, hl1, hb1⟩)
      | (go_at_call 30; refine (RD _).mono ?_; rintro y w2 ⟨a2, n2, c2, rfl, hq2, hl2, hb2⟩))
    have SM := rmsame_any D.1 D.1 a1 a2 n1 c1 n2 c2 hl1 hl2 (by omega) (by omega) w2 (RowM.below hq1 hb2) hq2
    rw [decide_eq_true rfl] at SM
    clear LD RD
    go_wp2_with (go_at_call 31; refine SM.mono ?_; rintro y w3 ⟨rfl, hb3⟩)
    go_ret
    exact ⟨rfl, below_tr (below_tr hb1 hb2) hb3⟩
  · have h5i : ¬ (s.size : Int) ≤ 5000 := by omega
    go_enter Tryd.func8, Tryd.ntmps8
    go_wp2
    go_ret
    exact ⟨rfl, Below.refl _ _⟩
end Go.Proofs.YtlddedddcdhjnaaDoor
