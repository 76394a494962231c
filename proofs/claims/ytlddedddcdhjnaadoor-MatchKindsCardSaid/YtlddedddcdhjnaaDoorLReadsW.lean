/- The law of labels that are read. -/
import Derived.Test.YtlddedddcdhjnaaDoorLh
namespace Go.Proofs.YtlddedddcdhjnaaDoor
open Go.RowKit Lb Dig Inn

namespace Lb
theorem cmpL_self (l : List Pr) : cmpL l l = 0 := by
  induction l with
  | nil => rfl
  | cons p l ih => simp [cmpL, ih]
theorem decL_len (s : List UInt8) : (decL s).1.length ≤ 8 := by
  unfold decL finD
  split
  · simp
  · split
    · simp
    · split
      · simp
      · rename_i h; simp only [ne_eq, Classical.not_not] at h; exact (chkL_ok h).2.1
end Lb

set_option maxRecDepth 100000 in
set_option maxHeartbeats 4000000 in
theorem labelReads_walk (s : ByteArray) (hs : s.size ≤ 140737488351232) (w : World) :
    Calls Tryd.prog 3 #[.string s] w fun e w' => e = .returned (.bool true) ∧ Below w.heap.size w w' := by
  by_cases h5 : s.size ≤ 5000
  · have h5i : (s.size : Int) ≤ 5000 := by omega
    have LD := fun W => ldecode_any s (by omega) W
    have RD := fun W => rldecode_any s (by omega) W
    have hlen := decL_len s.data.toList
    obtain ⟨D, hD⟩ : ∃ D, Hid (decL s.data.toList = D) := ⟨_, Lib.hid rfl⟩
    rw [hD.out] at LD RD hlen
    go_enter Tryd.func3, Tryd.ntmps3
    go_upto_region 5 with (first
      | (go_at_call 14; refine (LD _).mono ?_; rintro y w1 ⟨a1, n1, c1, rfl, hq1, hl1, hb1⟩)
      | (go_at_call 15; refine (RD _).mono ?_; rintro y w2 ⟨a2, n2, c2, rfl, hq2, hl2, hb2⟩))
    have SM := rlsame_any D.1 D.1 a1 a2 n1 c1 n2 c2 hl1 hl2 (by omega) (by omega) w2 (hq1.below hb2) hq2
    rw [cmpL_self] at SM
    clear LD RD
    go_wp2_with (go_at_call 16; refine SM.mono ?_; rintro y w3 ⟨rfl, hb3⟩)
    go_ret
    exact ⟨rfl, below_tr (below_tr hb1 hb2) hb3⟩
  · have h5i : ¬ (s.size : Int) ≤ 5000 := by omega
    go_enter Tryd.func3, Tryd.ntmps3
    go_wp2
    go_ret
    exact ⟨rfl, Below.refl _ _⟩
end Go.Proofs.YtlddedddcdhjnaaDoor
