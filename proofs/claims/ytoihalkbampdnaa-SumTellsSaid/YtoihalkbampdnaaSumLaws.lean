/- The laws of the check sum, walked. -/
import Derived.Test.YtoihalkbampdnaaSum
namespace Go.Proofs.Ytoihalkbampdnaa
open Go.RowKit Crc

theorem sumTells_walk (c0 : Int) (s : ByteArray) (hc : (Lit.int .u32 c0).wf = true) (hs : s.size ≤ 140737488351232) (w : World) :
    Calls Try.prog 3 #[.int .u32 c0, .string s] w fun e w' => e = .returned (.bool true) ∧ Below w.heap.size w w' := by
  obtain ⟨h0, h1⟩ := wf_u32 hc
  obtain ⟨c, rfl⟩ := Int.eq_ofNat_of_zero_le h0
  have hc' : c < 4294967296 := by omega
  have hs' : s.size ≤ 9223372036854775807 := by omega
  clear hc h0 h1
  have HB := Below.refl w.heap.size w
  by_cases hlt : 5000 < s.size
  · go_enter Try.func3, Try.ntmps3
    go_wp2
    go_ret
    exact ⟨rfl, HB⟩
  · go_enter Try.func3, Try.ntmps3
    go_wp2_with (first
      | (go_at_call 15; refine (of_any s hs' _).mono ?_; rintro e w' ⟨rfl, hb⟩; replace HB := below_tr HB hb; clear hb)
      | (go_at_call 16; refine (refof_any s hs' _).mono ?_; rintro e w' ⟨rfl, rfl⟩)
      | (go_at_call 17; refine (more_any c hc' s hs' _).mono ?_; rintro e w' ⟨rfl, hb⟩; replace HB := below_tr HB hb; clear hb)
      | (go_at_call 18; refine (refmore_any c hc' s hs' _).mono ?_; rintro e w' ⟨rfl, rfl⟩)
      | (go_at_call 19; refine (bytes_any c hc' _).mono ?_; rintro e w' ⟨rfl, hb⟩; replace HB := below_tr HB hb; clear hb)
      | (go_at_call 20; refine (refbytes_any c hc' _).mono ?_; rintro e w' ⟨rfl, hb⟩; replace HB := below_tr HB hb; clear hb))
    go_ret
    exact ⟨rfl, HB⟩
end Go.Proofs.Ytoihalkbampdnaa
