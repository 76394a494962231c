/- The bits' own test, in every world. -/
import Derived.Test.YtknpcbildcbbnaaBitReads
import Derived.Test.YtknpcbildcbbnaaBitP
namespace Go.Proofs.Ytknpcbildcbbnaa
open Go.RowKit Bit

theorem txt_size (l : List UInt8) : (mkS l).size = l.length := by rw [size_toList]; simp [mkS]
theorem txt_list (l : List UInt8) : (mkS l).data.toList = l := by simp [mkS]

set_option maxRecDepth 100000 in
set_option maxHeartbeats 2000000 in
theorem works_any (w : World) : Calls Try.prog 23 #[] w fun e w' => e = .returned (.bool true) ∧ Below w.heap.size w w' := by
  go_enter Try.func23, Try.ntmps23
  go_upto_region 4 with (go_at_call 12; refine (newwriter_any _).mono ?_; rintro e w1 ⟨rfl, hw1, hb1⟩)
  have hw1' : WInv w1 w.heap.size (.slice none 0 0) (pack []) ([] : List Bool).length := hw1
  go_upto_region 5 with (go_at_call 13; refine (put_any _ _ _ [] 5 3 (by omega) hw1' (by simp) (by omega) (by omega)).mono ?_; rintro e w2 ⟨rfl, v2, hw2, hv2, hc2⟩)
  have hb2 : Below w.heap.size w w2 := hc2.below_tr hb1 (fun k hk hf => by
    rcases hf with rfl | hk2
    · exact Nat.lt_irrefl _ hk
    · simp [Value.ownBlock] at hk2)
  have hw2' : WInv w2 w.heap.size v2 (pack (bitsOf 5 3)) (bitsOf 5 3).length := hw2
  go_upto_region 6 with (go_at_call 13; refine (put_any _ _ _ (bitsOf 5 3) 1 2 (by omega) hw2' (by rw [bitsOf_length]; omega) (by omega) (by omega)).mono ?_; rintro e w3 ⟨rfl, v3, hw3, hv3, hc3⟩)
  have hv2' : ∀ g, v2.ownBlock = some g → w.heap.size ≤ g := fun g hg => by
    rcases hv2 g hg with h | h
    · simp [Value.ownBlock] at h
    · have := hb1.size; omega
  have hb3 : Below w.heap.size w w3 := hc3.below_tr hb2 (fun k hk hf => by
    rcases hf with rfl | hk2
    · exact Nat.lt_irrefl _ hk
    · have := hv2' k hk2; omega)
  have hv3' : ∀ g, v3.ownBlock = some g → w.heap.size ≤ g := fun g hg => by
    rcases hv3 g hg with h | h
    · exact hv2' g h
    · have := hb2.size; omega
  obtain ⟨T, hT⟩ : ∃ T, Hid (T = pack (bitsOf 5 3 ++ bitsOf 1 2)) := ⟨_, Lib.hid rfl⟩
  have hw3' : WInv w3 w.heap.size v3 T 5 := by rw [hT.out]; exact hw3
  have hTv : T = [168] := by rw [hT.out]; decide
  subst hTv
  have hsz : (mkS [168]).size = 1 := txt_size _
  have htl : (mkS [168]).data.toList = [168] := txt_list _
  clear hw1' hw2' hw3
  go_upto_region 9 with (first
    | (go_at_call 16; refine (text_any _ _ _ _ _ hw3').mono ?_; rintro e w' ⟨rfl, rfl⟩)
    | (go_at_call 15; refine (len_any _ _ _ _ _ hw3').mono ?_; rintro e w' ⟨rfl, rfl⟩)
    | (go_at_call 18; refine (newreader_any _ (mkS [168]) 5 5 (by rw [hsz]; omega) (by rw [hsz]; omega)).mono ?_; rintro e w4 ⟨rfl, hw4, hb4⟩))
  have hp3 : w.heap.size < w3.heap.size := World.block_lt_of_cell? w3 _ hw3'.c0
  have hv3b : ∀ g, v3.ownBlock = some g → g < w3.heap.size := fun g hg => owns_lt hw3'.own hg
  have hw4' : WInv w4 w.heap.size v3 [168] 5 := hw3'.keep (Chg.of_below (fun _ => False) hb4) (fun _ _ x => x)
  have hb4' : Below w.heap.size w w4 := below_tr hb3 hb4
  have G1 := rget_any w4 w3.heap.size (mkS [168]) 0 5 3 hw4 (by omega) (by rw [hsz]; omega) (by rw [hsz]; omega)
  rw [htl, show getR (bitsT [168]) 0 5 3 = (5, true, 3) from by decide] at G1
  have K : ∀ W W' : World, WInv W w.heap.size v3 [168] 5 → Chg (fun k => k = w3.heap.size) W W' → WInv W' w.heap.size v3 [168] 5 := fun W W' h hc => h.keep hc (by
    rintro k (rfl | hk) hF
    · omega
    · have := hv3b k hk; omega)
  have Bk : ∀ W W' : World, Below w.heap.size w W → Chg (fun k => k = w3.heap.size) W W' → Below w.heap.size w W' := fun W W' h hc => h.trans (hc.below h.size (fun k hk e => by omega))
  go_upto_region 10 with (go_at_call 20; refine G1.mono ?_; rintro e w5 ⟨rfl, hw5, hc5⟩)
  have hW5 := K _ _ hw4' hc5
  have hB5 := Bk _ _ hb4' hc5
  have G2 := rget_any w5 w3.heap.size (mkS [168]) 3 5 2 hw5 (by omega) (by rw [hsz]; omega) (by rw [hsz]; omega)
  rw [htl, show getR (bitsT [168]) 3 5 2 = (1, true, 5) from by decide] at G2
  go_upto_region 11 with (go_at_call 20; refine G2.mono ?_; rintro e w6 ⟨rfl, hw6, hc6⟩)
  have hW6 := K _ _ hW5 hc6
  have hB6 := Bk _ _ hB5 hc6
  have G3 := rget_any w6 w3.heap.size (mkS [168]) 5 5 1 hw6 (by omega) (by rw [hsz]; omega) (by rw [hsz]; omega)
  rw [htl, show getR (bitsT [168]) 5 5 1 = (0, false, 5) from by decide] at G3
  go_upto_region 12 with (go_at_call 20; refine G3.mono ?_; rintro e w7 ⟨rfl, hw7, hc7⟩)
  have hW7 := K _ _ hW6 hc7
  have hB7 := Bk _ _ hB6 hc7
  clear G1 G2 G3 K Bk
  have hmk : (mkS [168]) = { data := #[168] } := rfl
  go_wp2_with (first
    | (go_at_call 16; refine (text_any _ _ _ _ _ hW7).mono ?_; rintro e w' ⟨rfl, rfl⟩)
    | (go_at_call 15; refine (len_any _ _ _ _ _ hW7).mono ?_; rintro e w' ⟨rfl, rfl⟩))
  go_ret
  exact ⟨rfl, hB7⟩
end Go.Proofs.Ytknpcbildcbbnaa
