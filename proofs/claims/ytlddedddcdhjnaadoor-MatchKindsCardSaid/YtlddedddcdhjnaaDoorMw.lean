/- Whether the program's matchers work: one example. -/
import Derived.Test.YtlddedddcdhjnaaDoorMe
import Derived.Test.YtlddedddcdhjnaaDoorMf
import Derived.Test.YtlddedddcdhjnaaDoorMj
namespace Go.Proofs.YtlddedddcdhjnaaDoor
open Go.RowKit Lb Dig

namespace Lb
def mA : Mt := (1, { data := #[97] }, { data := #[49] })
def mB : Mt := (2, { data := #[98] }, { data := #[50] })
def mC : Mt := (4, { data := #[98] }, { data := #[] })
end Lb
theorem sz_lit1 (x : UInt8) : ({ data := #[x] } : ByteArray).size = 1 := rfl
theorem sz_lit0 : ({ data := #[] } : ByteArray).size = 0 := rfl

set_option maxRecDepth 100000 in
set_option maxHeartbeats 4000000 in
theorem mworks_any (w : World) :
    Calls Tryd.prog 39 #[] w fun e w' => e = .returned (.bool true) ∧ Below w.heap.size w w' := by
  have hRM : ∀ m ∈ [mA, mB], (Lit.int .i64 m.1).wf = true ∧ m.2.1.size ≤ 140737488351232 ∧ m.2.2.size ≤ 140737488351232 := fun m hm => by
    simp at hm; rcases hm with rfl | rfl <;> exact ⟨by decide, by decide, by decide⟩
  have hRC : ∀ m ∈ [mC], (Lit.int .i64 m.1).wf = true ∧ m.2.1.size ≤ 140737488351232 ∧ m.2.2.size ≤ 140737488351232 := fun m hm => by
    simp at hm; rcases hm with rfl; exact ⟨by decide, by decide, by decide⟩
  obtain ⟨T, hT⟩ : ∃ T, Hid (encM [mA, mB] = (T, 0)) := ⟨(encM [mA, mB]).1, Lib.hid (Prod.ext rfl (by rw [encM_err]; decide))⟩
  have hTl : T.length ≤ 2000 := by have := encM_len [mA, mB]; rw [hT.out] at this; exact this
  have EN := fun x W h => mencode_any [mA, mB] (some ⟨x, 0, none⟩) 2 2 rfl (by omega) W h
  rw [hT.out] at EN
  have hTs : (mkS T).size = T.length := mkS_size T
  have GT := fun W => mget_any (mkS T ++ { data := #[120] }) (by rw [ByteArray.size_append, mkS_size, sz_lit1]; omega) W
  have hg := get_encM [mA, mB] (by decide) [120]
  rw [hT.out] at hg
  rw [show (mkS T ++ { data := #[120] }).data.toList = T ++ [120] from by rw [ByteArray.data_append]; simp [mkS], hg, ← hTs] at GT
  have hsT : (mkS T).size + 1 ≤ 9223372036854775807 := by omega
  have I1 := fun x y W h h' => mis_any [mA, mB] (some ⟨x, 0, none⟩) 2 2 [wA] (some ⟨y, 0, none⟩) 1 1 rfl (by omega) rfl (by omega) W h h'
  have I2 := fun x y W h h' => mis_any [mA, mB] (some ⟨x, 0, none⟩) 2 2 [wA, wB] (some ⟨y, 0, none⟩) 2 2 rfl (by omega) rfl (by omega) W h h'
  have I3 := fun x y W h h' => mis_any [mC] (some ⟨x, 0, none⟩) 1 1 [wA, wB] (some ⟨y, 0, none⟩) 2 2 rfl (by omega) rfl (by omega) W h h'
  rw [show isM [mA, mB] [wA] = true from by decide] at I1
  rw [show isM [mA, mB] [wA, wB] = false from by decide] at I2
  rw [show isM [mC] [wA, wB] = true from by decide] at I3
  have SM := fun (a : Option Addr) n c x W hn h h' => rmsame_any [mA, mB] [mA, mB] a (some ⟨x, 0, none⟩) n c 2 2 hn rfl (by have h9 : 2 = n := hn; omega) (by omega) W h h'
  simp only [decide_true] at SM
  have R1 := RowV.new w (encR mtC [mA, mB]) 51
  have B1 : Below w.heap.size w (w.alloc (.cells (encR mtC [mA, mB]).toArray 51)) := (Below.refl _ _).alloc (Nat.le_refl _) _
  go_enter Tryd.func39, Tryd.ntmps39
  go_upto_region 2 with (fail)
  change RowV (w.alloc (.cells #[.int .i64 1, .string { data := #[97] }, .string { data := #[49] }, .int .i64 2, .string { data := #[98] }, .string { data := #[50] }] 51)) w.heap.size (encR mtC [mA, mB]) at R1
  change Below w.heap.size w (w.alloc (.cells #[.int .i64 1, .string { data := #[97] }, .string { data := #[49] }, .int .i64 2, .string { data := #[98] }, .string { data := #[50] }] 51)) at B1
  generalize w.alloc (.cells #[.int .i64 1, .string { data := #[97] }, .string { data := #[49] }, .int .i64 2, .string { data := #[98] }, .string { data := #[50] }] 51) = W1 at R1 B1 ⊢
  generalize hg1 : w.heap.size = g1 at R1 ⊢
  have Hg1 := Lib.hid hg1
  clear hg1
  have R2 := RowV.new W1 [.string { data := #[97] }, .string { data := #[49] }] 38
  have B2 : Below W1.heap.size W1 (W1.alloc (.cells #[.string { data := #[97] }, .string { data := #[49] }] 38)) := (Below.refl _ _).alloc (Nat.le_refl _) _
  go_upto_region 3 with (fail)
  generalize W1.alloc (.cells #[.string { data := #[97] }, .string { data := #[49] }] 38) = W2 at R2 B2 ⊢
  generalize W1.heap.size = g2 at R2 ⊢
  have R3 := RowV.new W2 [.string { data := #[97] }, .string { data := #[49] }, .string { data := #[98] }, .string { data := #[50] }] 38
  have B3 : Below W2.heap.size W2 (W2.alloc (.cells #[.string { data := #[97] }, .string { data := #[49] }, .string { data := #[98] }, .string { data := #[50] }] 38)) := (Below.refl _ _).alloc (Nat.le_refl _) _
  go_upto_region 4 with (fail)
  generalize W2.alloc (.cells #[.string { data := #[97] }, .string { data := #[49] }, .string { data := #[98] }, .string { data := #[50] }] 38) = W3 at R3 B3 ⊢
  generalize W2.heap.size = g3 at R3 ⊢
  have b13 := below_tr B2 B3
  have b03 := below_tr B1 b13
  have M3 := RowM.of_rowV (l := [mA, mB]) (R1.below b13) hRM
  have P3 := RowQ.of_rowV (l := [wA]) (R2.below B3)
  have Q3 := RowQ.of_rowV (l := [wA, wB]) R3
  clear R1 R2 R3 B1 B2 B3 b13 hg hRM
  go_upto_region 6 with (first
    | (go_at_call 33; refine (EN _ _ M3).mono ?_; rintro y w4 ⟨rfl, hb4⟩; have M4 := RowM.below M3 hb4; have P4 := P3.below hb4; have Q4 := Q3.below hb4; have b04 := below_tr b03 hb4; clear EN M3 P3 Q3 b03)
    | (go_at_call 29; refine (GT _).mono ?_; rintro y w5 ⟨a5, n5, c5, rfl, hq5, hl5, hb5⟩; have M5 := RowM.below M4 hb5; have P5 := P4.below hb5; have Q5 := Q4.below hb5; have b05 := below_tr b04 hb5; clear GT M4 P4 Q4 b04))
  go_wp2_with (first
    | (go_at_call 37; refine (I1 _ _ _ M5 P5).mono ?_; rintro y w6 ⟨rfl, hb6⟩; have M6 := RowM.below M5 hb6; have Q6 := Q5.below hb6; have hq6 := RowM.below hq5 hb6; have b06 := below_tr b05 hb6; clear I1)
    | (go_at_call 37; refine (I2 _ _ _ M6 Q6).mono ?_; rintro y w7 ⟨rfl, hb7⟩; have hba : Below w7.heap.size w7 (w7.alloc (.cells #[.int .i64 4, .string { data := #[98] }, .string { data := #[] }] 51)) := (Below.refl _ _).alloc (Nat.le_refl _) _; have hb8 := below_tr hb7 hba; have M7 := RowM.below M6 hb8; have Q7 := Q6.below hb8; have hq7 := RowM.below hq6 hb8; have b07 := below_tr b06 hb8; have M8 := RowM.of_rowV (l := [mC]) (RowV.new w7 (encR mtC [mC]) 51) hRC; clear I2 hba hb7 hb8)
    | (go_at_call 37; refine (I3 _ _ _ M8 Q7).mono ?_; rintro y w9 ⟨rfl, hb9⟩; have M9 := RowM.below M7 hb9; have hq9 := RowM.below hq7 hb9; have b09 := below_tr b07 hb9; clear I3)
    | (go_at_call 31; refine (SM _ _ _ _ _ hl5 hq9 M9).mono ?_; rintro y w10 ⟨rfl, hb10⟩; have b10 := below_tr b09 hb10; clear SM))
  go_ret
  exact ⟨rfl, b10⟩
end Go.Proofs.YtlddedddcdhjnaaDoor
