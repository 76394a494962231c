/- Frames: what the program and the document do. -/
import Derived.Test.YtmaebileagfdaaaDigT
import Derived.Test.YtmaebileagfdaaaSum
import Derived.Test.YtmaebileagfdaaaMem
import Derived.Test.YtmaebileagfdaaaCopy
import Derived.Deep.CutBlock
namespace Go.Proofs.Ytmaebileagfdaaa
open Go.RowKit Dig Crc

namespace Frm
def body (k : Int) (d : List UInt8) : List UInt8 := UInt8.ofNat k.toNat :: textB d
/-- A frame's bytes, and the error. -/
def put (k : Int) (d : List UInt8) : List UInt8 × Nat :=
  if k < 1 ∨ 255 < k then ([], 5) else if 65536 < d.length then ([], 8) else (body k d ++ sumB (moreN 0 (body k d)), 0)
/-- The frame at the front: its kind, its data, how many bytes, the error. -/
def get (s : List UInt8) : Nat × List UInt8 × Nat × Nat :=
  match s with
  | [] => (0, [], 0, 1)
  | b :: r => if b = 0 then (0, [], 0, 5) else
    if (getText r 65536).2.2 ≠ 0 then (0, [], 0, (getText r 65536).2.2) else
    if s.length < (getText r 65536).2.1 + 5 then (0, [], 0, 1) else
    if (s.drop ((getText r 65536).2.1 + 1)).take 4 ≠ sumB (moreN 0 (s.take ((getText r 65536).2.1 + 1))) then (0, [], 0, 10) else
    (b.toNat, (getText r 65536).1, (getText r 65536).2.1 + 5, 0)
end Frm
open Frm

/-- A frame in memory. -/
structure FAt (w : World) (B : Nat) (k : Int) (d : ByteArray) : Prop where
  lt : B < w.heap.size
  c0 : w.cell? ⟨B, 0, none⟩ = some (.int .i64 k)
  c1 : w.cell? ⟨B, 1, none⟩ = some (.string d)
theorem FAt.keep {w : World} {B : Nat} {k : Int} {d : ByteArray} (h : FAt w B k d) (W : World) (hb : Below w.heap.size w W) : W.cell? ⟨B, 0, none⟩ = some (.int .i64 k) ∧ W.cell? ⟨B, 1, none⟩ = some (.string d) := by
  rw [hb.cell (p := ⟨B, 0, none⟩) h.lt, hb.cell (p := ⟨B, 1, none⟩) h.lt]; exact ⟨h.c0, h.c1⟩
theorem textB_len (s : List UInt8) (h : s.length < 18446744073709551616) : (textB s).length ≤ s.length + 9 := by
  have := dig_len8 s.length h
  unfold textB numB; simp; omega

set_option maxRecDepth 100000 in
set_option maxHeartbeats 2000000 in
theorem fput_any (k : Int) (d : ByteArray) (hk : -9223372036854775808 ≤ k ∧ k < 9223372036854775808) (hd : d.size ≤ 4611686018427387904) (w : World) :
    Calls Try.prog 19 #[.agg #[.int .i64 k, .string d]] w fun e w' => e = .returned (.tuple #[.string (mkS (put k d.data.toList).1), .int .i64 ((put k d.data.toList).2 : Nat)]) ∧ Below w.heap.size w w' := by
  obtain ⟨F, hF⟩ : ∃ F, Hid (F = put k d.data.toList) := ⟨_, Lib.hid rfl⟩
  rw [← hF.out]
  have Hdl := Lib.hid (size_toList d)
  go_enter Try.func19, Try.ntmps19
  have hb0 : Below w.heap.size w (w.alloc (.cells #[.int .i64 k, .string d] 40)) := (Below.refl _ _).alloc (Nat.le_refl _) _
  rcases (by omega : k < 1 ∨ (¬ k < 1 ∧ 255 < k) ∨ (¬ k < 1 ∧ ¬ 255 < k)) with h1 | ⟨h1, h2⟩ | ⟨h1, h2⟩
  · have hf : F = ([], 5) := by rw [hF.out, put, if_pos (by omega)]
    subst hf
    go_wp2
    go_ret2
    exact ⟨rfl, hb0⟩
  · have hf : F = ([], 5) := by rw [hF.out, put, if_pos (by omega)]
    subst hf
    go_wp2
    go_ret2
    exact ⟨rfl, hb0⟩
  · by_cases h3 : 65536 < (d.size : Int)
    · have hf : F = ([], 8) := by rw [hF.out, put, if_neg (by omega), if_pos (by rw [← Hdl.out]; omega)]
      subst hf
      go_wp2
      go_ret2
      exact ⟨rfl, hb0⟩
    · have hf : F = (body k d.data.toList ++ sumB (moreN 0 (body k d.data.toList)), 0) := by rw [hF.out, put, if_neg (by omega), if_neg (by rw [← Hdl.out]; omega)]
      have hm0 : FAt (w.alloc (.cells #[.int .i64 k, .string d] 40)) w.heap.size k d := ⟨by simp, by simp, by simp⟩
      obtain ⟨c, hc⟩ : ∃ c, Hid (c = UInt8.ofNat k.toNat) := ⟨_, Lib.hid rfl⟩
      have hkc : Hid (k = ((c.toNat : Nat) : Int)) := Lib.hid (by rw [hc.out, UInt8.toNat_ofNat']; omega)
      have htl := textB_len d.data.toList (by rw [← Hdl.out]; omega)
      have hz : ¬ 9223372036854775807 < (mkS [c]).size + (mkS (textB d.data.toList)).size := by rw [mkS_size, mkS_size]; simp only [List.length_singleton]; have := Hdl.out; omega
      have hbody : Hid (mkS [c] ++ mkS (textB d.data.toList) = mkS (body k d.data.toList)) := Lib.hid (by rw [mkS_append, body, hc.out]; rfl)
      have hbl : (body k d.data.toList).length ≤ 65600 := by unfold body; have := Hdl.out; simp only [List.length_cons]; omega
      have Hf := Lib.hid hf
      clear htl hf
      go_upto_region 5 with (fail)
      obtain ⟨B, hB⟩ : ∃ B, Hid (B = w.heap.size) := ⟨_, Lib.hid rfl⟩
      rw [← hB.out] at hm0 ⊢
      generalize (w.alloc (.cells #[.int .i64 k, .string d] 40)) = w1 at hm0 hb0 ⊢
      have hm := hm0
      have HB := Below.refl w1.heap.size w1
      refine wp_region_det_list (by kernel_rfl) (by kernel_rfl) (SL [eqv (.pointer (some ⟨B, 0, none⟩)), eqv (.int .i64 k), eqv (.int .u8 k), cell0 1 1 (.int .u8 k), eqv (.string (mkS [c])), eqv (.pointer (some ⟨B, 1, none⟩)), eqv (.string d), eqv (.string (mkS (textB d.data.toList))), eqv (.string (mkS [c] ++ mkS (textB d.data.toList))), eqv (.string (mkS [c] ++ mkS (textB d.data.toList)))]) (fun W => Below w1.heap.size w1 W) Grow ?hJ ?hX ?hop ?hend
      case hJ => exact HB.drew
      case hX => exact SL_mono _ ⟨mono_eqv _, mono_eqv _, mono_eqv _, mono_cell0 _ _ _, mono_eqv _, mono_eqv _, mono_eqv _, mono_eqv _, mono_eqv _, mono_eqv _, trivial⟩
      case hop =>
        refine ⟨fun vals W hJ hS => ?_, fun vals W hJ hS => ?_, fun vals W hJ hS => ?_, fun vals W hJ hS => ?_, fun vals W hJ hS => ?_, fun vals W hJ hS => ?_, fun vals W hJ hS => ?_, fun vals W hJ hS => ?_, fun vals W hJ hS => ?_, fun vals W hJ hS => ?_, trivial⟩
        · clear hS
          simp only [fillTo]
          go_wp2
          exact ⟨rfl, SL_eq rfl rfl, hJ, Below.refl _ _⟩
        · have h0 := SL_val rfl (hS 0 (by kernel_rfl))
          have hkc := (hm.keep W hJ).1
          clear hS
          simp only [fillTo]
          go_simp
          generalize vals 0 = v0 at h0 ⊢
          subst h0
          go_wp2
          exact ⟨rfl, SL_eq rfl rfl, hJ, Below.refl _ _⟩
        · have h1 := SL_val rfl (hS 1 (by kernel_rfl))
          clear hS
          simp only [fillTo]
          go_simp
          generalize vals 1 = v1 at h1 ⊢
          subst h1
          go_wp2
          exact ⟨rfl, SL_eq rfl rfl, hJ, Below.refl _ _⟩
        · have h2 := SL_val rfl (hS 2 (by kernel_rfl))
          clear hS
          simp only [fillTo]
          go_simp
          generalize vals 2 = v2 at h2 ⊢
          subst h2
          go_wp2
          exact ⟨rfl, SL_at rfl ⟨_, rfl, by simp, by simp⟩, hJ.alloc hJ.size _, (Below.refl _ _).alloc (Nat.le_refl _) _⟩
        · obtain ⟨g, hv, hg, hcell⟩ := SL_get rfl (hS 3 (by kernel_rfl))
          have hkc := run_byte_string (P := Try.prog) 47 9 5 c (by kernel_rfl) (by kernel_rfl) (by kernel_rfl) W g 1 (by rw [← hkc.out]; exact hcell)
          clear hS
          simp only [fillTo]
          go_simp
          go_wp2
          exact ⟨rfl, SL_eq rfl rfl, hJ, Below.refl _ _⟩
        · clear hS
          simp only [fillTo]
          go_simp
          go_wp2
          exact ⟨rfl, SL_eq rfl rfl, hJ, Below.refl _ _⟩
        · have h5 := SL_val rfl (hS 5 (by kernel_rfl))
          have hkc := (hm.keep W hJ).2
          clear hS
          simp only [fillTo]
          go_simp
          generalize vals 5 = v5 at h5 ⊢
          subst h5
          go_wp2
          exact ⟨rfl, SL_eq rfl rfl, hJ, Below.refl _ _⟩
        · have h6 := SL_val rfl (hS 6 (by kernel_rfl))
          clear hS
          simp only [fillTo]
          go_simp
          generalize vals 6 = v6 at h6 ⊢
          subst h6
          go_wp2_with (go_at_call 42; refine (dtext_any d hd _).mono ?_; rintro e w' ⟨rfl, hb⟩)
          exact ⟨rfl, SL_eq rfl rfl, hJ.trans (hb.mono hJ.size), hb⟩
        · have h4 := SL_val rfl (hS 4 (by kernel_rfl))
          have h7 := SL_val rfl (hS 7 (by kernel_rfl))
          clear hS
          simp only [fillTo]
          go_simp
          generalize vals 4 = v4 at h4 ⊢
          subst h4
          generalize vals 7 = v7 at h7 ⊢
          subst h7
          go_wp2
          exact ⟨rfl, SL_eq rfl rfl, hJ, Below.refl _ _⟩
        · have h8 := SL_val rfl (hS 8 (by kernel_rfl))
          clear hS
          simp only [fillTo]
          go_simp
          generalize vals 8 = v8 at h8 ⊢
          subst h8
          go_wp2
          exact ⟨rfl, SL_eq rfl rfl, hJ, Below.refl _ _⟩
      case hend =>
        intro vals W hJ hS
        have h9 := SL_val rfl (hS 9 (by decide))
        clear hS
        simp only [List.size_toArray, List.length_cons, List.length_nil, Nat.reduceAdd, fillTo]
        go_simp
        generalize vals 9 = v9 at h9 ⊢
        subst h9
        rw [hbody.out]
        obtain ⟨S, hS⟩ : ∃ S, Hid (S = moreN 0 (body k d.data.toList)) := ⟨_, Lib.hid rfl⟩
        have OF := of_any (mkS (body k d.data.toList)) (by rw [mkS_size]; omega) W
        rw [mkS_data, ← hS.out] at OF
        have hSl : S < 4294967296 := by rw [hS.out]; exact moreN_lt _ _
        have hz2 : ¬ 9223372036854775807 < (mkS (body k d.data.toList)).size + (mkS (sumB S)).size := by rw [mkS_size, mkS_size]; simp [sumB]; omega
        go_wp2_with (first
          | (go_at_call 40; refine OF.mono ?_; rintro e w2 ⟨rfl, hb2⟩)
          | (go_at_call 43; refine (bytes_any S hSl _).mono ?_; rintro e w3 ⟨rfl, hb3⟩))
        go_ret2
        refine ⟨?_, below_tr (below_tr (below_tr hb0 hJ) hb2) hb3⟩
        rw [Hf.out, hS.out, ← mkS_append]; rfl
set_option maxRecDepth 100000 in
set_option maxHeartbeats 2000000 in
theorem rfput_any (k : Int) (d : ByteArray) (hk : -9223372036854775808 ≤ k ∧ k < 9223372036854775808) (hd : d.size ≤ 4611686018427387904) (w : World) :
    Calls Try.prog 20 #[.agg #[.int .i64 k, .string d]] w fun e w' => e = .returned (.tuple #[.string (mkS (put k d.data.toList).1), .int .i64 ((put k d.data.toList).2 : Nat)]) ∧ Below w.heap.size w w' := by
  obtain ⟨F, hF⟩ : ∃ F, Hid (F = put k d.data.toList) := ⟨_, Lib.hid rfl⟩
  rw [← hF.out]
  have Hdl := Lib.hid (size_toList d)
  go_enter Try.func20, Try.ntmps20
  have hb0 : Below w.heap.size w (w.alloc (.cells #[.int .i64 k, .string d] 42)) := (Below.refl _ _).alloc (Nat.le_refl _) _
  rcases (by omega : k < 1 ∨ (¬ k < 1 ∧ 255 < k) ∨ (¬ k < 1 ∧ ¬ 255 < k)) with h1 | ⟨h1, h2⟩ | ⟨h1, h2⟩
  · have hf : F = ([], 5) := by rw [hF.out, put, if_pos (by omega)]
    subst hf
    go_wp2
    go_ret2
    exact ⟨rfl, hb0⟩
  · have hf : F = ([], 5) := by rw [hF.out, put, if_pos (by omega)]
    subst hf
    go_wp2
    go_ret2
    exact ⟨rfl, hb0⟩
  · by_cases h3 : 65536 < (d.size : Int)
    · have hf : F = ([], 8) := by rw [hF.out, put, if_neg (by omega), if_pos (by rw [← Hdl.out]; omega)]
      subst hf
      go_wp2
      go_ret2
      exact ⟨rfl, hb0⟩
    · have hf : F = (body k d.data.toList ++ sumB (moreN 0 (body k d.data.toList)), 0) := by rw [hF.out, put, if_neg (by omega), if_neg (by rw [← Hdl.out]; omega)]
      have hm0 : FAt (w.alloc (.cells #[.int .i64 k, .string d] 42)) w.heap.size k d := ⟨by simp, by simp, by simp⟩
      obtain ⟨c, hc⟩ : ∃ c, Hid (c = UInt8.ofNat k.toNat) := ⟨_, Lib.hid rfl⟩
      have hkc : Hid (k = ((c.toNat : Nat) : Int)) := Lib.hid (by rw [hc.out, UInt8.toNat_ofNat']; omega)
      have htl := textB_len d.data.toList (by rw [← Hdl.out]; omega)
      have hz : ¬ 9223372036854775807 < (mkS [c]).size + (mkS (textB d.data.toList)).size := by rw [mkS_size, mkS_size]; simp only [List.length_singleton]; have := Hdl.out; omega
      have hbody : Hid (mkS [c] ++ mkS (textB d.data.toList) = mkS (body k d.data.toList)) := Lib.hid (by rw [mkS_append, body, hc.out]; rfl)
      have hbl : (body k d.data.toList).length ≤ 65600 := by unfold body; have := Hdl.out; simp only [List.length_cons]; omega
      have Hf := Lib.hid hf
      clear htl hf
      go_upto_region 5 with (fail)
      obtain ⟨B, hB⟩ : ∃ B, Hid (B = w.heap.size) := ⟨_, Lib.hid rfl⟩
      rw [← hB.out] at hm0 ⊢
      generalize (w.alloc (.cells #[.int .i64 k, .string d] 42)) = w1 at hm0 hb0 ⊢
      have hm := hm0
      have HB := Below.refl w1.heap.size w1
      refine wp_region_det_list (by kernel_rfl) (by kernel_rfl) (SL [eqv (.pointer (some ⟨B, 0, none⟩)), eqv (.int .i64 k), eqv (.int .u8 k), cell0 1 1 (.int .u8 k), eqv (.string (mkS [c])), eqv (.pointer (some ⟨B, 1, none⟩)), eqv (.string d), eqv (.string (mkS (textB d.data.toList))), eqv (.string (mkS [c] ++ mkS (textB d.data.toList))), eqv (.string (mkS [c] ++ mkS (textB d.data.toList)))]) (fun W => Below w1.heap.size w1 W) Grow ?hJ ?hX ?hop ?hend
      case hJ => exact HB.drew
      case hX => exact SL_mono _ ⟨mono_eqv _, mono_eqv _, mono_eqv _, mono_cell0 _ _ _, mono_eqv _, mono_eqv _, mono_eqv _, mono_eqv _, mono_eqv _, mono_eqv _, trivial⟩
      case hop =>
        refine ⟨fun vals W hJ hS => ?_, fun vals W hJ hS => ?_, fun vals W hJ hS => ?_, fun vals W hJ hS => ?_, fun vals W hJ hS => ?_, fun vals W hJ hS => ?_, fun vals W hJ hS => ?_, fun vals W hJ hS => ?_, fun vals W hJ hS => ?_, fun vals W hJ hS => ?_, trivial⟩
        · clear hS
          simp only [fillTo]
          go_wp2
          exact ⟨rfl, SL_eq rfl rfl, hJ, Below.refl _ _⟩
        · have h0 := SL_val rfl (hS 0 (by kernel_rfl))
          have hkc := (hm.keep W hJ).1
          clear hS
          simp only [fillTo]
          go_simp
          generalize vals 0 = v0 at h0 ⊢
          subst h0
          go_wp2
          exact ⟨rfl, SL_eq rfl rfl, hJ, Below.refl _ _⟩
        · have h1 := SL_val rfl (hS 1 (by kernel_rfl))
          clear hS
          simp only [fillTo]
          go_simp
          generalize vals 1 = v1 at h1 ⊢
          subst h1
          go_wp2
          exact ⟨rfl, SL_eq rfl rfl, hJ, Below.refl _ _⟩
        · have h2 := SL_val rfl (hS 2 (by kernel_rfl))
          clear hS
          simp only [fillTo]
          go_simp
          generalize vals 2 = v2 at h2 ⊢
          subst h2
          go_wp2
          exact ⟨rfl, SL_at rfl ⟨_, rfl, by simp, by simp⟩, hJ.alloc hJ.size _, (Below.refl _ _).alloc (Nat.le_refl _) _⟩
        · obtain ⟨g, hv, hg, hcell⟩ := SL_get rfl (hS 3 (by kernel_rfl))
          have hkc := run_byte_string (P := Try.prog) 47 9 5 c (by kernel_rfl) (by kernel_rfl) (by kernel_rfl) W g 1 (by rw [← hkc.out]; exact hcell)
          clear hS
          simp only [fillTo]
          go_simp
          go_wp2
          exact ⟨rfl, SL_eq rfl rfl, hJ, Below.refl _ _⟩
        · clear hS
          simp only [fillTo]
          go_simp
          go_wp2
          exact ⟨rfl, SL_eq rfl rfl, hJ, Below.refl _ _⟩
        · have h5 := SL_val rfl (hS 5 (by kernel_rfl))
          have hkc := (hm.keep W hJ).2
          clear hS
          simp only [fillTo]
          go_simp
          generalize vals 5 = v5 at h5 ⊢
          subst h5
          go_wp2
          exact ⟨rfl, SL_eq rfl rfl, hJ, Below.refl _ _⟩
        · have h6 := SL_val rfl (hS 6 (by kernel_rfl))
          clear hS
          simp only [fillTo]
          go_simp
          generalize vals 6 = v6 at h6 ⊢
          subst h6
          go_wp2_with (go_at_call 44; refine (dreftext_any d hd _).mono ?_; rintro e w' ⟨rfl, hb⟩)
          exact ⟨rfl, SL_eq rfl rfl, hJ.trans (hb.mono hJ.size), hb⟩
        · have h4 := SL_val rfl (hS 4 (by kernel_rfl))
          have h7 := SL_val rfl (hS 7 (by kernel_rfl))
          clear hS
          simp only [fillTo]
          go_simp
          generalize vals 4 = v4 at h4 ⊢
          subst h4
          generalize vals 7 = v7 at h7 ⊢
          subst h7
          go_wp2
          exact ⟨rfl, SL_eq rfl rfl, hJ, Below.refl _ _⟩
        · have h8 := SL_val rfl (hS 8 (by kernel_rfl))
          clear hS
          simp only [fillTo]
          go_simp
          generalize vals 8 = v8 at h8 ⊢
          subst h8
          go_wp2
          exact ⟨rfl, SL_eq rfl rfl, hJ, Below.refl _ _⟩
      case hend =>
        intro vals W hJ hS
        have h9 := SL_val rfl (hS 9 (by decide))
        clear hS
        simp only [List.size_toArray, List.length_cons, List.length_nil, Nat.reduceAdd, fillTo]
        go_simp
        generalize vals 9 = v9 at h9 ⊢
        subst h9
        rw [hbody.out]
        obtain ⟨S, hS⟩ : ∃ S, Hid (S = moreN 0 (body k d.data.toList)) := ⟨_, Lib.hid rfl⟩
        have OF := refof_any (mkS (body k d.data.toList)) (by rw [mkS_size]; omega) W
        rw [mkS_data, ← hS.out] at OF
        have hSl : S < 4294967296 := by rw [hS.out]; exact moreN_lt _ _
        have hz2 : ¬ 9223372036854775807 < (mkS (body k d.data.toList)).size + (mkS (sumB S)).size := by rw [mkS_size, mkS_size]; simp [sumB]; omega
        go_wp2_with (first
          | (go_at_call 41; refine OF.mono ?_; rintro e w2 ⟨rfl, rfl⟩)
          | (go_at_call 45; refine (refbytes_any S hSl _).mono ?_; rintro e w3 ⟨rfl, hb3⟩))
        go_ret2
        refine ⟨?_, below_tr (below_tr hb0 hJ) hb3⟩
        rw [Hf.out, hS.out, ← mkS_append]; rfl
end Go.Proofs.Ytmaebileagfdaaa
