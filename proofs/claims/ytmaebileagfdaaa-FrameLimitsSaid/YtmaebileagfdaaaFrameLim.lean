/- The law FrameLimits. -/
import Derived.Test.YtmaebileagfdaaaFrameLaw
namespace Go.Proofs.Ytmaebileagfdaaa
open Go.RowKit Dig Crc Frm

theorem made_row {w : World} (m : Nat) : RowB (w.alloc (.cells (madeCells (Value.int .u8 0).cells (m * 1)) 5)) w.heap.size (List.replicate m 0) := by
  intro j b hj
  have hlt : j < m := by
    rcases Nat.lt_or_ge j m with h | h
    · exact h
    · rw [List.getElem?_eq_none (by simpa using h)] at hj; cases hj
  rw [List.getElem?_replicate, if_pos hlt] at hj
  cases hj
  refine ⟨?_, by simp⟩
  simp [madeCells, hlt, Value.cells, Nat.mod_one]
theorem u8info : (Try.prog.info? 5).map (fun i => (i.zero, i.size, i.bytes)) = some (some (.int .u8 0), 1, 1) := by kernel_rfl

set_option maxRecDepth 100000 in
set_option maxHeartbeats 2000000 in
theorem frameLimits_walk (n0 kind : Int) (_hn : (Lit.int .i64 n0).wf = true) (hk : (Lit.int .i64 kind).wf = true) (w : World) :
    Calls Try.prog 10 #[.int .i64 n0, .int .i64 kind] w fun e w' => e = .returned (.bool true) ∧ Below w.heap.size w w' := by
  have hK := wf_i64 hk
  obtain ⟨K, hK1, hK2⟩ := umod_k n0 12 (by decide) (by decide)
  obtain ⟨N, hN⟩ : ∃ N, Hid (N = 65530 + K) := ⟨_, Lib.hid rfl⟩
  have hNi : 65530 + (K : Int) = (N : Int) := by have := hN.out; omega
  have hNb : N ≤ 65541 := by have := hN.out; omega
  obtain ⟨i0, hi, hz0, hz1, hz2⟩ : ∃ i0, Try.prog.info? 5 = some i0 ∧ i0.zero = some (.int .u8 0) ∧ i0.size = 1 ∧ i0.bytes = 1 := by
    have h := u8info
    cases hq : Try.prog.info? 5 with
    | none => rw [hq] at h; simp at h
    | some i0 => rw [hq] at h; simp at h; exact ⟨i0, rfl, h.1, h.2.1, h.2.2⟩
  obtain ⟨Z, hZ⟩ : ∃ Z, Hid (Z = List.replicate N (0 : UInt8)) := ⟨_, Lib.hid rfl⟩
  have hZl : Z.length = N := by rw [hZ.out, List.length_replicate]
  have hZs : (mkS Z).size = N := by rw [mkS_size, hZl]
  obtain ⟨P, hP⟩ : ∃ P, Hid (P = put kind Z) := ⟨_, Lib.hid rfl⟩
  have F1 := fun W => fput_any kind (mkS Z) hK (by omega) W
  rw [mkS_data, ← hP.out] at F1
  go_enter Try.func10, Try.ntmps10
  go_upto_region 4 with (go_at_call 31; refine (fworks_any _).mono ?_; rintro e w0 ⟨rfl, hbl0⟩)
  have hmk := run_make (P := Try.prog) w0 47 5 i0 (.int .u8 0) Try.underlying47 hi hz0 .i64 .i64 (N : Int) (N : Int) (by omega) (by omega) (by rw [hz2]; omega) (by omega)
  rw [hz1] at hmk
  have hmr := made_row (w := w0) N
  have hba : Below w0.heap.size w0 (w0.alloc (.cells (madeCells (Value.int .u8 0).cells (N * 1)) 5)) := (Below.refl _ _).alloc (Nat.le_refl _) _
  rw [← hZ.out] at hmr
  have hcv := run_bytes_string (P := Try.prog) _ 47 9 5 ⟨w0.heap.size, 0, none⟩ N N Z (by kernel_rfl) (by kernel_rfl) (by kernel_rfl) hZl hmr.bytesAt
  have e1 : ((N : Int)).toNat = N := rfl
  simp only [Value.cells, Nat.mul_one] at hcv hba
  go_upto_region 5 with (go_at_call 19; refine (F1 _).mono ?_; rintro e w1 ⟨rfl, hb1⟩)
  have hB1 := below_tr hbl0 (below_tr hba hb1)
  have hem : mkS [] = { data := #[] } := rfl
  clear hmk hmr hba hcv F1 hb1 hK1
  rcases (by omega : kind < 1 ∨ (¬ kind < 1 ∧ 255 < kind) ∨ (¬ kind < 1 ∧ ¬ 255 < kind)) with h1 | ⟨h1, h2⟩ | ⟨h1, h2⟩
  · obtain rfl : P = ([], 5) := by rw [hP.out]; exact put_kind (by omega)
    go_wp2
    go_ret
    exact ⟨rfl, hB1⟩
  · obtain rfl : P = ([], 5) := by rw [hP.out]; exact put_kind (by omega)
    go_wp2
    go_ret
    exact ⟨rfl, hB1⟩
  · by_cases hbig : 65536 < N
    · obtain rfl : P = ([], 8) := by rw [hP.out]; exact put_long (by omega) (by omega)
      have hbigi : (65536 : Int) < (N : Int) := by omega
      go_wp2
      go_ret
      exact ⟨rfl, hB1⟩
    · have hbigi : ¬ (65536 : Int) < (N : Int) := by omega
      have hkk : 1 ≤ kind ∧ kind ≤ 255 := by omega
      have hg := get_put hkk (show Z.length ≤ 65536 by omega) []
      have hlen := put_len hkk (show Z.length ≤ 65536 by omega)
      have htb := textB_len Z (by omega)
      have hp2 : P.2 = 0 := by rw [hP.out, put_ok hkk (by omega)]
      rw [← hP.out, List.append_nil] at hg
      rw [← hP.out] at hlen
      obtain ⟨L, hL⟩ : ∃ L, Hid (L = P.1) := ⟨_, Lib.hid rfl⟩
      rw [← hL.out] at hg hlen ⊢
      rw [hp2]
      have G1 := fget_any (mkS L) (by rw [mkS_size]; omega) w1
      rw [mkS_data, fvals_of hg] at G1
      have hkc : ((kind.toNat : Nat) : Int) = kind := by omega
      rw [hkc] at G1
      have hsz : (mkS L).size = L.length := mkS_size L
      have hlb : L.length ≤ 70000 := by omega
      clear hg hkc hlen htb
      go_upto_region 10 with (go_at_call 26; refine G1.mono ?_; rintro e w2 ⟨rfl, hb2⟩)
      have hB2 := below_tr hB1 hb2
      clear G1
      go_wp2
      go_ret
      exact ⟨rfl, hB2.alloc hB2.size _⟩
end Go.Proofs.Ytmaebileagfdaaa
