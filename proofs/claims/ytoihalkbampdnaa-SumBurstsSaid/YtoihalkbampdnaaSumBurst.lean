/- The law on bursts, walked. -/
import Derived.Test.YtoihalkbampdnaaSumLaws
import Derived.Test.YtoihalkbampdnaaBurst
import Derived.BigRegion
namespace Go.Proofs.Ytoihalkbampdnaa
open Go.RowKit Crc

theorem sumBursts_none (s : ByteArray) (at0 : Int) (B : Nat) (hs : s.size ≤ 140737488351232) (h : s.size < 5 ∨ 3000 < s.size ∨ B = 0) (w : World) :
    Calls Try.prog 5 #[.string s, .int .i64 at0, .int .u32 B] w fun e w' => e = .returned (.bool true) ∧ Below w.heap.size w w' := by
  have HB := Below.refl w.heap.size w
  go_enter Try.func5, Try.ntmps5
  go_wp2_with (go_at_call 21; refine (works02_any _).mono ?_; rintro e w' ⟨rfl, hb⟩; replace HB := below_tr HB hb; clear hb)
  all_goals first
    | (go_ret; exact ⟨rfl, HB⟩)
    | (exfalso; simp at *; omega)

set_option maxRecDepth 100000 in
set_option maxHeartbeats 1000000 in
theorem sumBursts_main (s : ByteArray) (at0 : Int) (B : Nat) (h5 : 5 ≤ s.size) (h3 : s.size ≤ 3000) (hB : B ≠ 0) (hB2 : B < 4294967296) (w : World) :
    Calls Try.prog 5 #[.string s, .int .i64 at0, .int .u32 B] w fun e w' => e = .returned (.bool true) ∧ Below w.heap.size w w' := by
  have HB := Below.refl w.heap.size w
  have h5' : (5 : Int) ≤ s.size := by omega
  have h3' : (s.size : Int) ≤ 3000 := by omega
  have hB' : ((B : Int) == 0) = false := by rw [beq_eq_false_iff_ne]; omega
  have hconv : ∀ w, _ := fun w => Lib.run_convert_string_bytes (P := Try.prog) (u := .string) w 9 29 5 s (by kernel_rfl) (by kernel_rfl) (by kernel_rfl)
  obtain ⟨K, hK, hK2⟩ := umod_k at0 (8 * ((s.size : Int) - 4)) (by omega) (by omega)
  go_enter Try.func5, Try.ntmps5
  go_upto_region 5 with (go_at_call 21; refine (works02_any _).mono ?_; rintro e w' ⟨rfl, hb⟩; replace HB := below_tr HB hb; clear hb)
  go_cut [7] from 24 to 25 (fun b wc => ∃ g cap, b = .slice (some ⟨g, 0, none⟩) s.size cap ∧ w.heap.size ≤ g ∧ RowB wc g s.data.toList ∧ Below w.heap.size w wc)
  case first =>
    go_wp2
    go_meet
    case rel => exact ⟨_, _, rfl, HB.size, bytesWorld_row _ 5 s, below_tr HB (bytesWorld_below _ 5 s)⟩
  case rest =>
    obtain ⟨g, cap, rfl, HG, HR, HB1⟩ := hcut
    clear hconv
    go_upto_region 6 with (fail)
    go_cut [8] from 26 to 34 (fun k wx => k = .int .i64 K ∧ wx = wc)
    case first =>
      go_wp2
      go_meet
      case rel => exact ⟨by rw [hK], rfl⟩
    case rest =>
      obtain ⟨rfl, rfl⟩ := hcut
      clear hK
      go_wp2
      go_loopw [9] (fun i wr => ∃ (n : Nat) (l : List UInt8), n ≤ 32 ∧ i = .int .i64 n ∧ RowB wr g l ∧ l.length = s.size ∧ Crc.num l = Crc.num s.data.toList ^^^ (B % 2 ^ n) * 2 ^ K ∧ Below w.heap.size w wr) (fun i _ => 32 - (intOf i).toNat)
      case atStart => exact ⟨0, s.data.toList, by omega, rfl, HR, by simp, by simp [Nat.mod_one], HB1⟩
      case round =>
        obtain ⟨n, l, hn, rfl, hr, hl, hnum, HB2⟩ := hrel
        clear HB1 HR
        by_cases hlt : n < 32
        · have hd1 := Lib.hid (bits_next B n K)
          have hp : (K + n) / 8 < l.length := by omega
          obtain ⟨p, hpe⟩ : ∃ p, p = (K + n) / 8 := ⟨_, rfl⟩
          obtain ⟨q, hqe⟩ : ∃ q, q = (K + n) % 8 := ⟨_, rfl⟩
          have hpi : ((K : Int) + n) / 8 = (p : Int) := by omega
          have hqi : ((K : Int) + n) % 8 = (q : Int) := by omega
          have hq8 : q < 8 := by omega
          rw [← hpe] at hp
          have hps : p < s.size := by omega
          obtain ⟨hcell, hfz⟩ := hr p l[p] (by rw [List.getElem?_eq_getElem hp])
          obtain ⟨y, hy, hy2⟩ := flip_byte l[p] q hq8
          have hbit := bit_of B n hB2
          have Hy2 := Lib.hid hy2
          clear hy2
          have Hpe := Lib.hid hpe
          have Hqe := Lib.hid hqe
          have Hnum := Lib.hid hnum
          have Hl := Lib.hid hl
          clear hpe hqe hnum hl
          go_wp2
          · go_region
            have hone := ‹(((B / 2 ^ n % 2 : Nat) : Int) == 1) = true›
            have hs1 := hr.set p hp y
            go_wp2
            go_roundw
            case rel =>
              refine ⟨n + 1, l.set p y, by omega, by go_num, hs1, by simp [Hl.out], ?_, (below_setCell HB2 HG _).drew⟩
              have h1 : B / 2 ^ n % 2 = 1 := Int.ofNat.inj (beq_iff_eq.mp hone)
              have h2 := num_flip l (K + n) (by rw [← Hpe.out]; exact hp) y (by rw [← Hpe.out, ← Hqe.out, List.getD_eq_getElem?_getD, List.getElem?_eq_getElem hp]; exact Hy2.out)
              rw [← Hpe.out] at h2
              rw [h2, hd1.out, if_pos h1, Hnum.out, Nat.xor_assoc]
            case measure => simp [intOf]; omega
          · have hone := ‹(((B / 2 ^ n % 2 : Nat) : Int) == 1) = false›
            go_roundw
            case rel =>
              refine ⟨n + 1, l, by omega, by go_num, hr, Hl.out, ?_, HB2⟩
              have h1 : ¬ B / 2 ^ n % 2 = 1 := fun h => beq_eq_false_iff_ne.mp hone (by rw [h]; rfl)
              rw [hd1.out, if_neg h1, Hnum.out]
            case measure => simp [intOf]; omega
        · have hcv := run_bytes_string (P := Try.prog) wr 29 9 5 ⟨g, 0, none⟩ s.size cap l (by kernel_rfl) (by kernel_rfl) (by kernel_rfl) hl hr.bytesAt
          obtain rfl : n = 32 := by omega
          have hne := burst_more s.data.toList l (by simpa using hl) B K hB hB2 (by simp; omega) hnum
          have hne' : (((moreN 0 l : Nat) : Int) != ((moreN 0 s.data.toList : Nat) : Int)) = true := by
            rw [bne_iff_ne]; omega
          have Hs : (mkS l).size ≤ 9223372036854775807 := by rw [mkS_size]; omega
          have Hs2 : s.size ≤ 9223372036854775807 := by omega
          have Hnum := Lib.hid hnum
          clear hnum hne
          go_wp2_with (first
            | (go_at_call 15; (with_reducible refine (of_any (mkS l) Hs _).mono ?_); rintro e w' ⟨rfl, hb⟩; replace HB2 := below_tr HB2 hb; clear hb)
            | (go_at_call 15; (with_reducible refine (of_any s Hs2 _).mono ?_); rintro e w' ⟨rfl, hb⟩; replace HB2 := below_tr HB2 hb; clear hb))
          go_ret
          exact ⟨ret_bool (by rw [mkS_data]; exact hne'), HB2⟩

theorem sumBursts_walk (s : ByteArray) (at0 : Int) (b : Int) (hs : s.size ≤ 140737488351232) (_ha : (Lit.int .i64 at0).wf = true) (hb : (Lit.int .u32 b).wf = true) (w : World) :
    Calls Try.prog 5 #[.string s, .int .i64 at0, .int .u32 b] w fun e w' => e = .returned (.bool true) ∧ Below w.heap.size w w' := by
  obtain ⟨h0, h1⟩ := wf_u32 hb
  obtain ⟨B, rfl⟩ := Int.eq_ofNat_of_zero_le h0
  by_cases h : s.size < 5 ∨ 3000 < s.size ∨ B = 0
  · exact sumBursts_none s at0 B hs h w
  · exact sumBursts_main s at0 B (by omega) (by omega) (by omega) (by omega) w
end Go.Proofs.Ytoihalkbampdnaa
