/- The law BitsFill. -/
import Derived.Test.YtknpcbildcbbnaaBitWorks
namespace Go.Proofs.Ytknpcbildcbbnaa
open Go.RowKit Bit

/-- The writer alone, above a line. -/
structure One (w : World) (B p : Nat) (v : Value) (L : List Bool) : Prop where
  w1 : WInv w p v (pack L) L.length
  bp : B ≤ p
  bv : ∀ g, v.ownBlock = some g → B ≤ g

theorem One.notp {w : World} {B p : Nat} {v : Value} {L : List Bool} (h : One w B p v L) (k : Nat) (hk : k < B) : ¬ fpW p v k := by
  rintro (rfl | hf)
  · have := h.bp; omega
  · have := h.bv k hf; omega
theorem One.step {w w1 : World} {B p : Nat} {v v1 : Value} {L L1 : List Bool} (h : One w B p v L) (hB : B ≤ w.heap.size) (h1 : WInv w1 p v1 (pack L1) L1.length) (hv : ∀ g, v1.ownBlock = some g → v.ownBlock = some g ∨ w.heap.size ≤ g) : One w1 B p v1 L1 :=
  ⟨h1, h.bp, fun g hg => by
    rcases hv g hg with h2 | h2
    · exact h.bv g h2
    · omega⟩
theorem One.keep {w w' : World} {B p : Nat} {v : Value} {L : List Bool} (h : One w B p v L) (hc : Chg (fun _ => False) w w') : One w' B p v L :=
  ⟨h.w1.keep hc (fun _ _ x => x), h.bp, h.bv⟩

set_option maxRecDepth 100000 in
set_option maxHeartbeats 2000000 in
theorem bitsFill_walk (s : ByteArray) (v n : Int) (_hs : s.size ≤ 140737488351232) (hv : (Lit.int .u64 v).wf = true) (hn : (Lit.int .i64 n).wf = true) (w : World) :
    Calls Try.prog 6 #[.string s, .int .u64 v, .int .i64 n] w fun e w' => e = .returned (.bool true) ∧ Below w.heap.size w w' := by
  have hV := wf_u64 hv
  have hN := wf_i64 hn
  obtain ⟨V, rfl⟩ := Int.eq_ofNat_of_zero_le hV.1
  go_enter Try.func6, Try.ntmps6
  go_upto_region 3 with (go_at_call 23; refine (works_any _).mono ?_; rintro e w0 ⟨rfl, hb0⟩)
  by_cases hbig : 1000 < (s.size : Int)
  · go_wp2
    go_ret
    exact ⟨rfl, hb0⟩
  have hsz : s.size ≤ 1000 := by omega
  go_upto_region 6 with (go_at_call 12; refine (newwriter_any _).mono ?_; rintro e w1 ⟨rfl, hw1, hb1⟩)
  have hb01 := below_tr hb0 hb1
  obtain ⟨l, hl⟩ : ∃ l, Hid (l = s.data.toList) := ⟨_, Lib.hid rfl⟩
  have hll : l.length = s.size := by rw [hl.out, size_toList]
  have Hll := Lib.hid hll
  clear hll
  obtain ⟨p, hp⟩ : ∃ p, Hid (p = w0.heap.size) := ⟨_, Lib.hid rfl⟩
  rw [← hp.out] at hw1 ⊢
  have hpw : w.heap.size ≤ p := by rw [hp.out]; exact hb0.size
  go_wp2
  go_loopw [8] (fun i wr => ∃ (j : Nat) (v : Value), j ≤ s.size ∧ i = .int .i64 j ∧ One wr w.heap.size p v (bitsT (l.take j)) ∧ Below w.heap.size w wr) (fun i _ => s.size - (intOf i).toNat)
  case atStart =>
    refine ⟨0, .slice none 0 0, by omega, rfl, ⟨?_, hpw, fun g hg => by simp [Value.ownBlock] at hg⟩, hb01⟩
    rw [List.take_zero]; exact hw1
  case round =>
    obtain ⟨j, v1, hj, rfl, hO, hbel⟩ := hrel
    have hbl : (bitsT (l.take j)).length = 8 * j := by rw [bitsT_length, List.length_take, Hll.out]; omega
    by_cases hlt : j < s.size
    · have hjl : (j : Int) < (s.size : Int) := by omega
      have hjg : l[j]? = some s[j] := by
        have hq2 : j < s.data.toList.length := by rw [← size_toList]; exact hlt
        rw [hl.out, List.getElem?_eq_getElem hq2]; rfl
      have htk : bitsT (l.take (j + 1)) = bitsT (l.take j) ++ bitsOf s[j].toNat 8 := by rw [List.take_add_one, hjg]; exact bitsT_snoc _ _
      have Htk := Lib.hid htk
      have Hbl := Lib.hid hbl
      clear htk hbl hjg
      have hx := s[j].toNat_lt
      have hwx : IntKind.u64.wrap (s[j].toNat : Int) = (s[j].toNat : Int) := by rw [IntKind.wrap_u64]; omega
      go_wp2_with (go_at_call 13; refine (put_any _ _ _ _ s[j].toNat 8 (by omega) hO.w1 (by rw [Hbl.out]; omega) (by omega) (by omega)).mono ?_; rintro e w2 ⟨rfl, v2, hw2, hv2, hc2⟩)
      go_roundw
      case rel =>
        have hw2' : WInv w2 p v2 (pack (bitsT (l.take (j + 1)))) (bitsT (l.take (j + 1))).length := by rw [Htk.out, List.length_append, bitsOf_length]; exact hw2
        exact ⟨j + 1, v2, by omega, by go_num, hO.step hbel.size hw2' hv2, hbel.trans (hc2.below hbel.size hO.notp)⟩
      case measure => simp [intOf]; omega
    · obtain rfl : j = s.size := by omega
      have ht : l.take s.size = l := by rw [List.take_of_length_le]; rw [Hll.out]; exact Nat.le_refl _
      rw [ht] at hO
      have hpb := pack_bitsT l
      have hlen : (bitsT l).length = 8 * s.size := by rw [bitsT_length, Hll.out]
      have hW := hO.w1
      rw [hpb, hlen] at hW
      have hms : mkS l = s := by rw [hl.out]; rfl
      have Hlen := Lib.hid hlen
      clear hlen hpb hbl
      go_upto_region 12 with (first
        | (go_at_call 16; refine (text_any _ _ _ _ _ hW).mono ?_; rintro e w' ⟨rfl, rfl⟩)
        | (go_at_call 15; refine (len_any _ _ _ _ _ hW).mono ?_; rintro e w' ⟨rfl, rfl⟩))
      obtain ⟨K, hK, hK8⟩ := umod_k n 8 (by omega) (by omega)
      obtain ⟨m, hm⟩ : ∃ m : Nat, Hid (m = K + 1) := ⟨_, Lib.hid rfl⟩
      have hm1 : 1 + (K : Int) = (m : Int) := by rw [hm.out]; omega
      have hm8 : m ≤ 8 ∧ 1 ≤ m := by rw [hm.out]; omega
      have P1 := put_any wr p v1 (bitsT l) V m (by omega) hO.w1 (by rw [Hlen.out]; omega) (by omega) (by omega)
      have emm : (max (min (m : Int) 64) 0).toNat = m := by omega
      rw [emm] at P1
      go_upto_region 13 with (fail)
      go_wp2_with (first
        | (go_at_call 13; refine P1.mono ?_; rintro e w2 ⟨rfl, v2, hw2, hv2, hc2⟩)
        | (go_at_call 16; refine (text_any _ _ _ _ _ hw2).mono ?_; rintro e w' ⟨rfl, rfl⟩))
      obtain ⟨T, hT⟩ : ∃ T, Hid (T = mkS (pack (bitsT l ++ bitsOf V m))) := ⟨_, Lib.hid rfl⟩
      obtain ⟨x, hx⟩ : ∃ x, Hid (x = UInt8.ofNat (bw 128 (bitsOf V m))) := ⟨_, Lib.hid rfl⟩
      have hTl : T.data.toList = l ++ [x] := by rw [hT.out, txt_list, pack_tail _ _ (by rw [bitsOf_length]; omega) (by rw [bitsOf_length]; omega), hx.out]
      rw [← hT.out]
      have hTs : T.size = s.size + 1 := by rw [size_toList, hTl, List.length_append, Hll.out]; rfl
      have hTe : T.extract 0 s.size = s := by
        apply ByteArray.ext
        apply Array.toList_inj.1
        rw [extract_toList, hTl, List.drop_zero, ← Hll.out, List.take_append_of_le_length (Nat.le_refl _), List.take_of_length_le (Nat.le_refl _), hl.out]
      have hTsI : (T.size : Int) = (s.size : Int) + 1 := by omega
      have hwr1 : IntKind.i64.wrap ((s.size : Int) + 1) = (s.size : Int) + 1 := by rw [IntKind.wrap_i64]; omega
      have hw8 : IntKind.i64.wrap (8 - (m : Int)) = 8 - (m : Int) := by rw [IntKind.wrap_i64]; omega
      have hn8 : (8 - (m : Int)).toNat = 8 - m := by omega
      have h80 : (0 : Int) ≤ 8 - (m : Int) := by omega
      have hs0 : (0 : Int) ≤ (s.size : Int) := by omega
      have hs1 : (s.size : Int) ≤ (s.size : Int) + 1 := by omega
      have hs2 : (s.size : Int) < (s.size : Int) + 1 := by omega
      have HTs := Lib.hid hTs
      clear hTs
      go_quiet (fail)
      go_wp2
      go_ret
      refine ⟨?_, below_drewN (hbel.trans (hc2.below hbel.size hO.notp)) _⟩
      have hxv : ((T[s.size]'(by rw [HTs.out]; omega)).toNat : Int) = (V : Int) % 256 * 2 ^ (8 - m) % 256 := by
        have hlt9 : s.size < T.data.toList.length := by rw [← size_toList, HTs.out]; omega
        have e1 : T[s.size]'(by rw [HTs.out]; omega) = x := by
          have h0 : T.data.toList[s.size]? = some x := by rw [hTl, ← Hll.out]; simp
          rw [List.getElem?_eq_getElem hlt9] at h0
          exact Option.some.inj h0
        have e2 := bw_bitsOf m V 8 hm8.1
        have e256 : 2 ^ 8 / 2 = 128 := by decide
        rw [e256] at e2
        have e3 : (2 : Nat) ^ m * 2 ^ (8 - m) = 256 := by rw [← Nat.pow_add, show m + (8 - m) = 8 from by omega]
        have e4 : V % 2 ^ m * 2 ^ (8 - m) = V * 2 ^ (8 - m) % 256 := by rw [← e3, Nat.mul_mod_mul_right]
        have e5 : V % 256 * 2 ^ (8 - m) % 256 = V * 2 ^ (8 - m) % 256 := by rw [Nat.mul_mod, Nat.mod_mod, ← Nat.mul_mod]
        rw [e1, hx.out, UInt8.toNat_ofNat', e2, e4]
        have e6 : V * 2 ^ (8 - m) % 256 % 2 ^ 8 = V % 256 * 2 ^ (8 - m) % 256 := by rw [e5]; exact Nat.mod_mod _ _
        rw [e6]
        have hc : ((2 : Int) ^ (8 - m)) = ((2 ^ (8 - m) : Nat) : Int) := by simp
        rw [hc]
        generalize 2 ^ (8 - m) = c
        norm_cast
      rw [hxv]
      simp
end Go.Proofs.Ytknpcbildcbbnaa
