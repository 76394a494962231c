/- The laws of frames. -/
import Derived.Test.YtmaebileagfdaaaFrameP
import Derived.Test.YtmaebileagfdaaaBurst
import Derived.BigRegion
namespace Go.Proofs.Ytmaebileagfdaaa
open Go.RowKit Dig Crc Frm

set_option maxRecDepth 100000 in
set_option maxHeartbeats 2000000 in
theorem frameWrites_walk (kind : Int) (d : ByteArray) (hk : (Lit.int .i64 kind).wf = true) (hd : d.size ≤ 140737488351232) (w : World) :
    Calls Try.prog 4 #[.int .i64 kind, .string d] w fun e w' => e = .returned (.bool true) ∧ Below w.heap.size w w' := by
  have hK := wf_i64 hk
  obtain ⟨P, hP⟩ : ∃ P, Hid (P = put kind d.data.toList) := ⟨_, Lib.hid rfl⟩
  have F1 := fun W => fput_any kind d hK (by omega) W
  have F2 := fun W => rfput_any kind d hK (by omega) W
  rw [← hP.out] at F1 F2
  go_enter Try.func4, Try.ntmps4
  go_wp2_with (first
    | (go_at_call 19; refine (F1 _).mono ?_; rintro e w1 ⟨rfl, hb1⟩)
    | (go_at_call 20; refine (F2 _).mono ?_; rintro e w2 ⟨rfl, hb2⟩))
  go_ret
  exact ⟨rfl, below_tr hb1 hb2⟩

theorem fvals_of {l t : List UInt8} {b k e : Nat} (h : Frm.get l = (b, t, k, e)) : fvals (Frm.get l) = .tuple #[.agg #[.int .i64 (b : Nat), .string (mkS t)], .int .i64 (k : Nat), .int .i64 (e : Nat)] := by rw [h]; rfl

set_option maxRecDepth 100000 in
set_option maxHeartbeats 2000000 in
theorem fworks_any (w : World) : Calls Try.prog 31 #[] w fun e w' => e = .returned (.bool true) ∧ Below w.heap.size w w' := by
  have hp : put 1 [97] = ([1, 1, 1, 97, 176, 108, 251, 23], 0) := by decide +kernel
  have hg : Frm.get [1, 1, 1, 97, 176, 108, 251, 23, 120] = (1, [97], 8, 0) := by decide +kernel
  have F1 := fun W => fput_any 1 { data := #[97] } (by omega) (by show (1 : Nat) ≤ _; omega) W
  have F2 := fun W => fget_any { data := #[1, 1, 1, 97, 176, 108, 251, 23, 120] } (by show (9 : Nat) ≤ _; omega) W
  rw [show ({ data := #[97] } : ByteArray).data.toList = [97] from rfl, hp] at F1
  rw [show ({ data := #[1, 1, 1, 97, 176, 108, 251, 23, 120] } : ByteArray).data.toList = [1, 1, 1, 97, 176, 108, 251, 23, 120] from rfl, fvals_of hg] at F2
  have e1 : mkS [1, 1, 1, 97, 176, 108, 251, 23] = { data := #[1, 1, 1, 97, 176, 108, 251, 23] } := rfl
  have e2 : mkS [97] = { data := #[97] } := rfl
  simp only [e1] at F1
  simp only [e2] at F2
  go_enter Try.func31, Try.ntmps31
  go_upto_region 2 with (go_at_call 19; refine (F1 _).mono ?_; rintro e w1 ⟨rfl, hb1⟩)
  have hcat : ({ data := #[1, 1, 1, 97, 176, 108, 251, 23] } : ByteArray) ++ { data := #[120] } = { data := #[1, 1, 1, 97, 176, 108, 251, 23, 120] } := by decide +kernel
  have hsl : ({ data := #[1, 1, 1, 97, 176, 108, 251, 23] } : ByteArray).extract 0 4 = { data := #[1, 1, 1, 97] } := by decide +kernel
  have hz : ({ data := #[1, 1, 1, 97, 176, 108, 251, 23] } : ByteArray).size = 8 := rfl
  have hz1 : ({ data := #[120] } : ByteArray).size = 1 := rfl
  clear F1 hp hg e1 e2
  go_upto_region 3 with (go_at_call 26; refine (F2 _).mono ?_; rintro e w2 ⟨rfl, hb2⟩)
  clear F2
  go_wp2
  go_ret
  exact ⟨rfl, (below_tr hb1 hb2).alloc (Nat.le_trans hb1.size hb2.size) _⟩

theorem xor_byte (x y : UInt8) (hy : ¬ y = 0) : ∃ z : UInt8, bits .xor .u8 ((x.toNat : Nat) : Int) ((y.toNat : Nat) : Int) = ((z.toNat : Nat) : Int) ∧ z ≠ x := by
  have h := u8_xor_nat x.toNat y.toNat (UInt8.toNat_lt _) (UInt8.toNat_lt _)
  have hl : x.toNat ^^^ y.toNat < 256 := Nat.xor_lt_two_pow (n := 8) (UInt8.toNat_lt _) (UInt8.toNat_lt _)
  have hz : (UInt8.ofNat (x.toNat ^^^ y.toNat)).toNat = x.toNat ^^^ y.toNat := by rw [UInt8.toNat_ofNat']; omega
  refine ⟨UInt8.ofNat (x.toNat ^^^ y.toNat), by rw [h, hz], fun e => hy ?_⟩
  have e1 := congrArg UInt8.toNat e
  rw [hz] at e1
  have e2 : x.toNat ^^^ (x.toNat ^^^ y.toNat) = x.toNat ^^^ x.toNat := by rw [e1]
  rw [← Nat.xor_assoc, Nat.xor_self, Nat.zero_xor] at e2
  exact UInt8.toNat_inj.mp (by simpa using e2)

set_option maxRecDepth 100000 in
set_option maxHeartbeats 2000000 in
theorem frameTells_walk (kind : Int) (d : ByteArray) (at0 : Int) (by0 : Int) (hk : (Lit.int .i64 kind).wf = true) (hd : d.size ≤ 140737488351232) (_ha : (Lit.int .i64 at0).wf = true) (hb : (Lit.int .u8 by0).wf = true) (w : World) :
    Calls Try.prog 9 #[.int .i64 kind, .string d, .int .i64 at0, .int .u8 by0] w fun e w' => e = .returned (.bool true) ∧ Below w.heap.size w w' := by
  have hK := wf_i64 hk
  obtain ⟨hb0, hb1⟩ := wf_u8 hb
  obtain ⟨by1, hby⟩ := u8_of hb0 hb1
  subst hby
  clear hb0 hb1
  by_cases hbig : 2000 < (d.size : Int)
  · go_enter Try.func9, Try.ntmps9
    go_wp2_with (go_at_call 31; refine (fworks_any _).mono ?_; rintro e w0 ⟨rfl, hbl0⟩)
    go_ret
    exact ⟨rfl, hbl0⟩
  have Hdl := Lib.hid (size_toList d)
  have F1 := fun W => fput_any kind d hK (by omega) W
  rcases put_e kind d.data.toList with ⟨h1, h2, h3⟩ | hx
  · obtain ⟨L, hL⟩ : ∃ L, Hid (L = (put kind d.data.toList).1) := ⟨_, Lib.hid rfl⟩
    rw [h1, ← hL.out] at F1
    by_cases hby0 : by1 = 0
    · subst hby0
      go_enter Try.func9, Try.ntmps9
      go_wp2_with (first
        | (go_at_call 31; refine (fworks_any _).mono ?_; rintro e w0 ⟨rfl, hbl0⟩)
        | (go_at_call 19; refine (F1 _).mono ?_; rintro e w1 ⟨rfl, hbl1⟩))
      go_ret
      exact ⟨rfl, below_tr hbl0 hbl1⟩
    have hLl : L.length = (textB d.data.toList).length + 5 := by rw [hL.out]; exact put_len h2 h3
    have htb := textB_len d.data.toList (by rw [← Hdl.out]; omega)
    have htb1 : 1 ≤ (textB d.data.toList).length := by simp [textB, numB]
    have hL6 : 6 ≤ L.length := by omega
    have hL7 : L.length ≤ 3000 := by rw [hLl]; have := Hdl.out; omega
    have hsz : (mkS L).size = L.length := mkS_size L
    have hszi : ((mkS L).size : Int) = (L.length : Int) := by rw [hsz]
    have hL6i : (6 : Int) ≤ (L.length : Int) := by omega
    have hL7i : (L.length : Int) ≤ 3000 := by omega
    have hbne : (((by1.toNat : Nat) : Int) == 0) = false := by rw [beq_eq_false_iff_ne]; intro e; exact hby0 (UInt8.toNat_inj.mp (by simpa using e))
    obtain ⟨K, hK1, hK2⟩ := umod_k at0 (L.length : Int) (by omega) (by omega)
    have hKL : K < L.length := by omega
    have hconv : ∀ w, _ := fun w => Lib.run_convert_string_bytes (P := Try.prog) (u := .string) w 9 47 5 (mkS L) (by kernel_rfl) (by kernel_rfl) (by kernel_rfl)
    obtain ⟨z, hz, hzx⟩ := xor_byte (L[K]'hKL) by1 hby0
    have hch := get_changed h2 (by rw [← Hdl.out]; omega) K (by rw [← hL.out]; exact hKL) z (by rw [← hL.out, List.getElem?_eq_getElem hKL]; intro e; exact hzx (Option.some.inj e).symm)
    rw [← hL.out] at hch
    have HCh := Lib.hid hch
    have Hzx := Lib.hid hzx
    clear hch hzx hLl htb htb1 h1
    have HszN := Lib.hid hsz
    clear hsz
    go_enter Try.func9, Try.ntmps9
    go_upto_region 10 with (first
      | (go_at_call 31; refine (fworks_any _).mono ?_; rintro e w0 ⟨rfl, hbl0⟩)
      | (go_at_call 19; refine (F1 _).mono ?_; rintro e w1 ⟨rfl, hbl1⟩))
    have HB := below_tr hbl0 hbl1
    clear hbl0 hbl1
    go_cut [11] from 37 to 38 (fun b wc => ∃ g cap, b = .slice (some ⟨g, 0, none⟩) L.length cap ∧ w.heap.size ≤ g ∧ RowB wc g L ∧ Below w.heap.size w wc)
    case first =>
      go_wp2
      go_meet
      case rel =>
        have hr := bytesWorld_row w1 5 (mkS L)
        rw [mkS_data] at hr
        exact ⟨_, _, by rw [mkS_size], HB.size, hr, below_tr HB (bytesWorld_below _ 5 (mkS L))⟩
    case rest =>
      obtain ⟨g, cap, rfl, HG, HR, HB1⟩ := hcut
      clear hconv HB
      go_upto_region 11 with (fail)
      go_cut [12] from 39 to 45 (fun k wx => k = .int .i64 K ∧ wx = wc)
      case first =>
        go_wp2
        go_meet
        case rel => exact ⟨by rw [hK1], rfl⟩
      case rest =>
        obtain ⟨rfl, rfl⟩ := hcut
        clear hK1
        obtain ⟨hcell, hfz⟩ := HR K L[K] (by rw [List.getElem?_eq_getElem hKL])
        have hs1 := HR.set K hKL z
        have hB2 := below_setCell HB1 HG (p := K) (.int .u8 (z.toNat : Nat))
        go_upto_region 13 with (fail)
        generalize (wc.setCell ⟨g, K, none⟩ (.int .u8 (z.toNat : Nat))) = w2 at hs1 hB2 ⊢
        have hcv := run_bytes_string (P := Try.prog) w2 47 9 5 ⟨g, 0, none⟩ L.length cap (L.set K z) (by kernel_rfl) (by kernel_rfl) (by kernel_rfl) (by simp) hs1.bytesAt
        have G1 := fget_any (mkS (L.set K z)) (by rw [mkS_size, List.length_set]; omega) w2
        rw [mkS_data] at G1
        by_cases h0 : (Frm.get (L.set K z)).2.2.2 = 0
        · obtain ⟨b, r, t, k', hs, hb, hgt, hk, hsum, hget⟩ := get_ok h0
          obtain ⟨hc1, hc2, hc3⟩ := HCh.out h0
          rw [hget] at hc1
          simp only at hc1
          rw [fvals_of hget] at G1
          have hci : ((k' + 5 : Nat) : Int) < (L.length : Int) := by omega
          obtain ⟨M, hM⟩ : ∃ M, Hid (M = k' + 5) := ⟨_, Lib.hid rfl⟩
          rw [← hM.out] at G1 hci
          have hc2i : (1 : Int) ≤ (K : Int) := by omega
          have hc3i : (K : Int) ≤ 3 := by omega
          clear hs hgt hk hsum hget h0 hc1 hc2 hc3 hb HR hcell hfz hs1
          go_upto_region 14 with (go_at_call 26; refine G1.mono ?_; rintro e w3 ⟨rfl, hb3⟩)
          have hB3 := below_tr hB2 hb3
          go_wp2
          go_ret
          exact ⟨rfl, hB3.alloc hB3.size _⟩
        · have hget := get_err _ h0
          obtain ⟨E, hE⟩ : ∃ E, Hid (E = (Frm.get (L.set K z)).2.2.2) := ⟨_, Lib.hid rfl⟩
          rw [← hE.out] at hget h0
          rw [fvals_of hget] at G1
          have hEn : ((E : Int) == 0) = false := by rw [beq_eq_false_iff_ne]; omega
          have hem : mkS [] = { data := #[] } := rfl
          rw [hem] at G1
          clear hget HR hcell hfz hs1
          go_upto_region 14 with (go_at_call 26; refine G1.mono ?_; rintro e w3 ⟨rfl, hb3⟩)
          have hB3 := below_tr hB2 hb3
          go_wp2
          go_ret
          exact ⟨rfl, hB3.alloc hB3.size _⟩
  · have hne : ¬ (put kind d.data.toList).2 = 0 := by omega
    obtain ⟨P, hP⟩ : ∃ P, Hid (P = put kind d.data.toList) := ⟨_, Lib.hid rfl⟩
    rw [← hP.out] at F1 hne
    obtain ⟨E, hE⟩ : ∃ E, Hid (E = P.2) := ⟨_, Lib.hid rfl⟩
    rw [← hE.out] at F1 hne
    have hEn : ((E : Int) == 0) = false := by rw [beq_eq_false_iff_ne]; omega
    clear hx
    go_enter Try.func9, Try.ntmps9
    go_wp2_with (first
      | (go_at_call 31; refine (fworks_any _).mono ?_; rintro e w0 ⟨rfl, hbl0⟩)
      | (go_at_call 19; refine (F1 _).mono ?_; rintro e w1 ⟨rfl, hbl1⟩))
    go_ret
    exact ⟨rfl, below_tr hbl0 hbl1⟩
end Go.Proofs.Ytmaebileagfdaaa
