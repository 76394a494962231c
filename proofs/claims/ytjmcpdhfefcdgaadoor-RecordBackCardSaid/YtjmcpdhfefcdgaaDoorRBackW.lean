/- The law of records that are written and read. -/
import Derived.Test.YtjmcpdhfefcdgaaDoorRw
import Derived.Test.YtjmcpdhfefcdgaaDoorRg
import Derived.Test.YtjmcpdhfefcdgaaDoorRh
import Derived.Test.YtjmcpdhfefcdgaaDoorRi
import Derived.Deep.CutBlock
namespace Go.Proofs.YtjmcpdhfefcdgaaDoor
open Go.RowKit Lb Dig Inn

theorem encC_len (k : Int) (sm : List Smp) (ms : List Mt) (fr tt : Int) (hs : ∀ s ∈ sm, (-9223372036854775808 ≤ s.2.1 ∧ s.2.1 < 9223372036854775808) ∧ s.2.2 < 18446744073709551616) (hf : -9223372036854775808 ≤ fr ∧ fr < 9223372036854775808) (ht : -9223372036854775808 ≤ tt ∧ tt < 9223372036854775808) : (encC k sm ms fr tt).1.length ≤ 40000 := by
  by_cases h : chkR k sm ms fr tt = 0
  · rw [encC_one k sm ms fr tt h]
    simp only [List.length_append]
    have h1 := smsB_len sm hs
    have h2 := encM_len ms
    have h3 := numB_le (zig fr) (zig_lt _ hf.1 hf.2)
    have h4 := numB_le (zig tt) (zig_lt _ ht.1 ht.2)
    rcases chkR_one h with ⟨rfl, rfl, rfl, rfl, g1, g2, g3⟩ | ⟨rfl, rfl, g1, g2⟩
    · have h5 := numB_le (Int.toNat 1) (by decide)
      have h6 := numB_le sm.length (by omega)
      rw [if_neg (by decide), List.length_append]
      omega
    · have h5 := numB_le (Int.toNat 2) (by decide)
      rw [if_pos rfl, List.length_append, List.length_append]
      omega
  · have h1 : (encC k sm ms fr tt).1 = [] := by unfold encC; rw [if_pos h]
    rw [h1]; simp

set_option maxRecDepth 100000 in
set_option maxHeartbeats 8000000 in
theorem recordBack_walk (k : Int) (sm : List Smp) (ms : List Mt) (fr tt : Int) (a : Option Addr) (n c : Nat) (b : Option Addr) (n' c' : Nat) (s : ByteArray) (hs : n * 40 ≤ 140737488351232) (hs' : n' * 40 ≤ 140737488351232) (_hm : s.size ≤ 140737488351232) (w : World) (hr : RecIn w k sm ms fr tt a n c b n' c') (hcb : (b = none → c' = 0) ∧ n' ≤ c') :
    Calls Tryd.prog 5 #[.agg #[.int .i64 k, .slice a n c, .slice b n' c', .int .i64 fr, .int .i64 tt], .string s] w fun e w' => e = .returned (.bool true) ∧ Below w.heap.size w w' := by
  have W1 := fun W => rworks_any W
  have R1 := RowV.new w [.int .i64 k, .slice a n c, .slice b n' c', .int .i64 fr, .int .i64 tt] 25
  have B1 : Below w.heap.size w (w.alloc (.cells #[.int .i64 k, .slice a n c, .slice b n' c', .int .i64 fr, .int .i64 tt] 25)) := (Below.refl _ _).alloc (Nat.le_refl _) _
  by_cases h5 : s.size ≤ 20000
  · have h5i : ¬ (20000 : Int) < (s.size : Int) := by omega
    have hd5 : decide ((20000 : Int) < (s.size : Int)) = false := decide_eq_false h5i
    have GR := fun W h => great_any k sm ms fr tt a n c b n' c' W h
    have OW := fun W h => rown_any k sm ms fr tt a n c b n' c' W h hs hs' hcb
    have EN := fun (x : Option Addr) m d (y : Option Addr) m2 d2 W h => rencode_any k sm ms fr tt x m d y m2 d2 W h
    obtain ⟨T, E, hF⟩ : ∃ T E, Hid (encC k sm ms fr tt = (T, E)) := ⟨_, _, Lib.hid rfl⟩
    have hmem := RowSm.mem hr.sam
    have hTl : T.length ≤ 40000 := by have := encC_len k sm ms fr tt hmem hr.rf hr.rt; rw [hF.out] at this; exact this
    have hEc : Hid (chkR k sm ms fr tt = E) := Lib.hid (by have := encC_err k sm ms fr tt; rw [hF.out] at this; exact this.symm)
    have hDE : Hid (E = 0 → ∀ r, decR (T ++ r) = if r = [] then (⟨k, sm, ms, fr, tt⟩, 0) else (zR, 6)) := Lib.hid (fun h r => by
      have h1 := decR_encC k sm ms fr tt (by rw [hEc.out, h]) hmem hr.rf hr.rt r
      rw [hF.out] at h1; exact h1)
    rw [hF.out] at EN
    simp only at EN
    have D1 := fun W => rdec_any (mkS T) (by rw [mkS_size]; omega) W
    have D2 := fun W => rdec_any (mkS T ++ { data := #[120] }) (by rw [ByteArray.size_append, mkS_size, show ({ data := #[120] } : ByteArray).size = 1 from rfl]; omega) W
    rw [show (mkS T ++ { data := #[120] }).data.toList = T ++ [120] from by rw [ByteArray.data_append]; simp [mkS]] at D2
    rw [mkS_data] at D1
    have hsT : (mkS T).size + 1 ≤ 9223372036854775807 := by rw [mkS_size]; omega
    have DS := fun W => rdec_any s (by omega) W
    obtain ⟨D, hD⟩ : ∃ D, Hid (decR s.data.toList = D) := ⟨_, Lib.hid rfl⟩
    rw [hD.out] at DS
    have hn := hr.len
    have hn' := hr.len'
    clear hmem
    go_enter Tryd.func5, Tryd.ntmps5
    go_upto_region 1 with (fail)
    generalize w.alloc (.cells #[.int .i64 k, .slice a n c, .slice b n' c', .int .i64 fr, .int .i64 tt] 25) = w1 at R1 B1 ⊢
    generalize w.heap.size = p at R1 ⊢
    have hr1 := hr.below B1
    clear hr
    go_upto_region 3 with (go_at_call 19; refine (W1 _).mono ?_; rintro y w2 ⟨rfl, hb2⟩; clear W1)
    have R2 := R1.below hb2
    have hr2 := hr1.below hb2
    have B2 := below_tr B1 hb2
    clear R1 hr1 B1 hb2
    have k0 := (R2 0 _ rfl).1
    have k1 := (R2 1 _ rfl).1
    have k2 := (R2 2 _ rfl).1
    have k3 := (R2 3 _ rfl).1
    have k4 := (R2 4 _ rfl).1
    go_upto_if 23 with (go_at_call 8; refine (GR _ hr2).mono ?_; rintro y w3 ⟨⟨g, rfl⟩, hb3⟩)
    have R3 := R2.below hb3
    have hr3 := hr2.below hb3
    have B3 := below_tr B2 hb3
    have k0 := (R3 0 _ rfl).1
    have k1 := (R3 1 _ rfl).1
    have k2 := (R3 2 _ rfl).1
    have k3 := (R3 3 _ rfl).1
    have k4 := (R3 4 _ rfl).1
    clear R2 hr2 B2 hb3 GR
    cases g
    · go_upto_if 31 with (first
        | (go_at_call 9; refine (OW _ hr3).mono ?_; rintro y w4 ⟨a1, n1, c1, b1, m1, d1, css, rfl, hO, _, _, _, hb4⟩; obtain rfl : n = n1 := (by have := hO.len; omega); obtain rfl : n' = m1 := (by have := hO.len'; omega); clear OW)
        | (go_at_call 10; refine (EN _ _ _ _ _ _ _ hO).mono ?_; rintro y w5 ⟨rfl, hb5⟩; clear EN))
      have hb45 := below_tr hb4 hb5
      have R5 := R3.below hb45
      have hr5 := hr3.below hb45
      have B5 := below_tr B3 hb45
      clear R3 hr3 B3 hb45 hO hb4 hb5 k0 k1 k2 k3 k4
      go_cut [7, 8, 9, 10] from 30 to 54 (fun _ _ _ _ wx => Below w.heap.size w wx)
      case first =>
        by_cases hE : E = 0
        · have hE9 := hDE.out hE
          have hE1 := hE9 []
          rw [List.append_nil, if_pos rfl] at hE1
          have hE2 := hE9 [120]
          rw [if_neg (by simp)] at hE2
          rw [hE1] at D1
          rw [hE2, show zR = ⟨0, [], [], 0, 0⟩ from rfl] at D2
          have hEb : (((E : Nat) : Int) == 0) = true := by rw [beq_iff_eq]; omega
          clear hE9 hE1 hE2 hE
          go_upto_region 8 with (go_at_call 17; refine (D1 _).mono ?_; rintro y w6 ⟨a2, n2, c2, b2, m2, d2, rfl, hr6, hb6⟩; clear D1)
          have O7 := RowV.new w6 [.int .i64 k, .slice a2 n2 c2, .slice b2 m2 d2, .int .i64 fr, .int .i64 tt] 25
          have B7 : Below w6.heap.size w6 (w6.alloc (.cells #[.int .i64 k, .slice a2 n2 c2, .slice b2 m2 d2, .int .i64 fr, .int .i64 tt] 25)) := (Below.refl _ _).alloc (Nat.le_refl _) _
          generalize w6.alloc (.cells #[.int .i64 k, .slice a2 n2 c2, .slice b2 m2 d2, .int .i64 fr, .int .i64 tt] 25) = w7 at O7 B7 ⊢
          generalize w6.heap.size = q at O7 ⊢
          have hq7 := hr6.below B7
          have hb57 := below_tr hb6 B7
          go_upto_region 9 with (go_at_call 17; refine (D2 _).mono ?_; rintro y w8 ⟨a3, n3, c3, b3, m3, d3, rfl, hr8, hb8⟩; clear D2)
          have B9 : Below w8.heap.size w8 (w8.alloc (.cells #[.int .i64 0, .slice a3 n3 c3, .slice b3 m3 d3, .int .i64 0, .int .i64 0] 25)) := (Below.refl _ _).alloc (Nat.le_refl _) _
          generalize w8.alloc (.cells #[.int .i64 0, .slice a3 n3 c3, .slice b3 m3 d3, .int .i64 0, .int .i64 0] 25) = w9 at B9 ⊢
          generalize w8.heap.size = q9
          have hb79 := below_tr hb8 B9
          have O9 := O7.below hb79
          have hq9 := hq7.below hb79
          have hb59 := below_tr hb57 hb79
          have R9 := R5.below hb59
          have hr9 := hr5.below hb59
          have B09 := below_tr B5 hb59
          clear R5 hr5 B5 hb59 hb79 hb57 hq7 O7 hr6 hr8 B9 hb6 B7 hb8
          have k0 := (R9 0 _ rfl).1
          have k1 := (R9 1 _ rfl).1
          have k2 := (R9 2 _ rfl).1
          have k3 := (R9 3 _ rfl).1
          have k4 := (R9 4 _ rfl).1
          have o0 := (O9 0 _ rfl).1
          have o1 := (O9 1 _ rfl).1
          have o2 := (O9 2 _ rfl).1
          have o3 := (O9 3 _ rfl).1
          have o4 := (O9 4 _ rfl).1
          have SM := rsame_eq k sm ms fr tt a2 n2 c2 b2 m2 d2 a n c b n' c' w9 hq9 hr9
          go_wp2_with (go_at_call 16; refine SM.mono ?_; rintro y w10 ⟨rfl, hb10⟩)
          go_meet
          case rel => exact below_tr B09 hb10
        · have hEi : ¬ (E : Int) = 0 := by omega
          go_wp2
          go_meet
          case rel => exact B5
      case rest =>
        have hbl := hcut
        clear hcut R5 hr5 B5 hDE
        obtain ⟨⟨K, SM, MS, FR, TT⟩, F⟩ := D
        have hz := decR_zero s.data.toList
        rw [hD.out] at hz
        simp only at hz
        have Hz := Lib.hid hz
        clear hz
        go_upto_region 12 with (go_at_call 17; refine (DS _).mono ?_; rintro y w7 ⟨a2, n2, c2, b2, m2, d2, rfl, hr7, hb7⟩; clear DS)
        have O8 := RowV.new w7 [.int .i64 K, .slice a2 n2 c2, .slice b2 m2 d2, .int .i64 FR, .int .i64 TT] 25
        have B8 : Below w7.heap.size w7 (w7.alloc (.cells #[.int .i64 K, .slice a2 n2 c2, .slice b2 m2 d2, .int .i64 FR, .int .i64 TT] 25)) := (Below.refl _ _).alloc (Nat.le_refl _) _
        generalize w7.alloc (.cells #[.int .i64 K, .slice a2 n2 c2, .slice b2 m2 d2, .int .i64 FR, .int .i64 TT] 25) = w8 at O8 B8 ⊢
        generalize w7.heap.size = q at O8 ⊢
        have hr8 := hr7.below B8
        have hb8 := below_tr (below_tr hbl hb7) B8
        clear hr7 B8 hbl hb7
        by_cases hF0 : F = 0
        · subst hF0
          have EX := rencode_any K SM MS FR TT a2 n2 c2 b2 m2 d2 w8 hr8
          have h9 := encC_decR hD.out
          rw [h9, mkS_toList] at EX
          clear h9
          have o0 := (O8 0 _ rfl).1
          have o1 := (O8 1 _ rfl).1
          have o2 := (O8 2 _ rfl).1
          have o3 := (O8 3 _ rfl).1
          have o4 := (O8 4 _ rfl).1
          go_wp2_with (go_at_call 10; refine EX.mono ?_; rintro y w9 ⟨rfl, hb9⟩)
          go_ret
          exact ⟨rfl, below_tr hb8 hb9⟩
        · have hFi : ¬ (F : Int) = 0 := by omega
          have h9 := Hz.out hF0
          simp only [zR, Rcd.mk.injEq] at h9
          obtain ⟨rfl, rfl, rfl, rfl, rfl⟩ := h9
          clear Hz hF0
          have o0 := (O8 0 _ rfl).1
          have o1 := (O8 1 _ rfl).1
          have o2 := (O8 2 _ rfl).1
          have o3 := (O8 3 _ rfl).1
          have o4 := (O8 4 _ rfl).1
          go_wp2
          go_ret
          exact ⟨rfl, hb8⟩
    · go_wp2
      go_ret
      exact ⟨rfl, B3⟩
  · have h5i : (20000 : Int) < (s.size : Int) := by omega
    have hd5 : decide ((20000 : Int) < (s.size : Int)) = true := decide_eq_true h5i
    go_enter Tryd.func5, Tryd.ntmps5
    go_wp2_with (go_at_call 19; refine (W1 _).mono ?_; rintro y w2 ⟨rfl, hb2⟩)
    go_ret
    exact ⟨rfl, below_tr B1 hb2⟩
end Go.Proofs.YtjmcpdhfefcdgaaDoor
