/- Matchers written by the program. -/
import Derived.Test.YtjmcpdhfefcdgaaDoorMp
import Derived.Test.YtjmcpdhfefcdgaaDoorInvB
namespace Go.Proofs.YtjmcpdhfefcdgaaDoor
open Go.RowKit Lb Dig

set_option maxRecDepth 100000 in
set_option maxHeartbeats 4000000 in
theorem mencode_any (l : List Mt) (a : Option Addr) (n c : Nat) (hn : l.length = n) (hb : n ≤ 4611686018427387904) (w : World) (hr : RowM w a l) :
    Calls Tryd.prog 22 #[.slice a n c] w fun e w' => e = .returned (.tuple #[.string (mkS (encM l).1), .int .i64 ((encM l).2 : Nat)]) ∧ Below w.heap.size w w' := by
  obtain ⟨E, hE⟩ : ∃ E, Hid (chkM l = E) := ⟨_, Lib.hid rfl⟩
  obtain ⟨F, hF⟩ : ∃ F, Hid (encM l = F) := ⟨_, Lib.hid rfl⟩
  have CK := fun W h => mcheck_any l a n c hn hb W h
  rw [hE.out] at CK
  rw [hF.out]
  go_enter Tryd.func22, Tryd.ntmps22
  by_cases hE0 : E = 0
  · have hEi : (E : Int) = 0 := by omega
    obtain ⟨k8, kok⟩ := chkM_ok (l := l) (by rw [hE.out]; exact hE0)
    go_upto_region 5 with (go_at_call 35; refine (CK _ hr).mono ?_; rintro y w2 ⟨rfl, hb2⟩)
    have hr2 := RowM.below hr hb2
    obtain ⟨b, hbb⟩ : ∃ b, Hid (b = w2.heap.size) := ⟨_, Lib.hid rfl⟩
    have hB3 := bld_new w2
    have hba : Below w2.heap.size w2 (w2.alloc (.cells #[.pointer none, .slice none 0 0] 51)) := (Below.refl _ _).alloc (Nat.le_refl _) _
    obtain ⟨W3, hW3⟩ : ∃ W3, Hid (W3 = w2.alloc (.cells #[.pointer none, .slice none 0 0] 51)) := ⟨_, Lib.hid rfl⟩
    rw [← hW3.out] at hB3 hba ⊢
    rw [← hbb.out] at hB3 ⊢
    have hs3 : b ≤ W3.heap.size := by rw [hbb.out]; exact hba.size
    have Hhr := Lib.hid hr2
    have hni : (n : Int) < 18446744073709551616 := by omega
    have hni2 : IntKind.u64.wrap (n : Int) = (n : Int) := wrap_u64_id _ (by omega) (by omega)
    have hnl : (numB n).length ≤ 9 := by have := dig_len8 n (by omega); unfold numB; simp; omega
    clear CK hr hr2
    go_upto_region 7 with (first
      | (go_at_call 21; refine (num_any n (by omega) _).mono ?_; rintro y w4 ⟨rfl, hb4⟩; have hB4 := hB3.below hb4; have hs4 : b ≤ w4.heap.size := Nat.le_trans hs3 hb4.size; have hbel4 : Below b W3 w4 := (Below.refl b W3).trans (hb4.mono hs3))
      | (go_at_call 20; refine (bwrite_b b b [] (numB n) _ hB4 (by simp; omega) hs4).mono ?_; rintro y w5 ⟨rfl, hB5, hb5⟩; have hbel5 := hbel4.trans hb5; rw [List.nil_append] at hB5))
    have hB6 : BldB b b (numB n ++ matsB (l.take 0)) w5 := by rw [List.take_zero]; simpa [matsB] using hB5
    clear hB3 hB4 hbel4 hB5 hb5 hs4
    go_loopw [20] (fun v20 wt => ∃ (j : Nat), j ≤ n ∧ v20 = .int .i64 j ∧ BldB b b (numB n ++ matsB (l.take j)) wt ∧ Below b W3 wt) (fun v20 _ => n - (intOf v20).toNat)
    case atStart => exact ⟨0, by omega, rfl, hB6, hbel5⟩
    case round =>
      clear hB6 hbel5
      obtain ⟨j, hj, rfl, hB, hbel⟩ := hrel
      have hbw : b ≤ wr.heap.size := Nat.le_trans hs3 hbel.size
      have hrw : RowM wr a l := RowM.below Hhr.out (hba.trans (by rw [← hbb.out]; exact hbel))
      by_cases hlt : j < n
      · have hji : (j : Int) < (n : Int) := by omega
        obtain ⟨⟨k, nm, v⟩, hp⟩ : ∃ p, l[j]? = some p := ⟨_, List.getElem?_eq_getElem (by omega)⟩
        have hpk := kok _ (List.mem_of_getElem? hp)
        have htl := mtB_len hpk
        obtain ⟨k1, k4, z1, z2⟩ := right_ok hpk
        simp only at k1 k4 z1 z2
        obtain ⟨kn, rfl⟩ : ∃ kn : Nat, k = kn := ⟨k.toNat, by omega⟩
        obtain ⟨x, rfl⟩ := RowG.some_ hrw hp
        obtain ⟨c0, c1, c2, _, _, _⟩ := RowM.at3 hrw hp
        have hkw : IntKind.u64.wrap (kn : Int) = (kn : Int) := wrap_u64_id _ (by omega) (by omega)
        have htk : Hid (numB n ++ matsB (l.take (j + 1)) = (numB n ++ matsB (l.take j)) ++ mtB (kn, nm, v)) := Lib.hid (by
          rw [List.take_add_one, hp, List.append_assoc]; congr 1; exact matsB_snoc _ _)
        have NUM := fun W => num_any kn (by omega) W
        have TXN := fun W => dtext_any nm (by omega) W
        have TXV := fun W => dtext_any v (by omega) W
        obtain ⟨NK, hNK⟩ : ∃ S, Hid (mkS (numB kn) = S) := ⟨_, Lib.hid rfl⟩
        obtain ⟨TN, hTN⟩ : ∃ S, Hid (mkS (textB nm.data.toList) = S) := ⟨_, Lib.hid rfl⟩
        obtain ⟨TV, hTV⟩ : ∃ S, Hid (mkS (textB v.data.toList) = S) := ⟨_, Lib.hid rfl⟩
        rw [hNK.out] at NUM
        rw [hTN.out] at TXN
        rw [hTV.out] at TXV
        have hcat : Hid (NK ++ TN ++ TV = mkS (mtB (kn, nm, v))) := Lib.hid (by
          rw [← hNK.out, ← hTN.out, ← hTV.out, mkS_append, mkS_append]; unfold mtB; rw [List.append_assoc]; rfl)
        have hlen2 : NK.size + TN.size + TV.size ≤ 9223372036854775807 := by
          have := congrArg ByteArray.size hcat.out
          rw [ByteArray.size_append, ByteArray.size_append, mkS_size] at this
          omega
        have hlen1 : NK.size + TN.size ≤ 9223372036854775807 := by omega
        have Hlen : Hid ((numB n ++ matsB (l.take j)).length + (mtB (kn, nm, v)).length ≤ 140737488355328) := Lib.hid (by
          have h1 := matsB_len (l.take j) (fun p hp => kok p (List.mem_of_mem_take hp))
          rw [List.length_take] at h1
          rw [List.length_append]
          omega)
        have hkn : kn < 18446744073709551616 := by omega
        have hq := MtBox.new wr kn nm v
        clear hpk htl hp k1 k4 z1 z2 kok hrw
        go_upto_region 9 with (fail)
        generalize wr.alloc (.cells #[.int .i64 kn, .string nm, .string v] 88) = Wb at hq ⊢
        generalize hqq : wr.heap.size = q at hq ⊢
        have hba2 := hq.bel
        have hBb := hB.below hba2
        have hbelb : Below b W3 Wb := hbel.trans (hba2.mono hbw)
        have hsb : b ≤ Wb.heap.size := Nat.le_trans hbw hba2.size
        have hxd : RowV Wb.drew q [.int .i64 kn, .string nm, .string v] := hq.row
        have hBd : BldB b b (numB n ++ matsB (l.take j)) Wb.drew := hBb
        have hbeld : Below b W3 Wb.drew := hbelb.trans ⟨rfl, rfl, rfl, Nat.le_refl _, fun _ _ => rfl⟩
        have hsd : b ≤ Wb.drew.heap.size := hsb
        clear hq hba2 hBb hbelb hsb c0 c1 c2 hB hbel
        refine wp_region_inv_list (by kernel_rfl) (by kernel_rfl) (InvB b q W3 (numB n ++ matsB (l.take j)) (mtB (kn, nm, v)) [.int .i64 kn, .string nm, .string v] [.pointer (some ⟨q, 0, none⟩), .int .i64 kn, .int .u64 kn, .string NK, .pointer (some ⟨q, 1, none⟩), .string nm, .string TN, .string (NK ++ TN), .pointer (some ⟨q, 2, none⟩), .string v, .string TV, .string (NK ++ TN ++ TV)]) ?h0 ?hop ?hend
        case h0 => exact ⟨hbeld, hsd, (fun _ => ⟨hxd, hBd⟩), (fun h => by cases h), (fun _ _ h => by cases h)⟩
        case hop =>
          refine ⟨fun D vals W hI hD hd hc => ?_, fun D vals W hI hD hd hc => ?_, fun D vals W hI hD hd hc => ?_, fun D vals W hI hD hd hc => ?_, fun D vals W hI hD hd hc => ?_, fun D vals W hI hD hd hc => ?_, fun D vals W hI hD hd hc => ?_, fun D vals W hI hD hd hc => ?_, fun D vals W hI hD hd hc => ?_, fun D vals W hI hD hd hc => ?_, fun D vals W hI hD hd hc => ?_, fun D vals W hI hD hd hc => ?_, fun D vals W hI hD hd hc => ?_, trivial⟩
          · have h7 : D 12 = false := invLast _ [1, 2, 3, 7, 5, 6, 7, 11, 9, 10, 11, 12] 12 (by kernel_rfl) D hc 0 (by decide) (by simpa using hD)
            have hst := fun W' v hg hv => hI.step (W' := W') h7 0 (by show (0 : Nat) < 12; decide) v hg hv
            have Hst := Lib.hid hst
            clear hd hc hI hst
            simp only [fillTo]
            go_simp
            go_wp2
            exact ⟨rfl, Hst.out _ _ (Below.refl _ _) rfl, trivial, trivial⟩
          · have h7 : D 12 = false := invLast _ [1, 2, 3, 7, 5, 6, 7, 11, 9, 10, 11, 12] 12 (by kernel_rfl) D hc 1 (by decide) (by simpa using hD)
            have hv0 : vals 0 = .pointer (some ⟨q, 0, none⟩) := hI.val 0 (by show (0 : Nat) < 12; decide) (hd 0 (by kernel_rfl))
            have hrow := (hI.row h7).1
            have hkc0 := (hrow 0 _ rfl).1
            have hst := fun W' v hg hv => hI.step (W' := W') h7 1 (by show (1 : Nat) < 12; decide) v hg hv
            have Hst := Lib.hid hst
            clear hd hc hI hst hrow
            simp only [fillTo]
            go_simp
            go_wp2
            exact ⟨rfl, Hst.out _ _ (Below.refl _ _) rfl, trivial, trivial⟩
          · have h7 : D 12 = false := invLast _ [1, 2, 3, 7, 5, 6, 7, 11, 9, 10, 11, 12] 12 (by kernel_rfl) D hc 2 (by decide) (by simpa using hD)
            have hv1 : vals 1 = .int .i64 kn := hI.val 1 (by show (1 : Nat) < 12; decide) (hd 1 (by kernel_rfl))
            have hst := fun W' v hg hv => hI.step (W' := W') h7 2 (by show (2 : Nat) < 12; decide) v hg hv
            have Hst := Lib.hid hst
            clear hd hc hI hst
            simp only [fillTo]
            go_simp
            go_wp2
            exact ⟨rfl, Hst.out _ _ (Below.refl _ _) rfl, trivial, trivial⟩
          · have h7 : D 12 = false := invLast _ [1, 2, 3, 7, 5, 6, 7, 11, 9, 10, 11, 12] 12 (by kernel_rfl) D hc 3 (by decide) (by simpa using hD)
            have hv2 : vals 2 = .int .u64 kn := hI.val 2 (by show (2 : Nat) < 12; decide) (hd 2 (by kernel_rfl))
            have hst := fun W' v hg hv => hI.step (W' := W') h7 3 (by show (3 : Nat) < 12; decide) v hg hv
            have Hst := Lib.hid hst
            clear hd hc hI hst
            simp only [fillTo]
            go_simp
            go_wp2_with (go_at_call 21; refine (NUM _).mono ?_; rintro e w' ⟨rfl, hb⟩)
            exact ⟨rfl, Hst.out _ _ hb rfl, trivial, trivial⟩
          · have h7 : D 12 = false := invLast _ [1, 2, 3, 7, 5, 6, 7, 11, 9, 10, 11, 12] 12 (by kernel_rfl) D hc 4 (by decide) (by simpa using hD)
            have hst := fun W' v hg hv => hI.step (W' := W') h7 4 (by show (4 : Nat) < 12; decide) v hg hv
            have Hst := Lib.hid hst
            clear hd hc hI hst
            simp only [fillTo]
            go_simp
            go_wp2
            exact ⟨rfl, Hst.out _ _ (Below.refl _ _) rfl, trivial, trivial⟩
          · have h7 : D 12 = false := invLast _ [1, 2, 3, 7, 5, 6, 7, 11, 9, 10, 11, 12] 12 (by kernel_rfl) D hc 5 (by decide) (by simpa using hD)
            have hv4 : vals 4 = .pointer (some ⟨q, 1, none⟩) := hI.val 4 (by show (4 : Nat) < 12; decide) (hd 4 (by kernel_rfl))
            have hrow := (hI.row h7).1
            have hkc0 := (hrow 1 _ rfl).1
            have hst := fun W' v hg hv => hI.step (W' := W') h7 5 (by show (5 : Nat) < 12; decide) v hg hv
            have Hst := Lib.hid hst
            clear hd hc hI hst hrow
            simp only [fillTo]
            go_simp
            go_wp2
            exact ⟨rfl, Hst.out _ _ (Below.refl _ _) rfl, trivial, trivial⟩
          · have h7 : D 12 = false := invLast _ [1, 2, 3, 7, 5, 6, 7, 11, 9, 10, 11, 12] 12 (by kernel_rfl) D hc 6 (by decide) (by simpa using hD)
            have hv5 : vals 5 = .string nm := hI.val 5 (by show (5 : Nat) < 12; decide) (hd 5 (by kernel_rfl))
            have hst := fun W' v hg hv => hI.step (W' := W') h7 6 (by show (6 : Nat) < 12; decide) v hg hv
            have Hst := Lib.hid hst
            clear hd hc hI hst
            simp only [fillTo]
            go_simp
            go_wp2_with (go_at_call 26; refine (TXN _).mono ?_; rintro e w' ⟨rfl, hb⟩)
            exact ⟨rfl, Hst.out _ _ hb rfl, trivial, trivial⟩
          · have h7 : D 12 = false := invLast _ [1, 2, 3, 7, 5, 6, 7, 11, 9, 10, 11, 12] 12 (by kernel_rfl) D hc 7 (by decide) (by simpa using hD)
            have hv3 : vals 3 = .string NK := hI.val 3 (by show (3 : Nat) < 12; decide) (hd 3 (by kernel_rfl))
            have hv6 : vals 6 = .string TN := hI.val 6 (by show (6 : Nat) < 12; decide) (hd 6 (by kernel_rfl))
            have hst := fun W' v hg hv => hI.step (W' := W') h7 7 (by show (7 : Nat) < 12; decide) v hg hv
            have Hst := Lib.hid hst
            clear hd hc hI hst
            simp only [fillTo]
            go_simp
            go_wp2
            exact ⟨rfl, Hst.out _ _ (Below.refl _ _) rfl, trivial, trivial⟩
          · have h7 : D 12 = false := invLast _ [1, 2, 3, 7, 5, 6, 7, 11, 9, 10, 11, 12] 12 (by kernel_rfl) D hc 8 (by decide) (by simpa using hD)
            have hst := fun W' v hg hv => hI.step (W' := W') h7 8 (by show (8 : Nat) < 12; decide) v hg hv
            have Hst := Lib.hid hst
            clear hd hc hI hst
            simp only [fillTo]
            go_simp
            go_wp2
            exact ⟨rfl, Hst.out _ _ (Below.refl _ _) rfl, trivial, trivial⟩
          · have h7 : D 12 = false := invLast _ [1, 2, 3, 7, 5, 6, 7, 11, 9, 10, 11, 12] 12 (by kernel_rfl) D hc 9 (by decide) (by simpa using hD)
            have hv8 : vals 8 = .pointer (some ⟨q, 2, none⟩) := hI.val 8 (by show (8 : Nat) < 12; decide) (hd 8 (by kernel_rfl))
            have hrow := (hI.row h7).1
            have hkc0 := (hrow 2 _ rfl).1
            have hst := fun W' v hg hv => hI.step (W' := W') h7 9 (by show (9 : Nat) < 12; decide) v hg hv
            have Hst := Lib.hid hst
            clear hd hc hI hst hrow
            simp only [fillTo]
            go_simp
            go_wp2
            exact ⟨rfl, Hst.out _ _ (Below.refl _ _) rfl, trivial, trivial⟩
          · have h7 : D 12 = false := invLast _ [1, 2, 3, 7, 5, 6, 7, 11, 9, 10, 11, 12] 12 (by kernel_rfl) D hc 10 (by decide) (by simpa using hD)
            have hv9 : vals 9 = .string v := hI.val 9 (by show (9 : Nat) < 12; decide) (hd 9 (by kernel_rfl))
            have hst := fun W' v hg hv => hI.step (W' := W') h7 10 (by show (10 : Nat) < 12; decide) v hg hv
            have Hst := Lib.hid hst
            clear hd hc hI hst
            simp only [fillTo]
            go_simp
            go_wp2_with (go_at_call 26; refine (TXV _).mono ?_; rintro e w' ⟨rfl, hb⟩)
            exact ⟨rfl, Hst.out _ _ hb rfl, trivial, trivial⟩
          · have h7 : D 12 = false := invLast _ [1, 2, 3, 7, 5, 6, 7, 11, 9, 10, 11, 12] 12 (by kernel_rfl) D hc 11 (by decide) (by simpa using hD)
            have hv7 : vals 7 = .string (NK ++ TN) := hI.val 7 (by show (7 : Nat) < 12; decide) (hd 7 (by kernel_rfl))
            have hv10 : vals 10 = .string TV := hI.val 10 (by show (10 : Nat) < 12; decide) (hd 10 (by kernel_rfl))
            have hst := fun W' v hg hv => hI.step (W' := W') h7 11 (by show (11 : Nat) < 12; decide) v hg hv
            have Hst := Lib.hid hst
            clear hd hc hI hst
            simp only [fillTo]
            go_simp
            go_wp2
            exact ⟨rfl, Hst.out _ _ (Below.refl _ _) rfl, trivial, trivial⟩
          · have h7 : D 12 = false := by simpa using hD
            have hv11 : vals 11 = .string (NK ++ TN ++ TV) := hI.val 11 (by show (11 : Nat) < 12; decide) (hd 11 (by kernel_rfl))
            have hBd := (hI.row h7).2
            have hsz7 := hI.size
            have hst := fun W' v hg hB => hI.last (W' := W') v hg hB
            have Hst := Lib.hid hst
            clear hd hc hI hst
            have hv12 : vals 11 = .string (mkS (mtB (kn, nm, v))) := (by rw [hv11, hcat.out])
            clear hv11
            simp only [fillTo]
            go_simp
            go_wp2_with (go_at_call 20; refine (bwrite_b b b _ _ _ hBd Hlen.out hsz7).mono ?_; rintro y w7 ⟨rfl, hB, hb⟩)
            exact ⟨rfl, Hst.out _ _ hb hB, trivial, trivial⟩
        case hend =>
          intro vals W hI
          have hB7 := hI.fin rfl
          have hbel7 := hI.bel
          clear hI
          simp only [List.size_toArray, List.length_cons, List.length_nil, Nat.reduceAdd, fillTo]
          go_simp
          rw [← htk.out] at hB7
          go_wp2
          go_roundw
          case rel => exact ⟨j + 1, by omega, by go_num, hB7, hbel7⟩
          case measure => simp [intOf]; omega
      · obtain rfl : j = n := by omega
        have hji : ¬ (j : Int) < (j : Int) := by omega
        rw [List.take_of_length_le (by omega)] at hB
        have hen : F = (numB j ++ matsB l, 0) := by rw [← hF.out]; unfold encM; rw [hE.out, hn, if_neg (by omega)]
        subst hen
        go_wp2_with (go_at_call 24; refine (bstring_any b b _ _ hB hbw).mono ?_; rintro y w6 ⟨rfl, hb6⟩)
        go_ret2
        refine ⟨rfl, below_tr hb2 (hba.trans ?_)⟩
        rw [← hbb.out]
        exact hbel.trans hb6
  · have hEi : ¬ (E : Int) = 0 := by omega
    have hen : F = ([], E) := by rw [← hF.out]; unfold encM; rw [hE.out, if_pos hE0]
    subst hen
    go_wp2_with (go_at_call 35; refine (CK _ hr).mono ?_; rintro y w2 ⟨rfl, hb2⟩)
    go_ret2
    exact ⟨rfl, hb2⟩
end Go.Proofs.YtjmcpdhfefcdgaaDoor
