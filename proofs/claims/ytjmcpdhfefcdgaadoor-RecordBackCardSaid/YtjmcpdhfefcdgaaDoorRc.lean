/- Records written by the program. -/
import Derived.Test.YtjmcpdhfefcdgaaDoorRp
import Derived.Test.YtjmcpdhfefcdgaaDoorInvB
import Derived.Test.YtjmcpdhfefcdgaaDoorMf
import Derived.Test.YtjmcpdhfefcdgaaDoorDigR
namespace Go.Proofs.YtjmcpdhfefcdgaaDoor
open Go.RowKit Lb Dig

set_option maxRecDepth 100000 in
set_option maxHeartbeats 8000000 in
theorem rencode_any (k : Int) (sm : List Smp) (ms : List Mt) (fr tt : Int) (a : Option Addr) (n c : Nat) (bb : Option Addr) (n9 c9 : Nat) (w : World) (hr : RecIn w k sm ms fr tt a n c bb n9 c9) :
    Calls Tryd.prog 10 #[.agg #[.int .i64 k, .slice a n c, .slice bb n9 c9, .int .i64 fr, .int .i64 tt]] w fun e w' => e = .returned (.tuple #[.string (mkS (encC k sm ms fr tt).1), .int .i64 ((encC k sm ms fr tt).2 : Nat)]) ∧ Below w.heap.size w w' := by
  obtain ⟨E, hE⟩ : ∃ E, Hid (chkR k sm ms fr tt = E) := ⟨_, Lib.hid rfl⟩
  obtain ⟨F, hF⟩ : ∃ F, Hid (encC k sm ms fr tt = F) := ⟨_, Lib.hid rfl⟩
  have CK := fun W h => rchk_any k sm ms fr tt a n c bb n9 c9 W h
  rw [hE.out] at CK
  rw [hF.out]
  have R1 := RowV.new w [.int .i64 k, .slice a n c, .slice bb n9 c9, .int .i64 fr, .int .i64 tt] 25
  have B1 : Below w.heap.size w (w.alloc (.cells #[.int .i64 k, .slice a n c, .slice bb n9 c9, .int .i64 fr, .int .i64 tt] 25)) := (Below.refl _ _).alloc (Nat.le_refl _) _
  go_enter Tryd.func10, Tryd.ntmps10
  go_upto_region 1 with (fail)
  generalize w.alloc (.cells #[.int .i64 k, .slice a n c, .slice bb n9 c9, .int .i64 fr, .int .i64 tt] 25) = w1 at R1 B1 ⊢
  generalize w.heap.size = p at R1 ⊢
  have k0 := (R1 0 _ rfl).1
  have k1 := (R1 1 _ rfl).1
  have k2 := (R1 2 _ rfl).1
  have k3 := (R1 3 _ rfl).1
  have k4 := (R1 4 _ rfl).1
  have hr1 := hr.below B1
  obtain ⟨_, hn, _, hn9, hle, hle9, hrf, hrt⟩ := hr
  by_cases hE0 : E = 0
  · have hEi : (E : Int) = 0 := by omega
    have hsh := chkR_one (hE.out.trans hE0)
    have hen : Hid (F = (numB k.toNat ++ (if k = 2 then (encM ms).1 ++ (numB (zig fr) ++ numB (zig tt)) else numB sm.length ++ smsB sm), 0)) := Lib.hid (by rw [← hF.out]; unfold encC; rw [hE.out, if_neg (by omega)])
    clear hF hE
    go_upto_region 5 with (go_at_call 14; refine (CK _ hr1).mono ?_; rintro y w2 ⟨rfl, hb2⟩; clear CK)
    have R2 := R1.below hb2
    have hr2 := hr1.below hb2
    have b02 := below_tr B1 hb2
    obtain ⟨b, hbb⟩ : ∃ b, Hid (b = w2.heap.size) := ⟨_, Lib.hid rfl⟩
    have hB3 := bld_new w2
    have hba : Below w2.heap.size w2 (w2.alloc (.cells #[.pointer none, .slice none 0 0] 51)) := (Below.refl _ _).alloc (Nat.le_refl _) _
    obtain ⟨W3, hW3⟩ : ∃ W3, Hid (W3 = w2.alloc (.cells #[.pointer none, .slice none 0 0] 51)) := ⟨_, Lib.hid rfl⟩
    rw [← hW3.out] at hB3 hba ⊢
    rw [← hbb.out] at hB3 ⊢
    have hs3 : b ≤ W3.heap.size := by rw [hbb.out]; exact hba.size
    have Hto : Hid (∀ W, Below b W3 W → Below w2.heap.size w2 W) := Lib.hid (fun W h => hba.trans (by rw [← hbb.out]; exact h))
    have Hfin : Hid (∀ W, Below b W3 W → Below w.heap.size w W) := Lib.hid (fun W h => below_tr b02 (Hto.out W h))
    have Hr2 := Lib.hid hr2
    have HR2 := Lib.hid R2
    have hB0 : Below b W3 W3 := Below.refl _ _
    have R3 := R2.below (Hto.out _ hB0)
    have k0 := (R3 0 _ rfl).1
    clear R1 R2 R3 hr1 hr2 b02 hba B1
    rcases hsh with ⟨rfl, rfl, rfl, rfl, s1, s32, hbad⟩ | ⟨rfl, rfl, hm0, hft⟩
    · have hni : (n : Int) < 18446744073709551616 := by omega
      have hni2 : IntKind.u64.wrap (n : Int) = (n : Int) := wrap_u64_id _ (by omega) (by omega)
      have hen2 : Hid (F = (numB 1 ++ (numB n ++ smsB sm), 0)) := Lib.hid (by rw [hen.out, if_neg (by decide), hn]; rfl)
      have hmem := Lib.hid (RowSm.mem Hr2.out.sam)
      have hnl : (numB n).length ≤ 9 := numB_le n (by omega)
      have hn1 : (numB 1).length ≤ 9 := numB_le 1 (by decide)
      clear hen
      go_upto_region 10 with (first
        | (go_at_call 21; refine (num_any 1 (by omega) _).mono ?_; rintro y w4 ⟨rfl, hb4⟩; have hB4 := hB3.below hb4; have hs4 : b ≤ w4.heap.size := Nat.le_trans hs3 hb4.size; have hbel4 : Below b W3 w4 := (Below.refl b W3).trans (hb4.mono hs3))
        | (go_at_call 20; refine (bwrite_b b b [] (numB 1) _ hB4 (by simp; omega) hs4).mono ?_; rintro y w5 ⟨rfl, hB5, hb5⟩; have hbel5 := hbel4.trans hb5; rw [List.nil_append] at hB5; have R5 := HR2.out.below (Hto.out _ hbel5); have k0 := (R5 0 _ rfl).1; have k1 := (R5 1 _ rfl).1))
      have hs5 : b ≤ w5.heap.size := Nat.le_trans hs3 hbel5.size
      clear hB3 hB4 hbel4 hb5 hs4 hb4
      go_upto_region 12 with (first
        | (go_at_call 21; refine (num_any n (by omega) _).mono ?_; rintro y w6 ⟨rfl, hb6⟩; have hB6 := hB5.below hb6; have hs6 : b ≤ w6.heap.size := Nat.le_trans hs5 hb6.size; have hbel6 : Below b W3 w6 := hbel5.trans (hb6.mono hs5))
        | (go_at_call 20; refine (bwrite_b b b (numB 1) (numB n) _ hB6 (by omega) hs6).mono ?_; rintro y w7 ⟨rfl, hB7, hb7⟩; have hbel7 := hbel6.trans hb7; have R7 := HR2.out.below (Hto.out _ hbel7); have k0 := (R7 0 _ rfl).1; have k1 := (R7 1 _ rfl).1))
      have hB8 : BldB b b (numB 1 ++ (numB n ++ smsB (sm.take 0))) w7 := by rw [List.take_zero]; simpa [smsB] using hB7
      clear hB5 hB6 hB7 hbel5 hbel6 hb6 hb7 hs5 hs6 R5 R7
      go_loopw [51] (fun v51 wt => ∃ (j : Nat), j ≤ n ∧ v51 = .int .i64 j ∧ BldB b b (numB 1 ++ (numB n ++ smsB (sm.take j))) wt ∧ Below b W3 wt) (fun v51 _ => n - (intOf v51).toNat)
      case atStart => exact ⟨0, by omega, rfl, hB8, hbel7⟩
      case round =>
        clear hB8 hbel7 k0 k1 k2 k3 k4
        obtain ⟨j, hj, rfl, hB, hbel⟩ := hrel
        have hbw : b ≤ wr.heap.size := Nat.le_trans hs3 hbel.size
        have hrw : RowSm wr a sm := RowSm.below Hr2.out.sam (Hto.out _ hbel)
        by_cases hlt : j < n
        · have hji : (j : Int) < (n : Int) := by omega
          obtain ⟨⟨ls, t, v⟩, hp⟩ : ∃ p, sm[j]? = some p := ⟨_, List.getElem?_eq_getElem (by omega)⟩
          obtain ⟨x, rfl⟩ := RowG.some_ hrw hp
          obtain ⟨la, ln, lc, c0, c1, c2, hq, hln, _, hb32, hsz, hrt2, hv64⟩ := RowSm.at3 hrw hp
          simp only at c1 c2 hq hln hsz hrt2 hv64
          have hsml := smB_len (ls, t, v) hrt2 hv64
          have LE := fun W h => lencode_any ls la ln lc hln (by omega) (fun p hp => by have := hsz p hp; omega) W h
          have hEL := encL_le ls
          have hck : chkL ls = 0 := bad_ok hbad _ (List.mem_of_getElem? hp)
          have hE2 : (encL ls).2 = 0 := by unfold encL; rw [hck, if_neg (by omega)]
          obtain ⟨LB, hLB⟩ : ∃ LB, Hid (encL ls = (LB, 0)) := ⟨(encL ls).1, Lib.hid (Prod.ext rfl hE2)⟩
          have hLB1 : (encL ls).1 = LB := by rw [hLB.out]
          rw [hLB.out] at LE
          rw [hLB1] at hEL
          obtain ⟨SB, hSB⟩ : ∃ SB, Hid (smB (ls, t, v) = SB) := ⟨_, Lib.hid rfl⟩
          rw [hSB.out] at hsml
          have htk : Hid (numB 1 ++ (numB n ++ smsB (sm.take (j + 1))) = (numB 1 ++ (numB n ++ smsB (sm.take j))) ++ SB) := Lib.hid (by
            rw [List.take_add_one, hp, List.append_assoc, List.append_assoc]; congr 2; rw [← hSB.out]; exact smsB_snoc _ _)
          obtain ⟨LS, hLS⟩ : ∃ LS, Hid (mkS LB = LS) := ⟨_, Lib.hid rfl⟩
          have TXL := fun W => dtext_any LS (by rw [← hLS.out, mkS_size]; omega) W
          have SGT := fun W => signed_any t hrt2.1 hrt2.2 W
          have NUMV := fun W => num_any v hv64 W
          obtain ⟨TL, hTL⟩ : ∃ S, Hid (mkS (textB LS.data.toList) = S) := ⟨_, Lib.hid rfl⟩
          obtain ⟨ST, hST⟩ : ∃ S, Hid (mkS (numB (zig t)) = S) := ⟨_, Lib.hid rfl⟩
          obtain ⟨NV, hNV⟩ : ∃ S, Hid (mkS (numB v) = S) := ⟨_, Lib.hid rfl⟩
          rw [hTL.out] at TXL
          rw [hST.out] at SGT
          rw [hNV.out] at NUMV
          have hcat : Hid (TL ++ ST ++ NV = mkS SB) := Lib.hid (by
            rw [← hTL.out, ← hST.out, ← hNV.out, mkS_append, mkS_append, ← hSB.out, ← hLS.out, mkS_data]; unfold smB; rw [hLB1, List.append_assoc])
          have hlen2 : TL.size + ST.size + NV.size ≤ 9223372036854775807 := by
            have := congrArg ByteArray.size hcat.out
            rw [ByteArray.size_append, ByteArray.size_append, mkS_size] at this
            omega
          have hlen1 : TL.size + ST.size ≤ 9223372036854775807 := by omega
          have Hlen : Hid ((numB 1 ++ (numB n ++ smsB (sm.take j))).length + SB.length ≤ 140737488355328) := Lib.hid (by
            have h1 := smsB_len (sm.take j) (fun p hp => hmem.out p (List.mem_of_mem_take hp))
            rw [List.length_take] at h1
            rw [List.length_append, List.length_append]
            omega)
          have R4 := RowV.new wr [.slice la ln lc, .int .i64 t, .int .u64 (v : Nat)] 43
          have B4 : Below wr.heap.size wr (wr.alloc (.cells #[.slice la ln lc, .int .i64 t, .int .u64 (v : Nat)] 43)) := (Below.refl _ _).alloc (Nat.le_refl _) _
          clear hp hsz hrw hsml hE2 hck hLB1 hrt2
          go_upto_region 14 with (fail)
          generalize wr.alloc (.cells #[.slice la ln lc, .int .i64 t, .int .u64 (v : Nat)] 43) = w8 at R4 B4 ⊢
          generalize wr.heap.size = q at R4 ⊢
          have r0 := (R4 0 _ rfl).1
          have hB8 := hB.below B4
          have hbel8 : Below b W3 w8 := hbel.trans (B4.mono hbw)
          have hs8 : b ≤ w8.heap.size := Nat.le_trans hbw B4.size
          have hq8 := hq.below B4
          clear c0 c1 c2 hq hB hbel B4
          rw [hLS.out] at LE
          go_upto_region 15 with (go_at_call 25; refine (LE _ hq8).mono ?_; rintro y w9 ⟨rfl, hb9⟩; clear LE)
          have hxd0 := R4.below hb9
          have hBd0 := hB8.below hb9
          have hxd : RowV w9.drew q [.slice la ln lc, .int .i64 t, .int .u64 (v : Nat)] := hxd0
          have hBd : BldB b b (numB 1 ++ (numB n ++ smsB (sm.take j))) w9.drew := hBd0
          have hbeld : Below b W3 w9.drew := (hbel8.trans (hb9.mono hs8)).trans ⟨rfl, rfl, rfl, Nat.le_refl _, fun _ _ => rfl⟩
          have hsd : b ≤ w9.drew.heap.size := Nat.le_trans hs8 hb9.size
          clear hxd0 hBd0 R4 hB8 hbel8 hb9 hs8 hq8 r0
          refine wp_region_inv_list (by kernel_rfl) (by kernel_rfl) (InvB b q W3 (numB 1 ++ (numB n ++ smsB (sm.take j))) SB [.slice la ln lc, .int .i64 t, .int .u64 (v : Nat)] [.string LS, .string TL, .pointer (some ⟨q, 1, none⟩), .int .i64 t, .string ST, .string (TL ++ ST), .pointer (some ⟨q, 2, none⟩), .int .u64 v, .string NV, .string (TL ++ ST ++ NV)]) ?h0 ?hop ?hend
          case h0 => exact ⟨hbeld, hsd, (fun _ => ⟨hxd, hBd⟩), (fun h => by cases h), (fun _ _ h => by cases h)⟩
          case hop =>
            refine ⟨fun D vals W hI hD hd hc => ?_, fun D vals W hI hD hd hc => ?_, fun D vals W hI hD hd hc => ?_, fun D vals W hI hD hd hc => ?_, fun D vals W hI hD hd hc => ?_, fun D vals W hI hD hd hc => ?_, fun D vals W hI hD hd hc => ?_, fun D vals W hI hD hd hc => ?_, fun D vals W hI hD hd hc => ?_, fun D vals W hI hD hd hc => ?_, fun D vals W hI hD hd hc => ?_, trivial⟩
            · have h7 : D 10 = false := invLast _ [1, 5, 3, 4, 5, 9, 7, 8, 9, 10] 10 (by kernel_rfl) D hc 0 (by decide) (by simpa using hD)
              have hst := fun W' v hg hv => hI.step (W' := W') h7 0 (by show (0 : Nat) < 10; decide) v hg hv
              have Hst := Lib.hid hst
              clear hd hc hI hst
              simp only [fillTo]
              go_simp
              go_wp2
              exact ⟨rfl, Hst.out _ _ (Below.refl _ _) rfl, trivial, trivial⟩
            · have h7 : D 10 = false := invLast _ [1, 5, 3, 4, 5, 9, 7, 8, 9, 10] 10 (by kernel_rfl) D hc 1 (by decide) (by simpa using hD)
              have hv0 : vals 0 = .string LS := hI.val 0 (by show (0 : Nat) < 10; decide) (hd 0 (by kernel_rfl))
              have hst := fun W' v hg hv => hI.step (W' := W') h7 1 (by show (1 : Nat) < 10; decide) v hg hv
              have Hst := Lib.hid hst
              clear hd hc hI hst
              simp only [fillTo]
              go_simp
              go_wp2_with (go_at_call 26; refine (TXL _).mono ?_; rintro e w' ⟨rfl, hb⟩)
              exact ⟨rfl, Hst.out _ _ hb rfl, trivial, trivial⟩
            · have h7 : D 10 = false := invLast _ [1, 5, 3, 4, 5, 9, 7, 8, 9, 10] 10 (by kernel_rfl) D hc 2 (by decide) (by simpa using hD)
              have hst := fun W' v hg hv => hI.step (W' := W') h7 2 (by show (2 : Nat) < 10; decide) v hg hv
              have Hst := Lib.hid hst
              clear hd hc hI hst
              simp only [fillTo]
              go_simp
              go_wp2
              exact ⟨rfl, Hst.out _ _ (Below.refl _ _) rfl, trivial, trivial⟩
            · have h7 : D 10 = false := invLast _ [1, 5, 3, 4, 5, 9, 7, 8, 9, 10] 10 (by kernel_rfl) D hc 3 (by decide) (by simpa using hD)
              have hv2 : vals 2 = .pointer (some ⟨q, 1, none⟩) := hI.val 2 (by show (2 : Nat) < 10; decide) (hd 2 (by kernel_rfl))
              have hrow := (hI.row h7).1
              have hkc0 := (hrow 1 _ rfl).1
              have hst := fun W' v hg hv => hI.step (W' := W') h7 3 (by show (3 : Nat) < 10; decide) v hg hv
              have Hst := Lib.hid hst
              clear hd hc hI hst hrow
              simp only [fillTo]
              go_simp
              go_wp2
              exact ⟨rfl, Hst.out _ _ (Below.refl _ _) rfl, trivial, trivial⟩
            · have h7 : D 10 = false := invLast _ [1, 5, 3, 4, 5, 9, 7, 8, 9, 10] 10 (by kernel_rfl) D hc 4 (by decide) (by simpa using hD)
              have hv3 : vals 3 = .int .i64 t := hI.val 3 (by show (3 : Nat) < 10; decide) (hd 3 (by kernel_rfl))
              have hst := fun W' v hg hv => hI.step (W' := W') h7 4 (by show (4 : Nat) < 10; decide) v hg hv
              have Hst := Lib.hid hst
              clear hd hc hI hst
              simp only [fillTo]
              go_simp
              go_wp2_with (go_at_call 23; refine (SGT _).mono ?_; rintro e w' ⟨rfl, hb⟩)
              exact ⟨rfl, Hst.out _ _ hb rfl, trivial, trivial⟩
            · have h7 : D 10 = false := invLast _ [1, 5, 3, 4, 5, 9, 7, 8, 9, 10] 10 (by kernel_rfl) D hc 5 (by decide) (by simpa using hD)
              have hv1 : vals 1 = .string TL := hI.val 1 (by show (1 : Nat) < 10; decide) (hd 1 (by kernel_rfl))
              have hv4 : vals 4 = .string ST := hI.val 4 (by show (4 : Nat) < 10; decide) (hd 4 (by kernel_rfl))
              have hst := fun W' v hg hv => hI.step (W' := W') h7 5 (by show (5 : Nat) < 10; decide) v hg hv
              have Hst := Lib.hid hst
              clear hd hc hI hst
              simp only [fillTo]
              go_simp
              go_wp2
              exact ⟨rfl, Hst.out _ _ (Below.refl _ _) rfl, trivial, trivial⟩
            · have h7 : D 10 = false := invLast _ [1, 5, 3, 4, 5, 9, 7, 8, 9, 10] 10 (by kernel_rfl) D hc 6 (by decide) (by simpa using hD)
              have hst := fun W' v hg hv => hI.step (W' := W') h7 6 (by show (6 : Nat) < 10; decide) v hg hv
              have Hst := Lib.hid hst
              clear hd hc hI hst
              simp only [fillTo]
              go_simp
              go_wp2
              exact ⟨rfl, Hst.out _ _ (Below.refl _ _) rfl, trivial, trivial⟩
            · have h7 : D 10 = false := invLast _ [1, 5, 3, 4, 5, 9, 7, 8, 9, 10] 10 (by kernel_rfl) D hc 7 (by decide) (by simpa using hD)
              have hv6 : vals 6 = .pointer (some ⟨q, 2, none⟩) := hI.val 6 (by show (6 : Nat) < 10; decide) (hd 6 (by kernel_rfl))
              have hrow := (hI.row h7).1
              have hkc0 := (hrow 2 _ rfl).1
              have hst := fun W' v hg hv => hI.step (W' := W') h7 7 (by show (7 : Nat) < 10; decide) v hg hv
              have Hst := Lib.hid hst
              clear hd hc hI hst hrow
              simp only [fillTo]
              go_simp
              go_wp2
              exact ⟨rfl, Hst.out _ _ (Below.refl _ _) rfl, trivial, trivial⟩
            · have h7 : D 10 = false := invLast _ [1, 5, 3, 4, 5, 9, 7, 8, 9, 10] 10 (by kernel_rfl) D hc 8 (by decide) (by simpa using hD)
              have hv7 : vals 7 = .int .u64 v := hI.val 7 (by show (7 : Nat) < 10; decide) (hd 7 (by kernel_rfl))
              have hst := fun W' v hg hv => hI.step (W' := W') h7 8 (by show (8 : Nat) < 10; decide) v hg hv
              have Hst := Lib.hid hst
              clear hd hc hI hst
              simp only [fillTo]
              go_simp
              go_wp2_with (go_at_call 21; refine (NUMV _).mono ?_; rintro e w' ⟨rfl, hb⟩)
              exact ⟨rfl, Hst.out _ _ hb rfl, trivial, trivial⟩
            · have h7 : D 10 = false := invLast _ [1, 5, 3, 4, 5, 9, 7, 8, 9, 10] 10 (by kernel_rfl) D hc 9 (by decide) (by simpa using hD)
              have hv5 : vals 5 = .string (TL ++ ST) := hI.val 5 (by show (5 : Nat) < 10; decide) (hd 5 (by kernel_rfl))
              have hv8 : vals 8 = .string NV := hI.val 8 (by show (8 : Nat) < 10; decide) (hd 8 (by kernel_rfl))
              have hst := fun W' v hg hv => hI.step (W' := W') h7 9 (by show (9 : Nat) < 10; decide) v hg hv
              have Hst := Lib.hid hst
              clear hd hc hI hst
              simp only [fillTo]
              go_simp
              go_wp2
              exact ⟨rfl, Hst.out _ _ (Below.refl _ _) rfl, trivial, trivial⟩
            · have h7 : D 10 = false := by simpa using hD
              have hv9 : vals 9 = .string (TL ++ ST ++ NV) := hI.val 9 (by show (9 : Nat) < 10; decide) (hd 9 (by kernel_rfl))
              have hBd := (hI.row h7).2
              have hsz7 := hI.size
              have hst := fun W' v hg hB => hI.last (W' := W') v hg hB
              have Hst := Lib.hid hst
              clear hd hc hI hst
              have hv10 : vals 9 = .string (mkS SB) := (by rw [hv9, hcat.out])
              clear hv9
              simp only [fillTo]
              go_simp
              go_wp2_with (go_at_call 20; refine (bwrite_b b b _ _ _ hBd Hlen.out hsz7).mono ?_; rintro y w7 ⟨rfl, hB, hb⟩)
              exact ⟨rfl, Hst.out _ _ hb hB, trivial, trivial⟩
          case hend =>
            intro vals W hI
            have hB7 := hI.fin rfl
            have hbel7 := hI.bel
            clear hI
            simp only [List.size_toArray, List.length_cons, List.length_nil, Nat.reduceAdd, fillTo]
            go_simp
            rw [← htk.out] at hB7
            go_wp2
            go_roundw
            case rel => exact ⟨j + 1, by omega, by go_num, hB7, hbel7⟩
            case measure => simp [intOf]; omega
        · obtain rfl : j = n := by omega
          have hji : ¬ (j : Int) < (j : Int) := by omega
          rw [List.take_of_length_le (by omega)] at hB
          have hF2 := hen2.out
          subst hF2
          go_wp2_with (go_at_call 24; refine (bstring_any b b _ _ hB hbw).mono ?_; rintro y w6 ⟨rfl, hb6⟩)
          go_ret2
          exact ⟨rfl, Hfin.out _ (hbel.trans hb6)⟩
    · have hen2 : Hid (F = (numB 2 ++ ((encM ms).1 ++ (numB (zig fr) ++ numB (zig tt))), 0)) := Lib.hid (by rw [hen.out, if_pos rfl]; rfl)
      have hn1 : (numB 2).length ≤ 9 := numB_le 2 (by decide)
      clear hen
      go_upto_region 7 with (first
        | (go_at_call 21; refine (num_any 2 (by omega) _).mono ?_; rintro y w4 ⟨rfl, hb4⟩; have hB4 := hB3.below hb4; have hs4 : b ≤ w4.heap.size := Nat.le_trans hs3 hb4.size; have hbel4 : Below b W3 w4 := (Below.refl b W3).trans (hb4.mono hs3))
        | (go_at_call 20; refine (bwrite_b b b [] (numB 2) _ hB4 (by simp; omega) hs4).mono ?_; rintro y w5 ⟨rfl, hB5, hb5⟩; have hbel5 := hbel4.trans hb5; rw [List.nil_append] at hB5; have R5 := HR2.out.below (Hto.out _ hbel5); have k0 := (R5 0 _ rfl).1; have k2 := (R5 2 _ rfl).1))
      have hs5 : b ≤ w5.heap.size := Nat.le_trans hs3 hbel5.size
      clear hB3 hB4 hbel4 hb5 hs4 hb4
      have ME := fun W h => mencode_any ms bb n9 c9 hn9 hle9 W h
      have hML := encM_len ms
      have hM2 : (encM ms).2 = 0 := by rw [encM_err]; exact hm0
      obtain ⟨MB, hMB⟩ : ∃ MB, Hid (encM ms = (MB, 0)) := ⟨(encM ms).1, Lib.hid (Prod.ext rfl hM2)⟩
      rw [hMB.out] at ME hML
      simp only at hML
      have hmat5 := RowM.below Hr2.out.mat (Hto.out _ hbel5)
      obtain ⟨M, hM⟩ : ∃ M, Hid (mkS MB = M) := ⟨_, Lib.hid rfl⟩
      rw [hM.out] at ME
      have SGF := fun W => signed_any fr hrf.1 hrf.2 W
      have SGT := fun W => signed_any tt hrt.1 hrt.2 W
      have z1 := numB_le (zig fr) (zig_lt _ hrf.1 hrf.2)
      have z2 := numB_le (zig tt) (zig_lt _ hrt.1 hrt.2)
      obtain ⟨SF, hSF⟩ : ∃ S, Hid (mkS (numB (zig fr)) = S) := ⟨_, Lib.hid rfl⟩
      obtain ⟨ST, hST⟩ : ∃ S, Hid (mkS (numB (zig tt)) = S) := ⟨_, Lib.hid rfl⟩
      rw [hSF.out] at SGF
      rw [hST.out] at SGT
      obtain ⟨TB, hTB⟩ : ∃ TB, Hid (MB ++ (numB (zig fr) ++ numB (zig tt)) = TB) := ⟨_, Lib.hid rfl⟩
      have hTBl : TB.length ≤ 2018 := by rw [← hTB.out, List.length_append, List.length_append]; omega
      have hcat : Hid (M ++ SF ++ ST = mkS TB) := Lib.hid (by
        rw [← hM.out, ← hSF.out, ← hST.out, mkS_append, mkS_append, ← hTB.out, List.append_assoc])
      have hlen2 : M.size + SF.size + ST.size ≤ 9223372036854775807 := by
        have := congrArg ByteArray.size hcat.out
        rw [ByteArray.size_append, ByteArray.size_append, mkS_size] at this
        omega
      have hlen1 : M.size + SF.size ≤ 9223372036854775807 := by omega
      have Hlen : Hid ((numB 2).length + TB.length ≤ 140737488355328) := Lib.hid (by omega)
      have hF2 : F = (numB 2 ++ TB, 0) := by rw [hen2.out, ← hTB.out, hMB.out]
      subst hF2
      clear hM2 hm0 hML hrf hrt
      go_upto_region 8 with (go_at_call 22; refine (ME _ hmat5).mono ?_; rintro y w9 ⟨rfl, hb9⟩; clear ME)
      have hxd0 := R5.below hb9
      have hBd0 := hB5.below hb9
      have hxd : RowV w9.drew p [.int .i64 2, .slice a n c, .slice bb n9 c9, .int .i64 fr, .int .i64 tt] := hxd0
      have hBd : BldB b b (numB 2) w9.drew := hBd0
      have hbeld : Below b W3 w9.drew := (hbel5.trans (hb9.mono hs5)).trans ⟨rfl, rfl, rfl, Nat.le_refl _, fun _ _ => rfl⟩
      have hsd : b ≤ w9.drew.heap.size := Nat.le_trans hs5 hb9.size
      clear hxd0 hBd0 R5 hB5 hbel5 hb9 hs5 hmat5 k0 k1 k2 k3 k4
      refine wp_region_inv_list (by kernel_rfl) (by kernel_rfl) (InvB b p W3 (numB 2) TB [.int .i64 2, .slice a n c, .slice bb n9 c9, .int .i64 fr, .int .i64 tt] [.string M, .pointer (some ⟨p, 3, none⟩), .int .i64 fr, .string SF, .string (M ++ SF), .pointer (some ⟨p, 4, none⟩), .int .i64 tt, .string ST, .string (M ++ SF ++ ST)]) ?h0 ?hop ?hend
      case h0 => exact ⟨hbeld, hsd, (fun _ => ⟨hxd, hBd⟩), (fun h => by cases h), (fun _ _ h => by cases h)⟩
      case hop =>
        refine ⟨fun D vals W hI hD hd hc => ?_, fun D vals W hI hD hd hc => ?_, fun D vals W hI hD hd hc => ?_, fun D vals W hI hD hd hc => ?_, fun D vals W hI hD hd hc => ?_, fun D vals W hI hD hd hc => ?_, fun D vals W hI hD hd hc => ?_, fun D vals W hI hD hd hc => ?_, fun D vals W hI hD hd hc => ?_, fun D vals W hI hD hd hc => ?_, trivial⟩
        · have h7 : D 9 = false := invLast _ [4, 2, 3, 4, 8, 6, 7, 8, 9] 9 (by kernel_rfl) D hc 0 (by decide) (by simpa using hD)
          have hst := fun W' v hg hv => hI.step (W' := W') h7 0 (by show (0 : Nat) < 9; decide) v hg hv
          have Hst := Lib.hid hst
          clear hd hc hI hst
          simp only [fillTo]
          go_simp
          go_wp2
          exact ⟨rfl, Hst.out _ _ (Below.refl _ _) rfl, trivial, trivial⟩
        · have h7 : D 9 = false := invLast _ [4, 2, 3, 4, 8, 6, 7, 8, 9] 9 (by kernel_rfl) D hc 1 (by decide) (by simpa using hD)
          have hst := fun W' v hg hv => hI.step (W' := W') h7 1 (by show (1 : Nat) < 9; decide) v hg hv
          have Hst := Lib.hid hst
          clear hd hc hI hst
          simp only [fillTo]
          go_simp
          go_wp2
          exact ⟨rfl, Hst.out _ _ (Below.refl _ _) rfl, trivial, trivial⟩
        · have h7 : D 9 = false := invLast _ [4, 2, 3, 4, 8, 6, 7, 8, 9] 9 (by kernel_rfl) D hc 2 (by decide) (by simpa using hD)
          have hv1 : vals 1 = .pointer (some ⟨p, 3, none⟩) := hI.val 1 (by show (1 : Nat) < 9; decide) (hd 1 (by kernel_rfl))
          have hrow := (hI.row h7).1
          have hkc0 := (hrow 3 _ rfl).1
          have hst := fun W' v hg hv => hI.step (W' := W') h7 2 (by show (2 : Nat) < 9; decide) v hg hv
          have Hst := Lib.hid hst
          clear hd hc hI hst hrow
          simp only [fillTo]
          go_simp
          go_wp2
          exact ⟨rfl, Hst.out _ _ (Below.refl _ _) rfl, trivial, trivial⟩
        · have h7 : D 9 = false := invLast _ [4, 2, 3, 4, 8, 6, 7, 8, 9] 9 (by kernel_rfl) D hc 3 (by decide) (by simpa using hD)
          have hv2 : vals 2 = .int .i64 fr := hI.val 2 (by show (2 : Nat) < 9; decide) (hd 2 (by kernel_rfl))
          have hst := fun W' v hg hv => hI.step (W' := W') h7 3 (by show (3 : Nat) < 9; decide) v hg hv
          have Hst := Lib.hid hst
          clear hd hc hI hst
          simp only [fillTo]
          go_simp
          go_wp2_with (go_at_call 23; refine (SGF _).mono ?_; rintro e w' ⟨rfl, hb⟩)
          exact ⟨rfl, Hst.out _ _ hb rfl, trivial, trivial⟩
        · have h7 : D 9 = false := invLast _ [4, 2, 3, 4, 8, 6, 7, 8, 9] 9 (by kernel_rfl) D hc 4 (by decide) (by simpa using hD)
          have hv0 : vals 0 = .string M := hI.val 0 (by show (0 : Nat) < 9; decide) (hd 0 (by kernel_rfl))
          have hv3 : vals 3 = .string SF := hI.val 3 (by show (3 : Nat) < 9; decide) (hd 3 (by kernel_rfl))
          have hst := fun W' v hg hv => hI.step (W' := W') h7 4 (by show (4 : Nat) < 9; decide) v hg hv
          have Hst := Lib.hid hst
          clear hd hc hI hst
          simp only [fillTo]
          go_simp
          go_wp2
          exact ⟨rfl, Hst.out _ _ (Below.refl _ _) rfl, trivial, trivial⟩
        · have h7 : D 9 = false := invLast _ [4, 2, 3, 4, 8, 6, 7, 8, 9] 9 (by kernel_rfl) D hc 5 (by decide) (by simpa using hD)
          have hst := fun W' v hg hv => hI.step (W' := W') h7 5 (by show (5 : Nat) < 9; decide) v hg hv
          have Hst := Lib.hid hst
          clear hd hc hI hst
          simp only [fillTo]
          go_simp
          go_wp2
          exact ⟨rfl, Hst.out _ _ (Below.refl _ _) rfl, trivial, trivial⟩
        · have h7 : D 9 = false := invLast _ [4, 2, 3, 4, 8, 6, 7, 8, 9] 9 (by kernel_rfl) D hc 6 (by decide) (by simpa using hD)
          have hv5 : vals 5 = .pointer (some ⟨p, 4, none⟩) := hI.val 5 (by show (5 : Nat) < 9; decide) (hd 5 (by kernel_rfl))
          have hrow := (hI.row h7).1
          have hkc0 := (hrow 4 _ rfl).1
          have hst := fun W' v hg hv => hI.step (W' := W') h7 6 (by show (6 : Nat) < 9; decide) v hg hv
          have Hst := Lib.hid hst
          clear hd hc hI hst hrow
          simp only [fillTo]
          go_simp
          go_wp2
          exact ⟨rfl, Hst.out _ _ (Below.refl _ _) rfl, trivial, trivial⟩
        · have h7 : D 9 = false := invLast _ [4, 2, 3, 4, 8, 6, 7, 8, 9] 9 (by kernel_rfl) D hc 7 (by decide) (by simpa using hD)
          have hv6 : vals 6 = .int .i64 tt := hI.val 6 (by show (6 : Nat) < 9; decide) (hd 6 (by kernel_rfl))
          have hst := fun W' v hg hv => hI.step (W' := W') h7 7 (by show (7 : Nat) < 9; decide) v hg hv
          have Hst := Lib.hid hst
          clear hd hc hI hst
          simp only [fillTo]
          go_simp
          go_wp2_with (go_at_call 23; refine (SGT _).mono ?_; rintro e w' ⟨rfl, hb⟩)
          exact ⟨rfl, Hst.out _ _ hb rfl, trivial, trivial⟩
        · have h7 : D 9 = false := invLast _ [4, 2, 3, 4, 8, 6, 7, 8, 9] 9 (by kernel_rfl) D hc 8 (by decide) (by simpa using hD)
          have hv4 : vals 4 = .string (M ++ SF) := hI.val 4 (by show (4 : Nat) < 9; decide) (hd 4 (by kernel_rfl))
          have hv7 : vals 7 = .string ST := hI.val 7 (by show (7 : Nat) < 9; decide) (hd 7 (by kernel_rfl))
          have hst := fun W' v hg hv => hI.step (W' := W') h7 8 (by show (8 : Nat) < 9; decide) v hg hv
          have Hst := Lib.hid hst
          clear hd hc hI hst
          simp only [fillTo]
          go_simp
          go_wp2
          exact ⟨rfl, Hst.out _ _ (Below.refl _ _) rfl, trivial, trivial⟩
        · have h7 : D 9 = false := by simpa using hD
          have hv8 : vals 8 = .string (M ++ SF ++ ST) := hI.val 8 (by show (8 : Nat) < 9; decide) (hd 8 (by kernel_rfl))
          have hBd := (hI.row h7).2
          have hsz7 := hI.size
          have hst := fun W' v hg hB => hI.last (W' := W') v hg hB
          have Hst := Lib.hid hst
          clear hd hc hI hst
          have hv9 : vals 8 = .string (mkS TB) := (by rw [hv8, hcat.out])
          clear hv8
          simp only [fillTo]
          go_simp
          go_wp2_with (go_at_call 20; refine (bwrite_b b b _ _ _ hBd Hlen.out hsz7).mono ?_; rintro y w7 ⟨rfl, hB, hb⟩)
          exact ⟨rfl, Hst.out _ _ hb hB, trivial, trivial⟩
      case hend =>
        intro vals W hI
        have hB7 := hI.fin rfl
        have hbel7 := hI.bel
        clear hI
        simp only [List.size_toArray, List.length_cons, List.length_nil, Nat.reduceAdd, fillTo]
        go_simp
        have hbw7 : b ≤ W.heap.size := Nat.le_trans hs3 hbel7.size
        go_wp2_with (go_at_call 24; refine (bstring_any b b _ _ hB7 hbw7).mono ?_; rintro y w6 ⟨rfl, hb6⟩)
        go_ret2
        exact ⟨rfl, Hfin.out _ (hbel7.trans hb6)⟩
  · have hEi : ¬ (E : Int) = 0 := by omega
    have hen : F = ([], E) := by rw [← hF.out]; unfold encC; rw [hE.out, if_pos hE0]
    subst hen
    go_wp2_with (go_at_call 14; refine (CK _ hr1).mono ?_; rintro y w2 ⟨rfl, hb2⟩)
    go_ret2
    exact ⟨rfl, below_tr B1 hb2⟩
end Go.Proofs.YtjmcpdhfefcdgaaDoor
