/- Samples read by the program. -/
import Derived.Test.YtjmcpdhfefcdgaaDoorRj
import Derived.Test.YtjmcpdhfefcdgaaDoorRi
import Derived.Test.YtjmcpdhfefcdgaaDoorLp
namespace Go.Proofs.YtjmcpdhfefcdgaaDoor
open Go.RowKit Lb Dig Inn

namespace Lb
theorem decL_ok (s : List UInt8) (h : (decL s).2 = 0) : chkL (decL s).1 = 0 := by
  unfold decL finD at h ⊢
  split
  · rename_i h1; rw [if_pos h1] at h; exact absurd h h1
  · rename_i h1
    rw [if_neg h1] at h
    split
    · rename_i h2; rw [if_pos h2] at h; exact absurd h (by decide)
    · rename_i h2
      rw [if_neg h2] at h
      split
      · rename_i h3; rw [if_pos h3] at h; exact absurd h (by decide)
      · rename_i h3; simpa using h3
theorem decL_facts (s : List UInt8) : (decL s).1.length ≤ 8 ∧ ∀ p ∈ (decL s).1, p.1.size ≤ 64 ∧ p.2.size ≤ 64 := by
  by_cases h : (decL s).2 = 0
  · obtain ⟨_, h8, hok⟩ := chkL_ok (decL_ok s h)
    refine ⟨h8, fun p hp => ?_⟩
    have h1 := nameB_len (hok p hp).1
    have h2 := valueB_len (hok p hp).2
    rw [← size_toList] at h1 h2
    omega
  · rw [decL_err s h]; exact ⟨by simp, fun p hp => by simp at hp⟩
theorem inLab_facts (t : List UInt8) (e : Nat) : (inLab t e).1.length ≤ 8 ∧ ∀ p ∈ (inLab t e).1, p.1.size ≤ 64 ∧ p.2.size ≤ 64 := by
  unfold inLab
  split
  · exact ⟨by simp, fun p hp => by simp at hp⟩
  · exact decL_facts t
theorem zag_rng (n : Nat) (h : n < 18446744073709551616) : -9223372036854775808 ≤ zag n ∧ zag n < 9223372036854775808 := by
  unfold zag; split <;> omega
theorem inSig_bad {l : List UInt8} {e : Nat} (h : e ≠ 0) : inSig l e = (0, l, e) := by unfold inSig; rw [if_pos h]
theorem inNum_bad {l : List UInt8} {e : Nat} (h : e ≠ 0) : inNum l e = (0, l, e) := by unfold inNum; rw [if_pos h]
theorem inSig_ok {l : List UInt8} {n k e : Nat} (h : getNum l = (n, k, e)) : inSig l 0 = (zag n, l.drop k, e) := by unfold inSig; rw [if_neg (by omega), h]
theorem inNum_get {l : List UInt8} {n k e : Nat} (h : getNum l = (n, k, e)) : inNum l 0 = (n, l.drop k, e) := by unfold inNum; rw [if_neg (by omega), h]
end Lb

structure LbOut (w : World) (x : Nat) (ls : List Pr) (l : List UInt8) (e : Nat) (y : Ending) (w' : World) : Prop where
  chg : Chg (fun k => k = x) w w'
  ok : e = 0 → ∃ (a : Option Addr) (n c : Nat), y = .returned (.slice a n c) ∧ RowQ w' a ls ∧ ls.length = n ∧ ((a = none → c = 0) ∧ n ≤ c) ∧ (∀ ad, a = some ad → w.heap.size ≤ ad.block) ∧ RdAt w' x l
  bad : e ≠ 0 → y = .panicked (thrown (e : Nat))

set_option maxRecDepth 100000 in
set_option maxHeartbeats 2000000 in
theorem rlabels_any (x : Nat) (l t l1 : List UInt8) (e1 e2 : Nat) (ls : List Pr) (hl : l.length ≤ 100000) (h1 : Hid (inText l 0 1024 = (t, l1, e1))) (h2 : Hid (inLab t e1 = (ls, e2))) (w : World) (h : RdAt w x l) :
    Calls Tryd.prog 62 #[.pointer (some ⟨x, 0, none⟩)] w (LbOut w x ls l1 e2) := by
  obtain ⟨t', k, e', hT⟩ : ∃ t k e, Hid (getText (mkS l).data.toList 1024 = (t, k, e)) := ⟨_, _, _, Lib.hid rfl⟩
  have GT := fun W => gettext_eq (mkS l) (by rw [mkS_size]; omega) 1024 (by omega) (by omega) hT W
  have hT2 := hT.out
  rw [mkS_data] at hT2
  have hk := (getText_facts hT2).1
  have h3 : inText l 0 1024 = (t', l.drop k, e') := by unfold inText; rw [if_neg (by omega), hT2]
  have hts := inText_size l 0 1024
  rw [h1.out] at h3 hts
  simp only [Prod.mk.injEq] at h3 hts
  obtain ⟨rfl, rfl, rfl⟩ := h3
  have SK := fun W h => rskip_any x l k e1 hk W h
  have c0 := (h 0 _ rfl).1
  have htl : t.length ≤ 100000 := by omega
  clear hT2 hts hT
  go_enter Tryd.func62, Tryd.ntmps62
  go_upto_region 2 with (go_at_call 70; refine (GT _).mono ?_; rintro y w1 ⟨rfl, hb1⟩; have h1r : RdAt w1 x l := RowV.below h hb1)
  have hc1 := Chg.of_below (fun k => k = x) hb1
  by_cases he : e1 = 0
  · have He := Lib.hid he
    have hD : decL t = (ls, e2) := by have := h2.out; unfold inLab at this; rwa [if_neg (by omega)] at this
    have LD := fun W => ldecode2_any (mkS t) (by rw [mkS_size]; exact htl) W
    rw [mkS_data, hD] at LD
    clear he hD
    go_upto_region 4 with (first
      | (go_at_call 44; refine (SK _ h1r).mono ?_; rintro y w2 ⟨hc2, hok, _⟩; obtain ⟨⟨vv, rfl⟩, h2r⟩ := hok He.out)
      | (go_at_call 71; refine (LD _).mono ?_; rintro y w3 ⟨a, n, c, rfl, hq3, hn3, hb3, hcap3, hlow3⟩; have h3r := RowV.below h2r hb3))
    have hc3 := (hc1.trans hc2 (fun _ _ x => x)).trans (Chg.of_below (fun k => k = x) hb3) (fun _ _ x => x)
    have hs3 : w.heap.size ≤ w2.heap.size := Nat.le_trans hb1.size hc2.size
    by_cases he2 : e2 = 0
    · have heb : ((e2 : Int) == 0) = true := by rw [beq_iff_eq]; omega
      have He2 := Lib.hid he2
      clear he2
      go_wp2_with (go_at_call 33; refine (rcheck_any _ _ _).mono ?_; rintro y w4 ⟨hck, rfl⟩; first | (obtain rfl := hck) | (obtain ⟨vv, rfl⟩ := hck))
      go_ret
      exact ⟨hc3, fun _ => ⟨_, _, _, rfl, hq3, hn3, hcap3, fun ad e => Nat.le_trans hs3 (hlow3 ad e), h3r⟩, fun h => absurd He2.out h⟩
    · have heb : ((e2 : Int) == 0) = false := by rw [beq_eq_false_iff_ne]; omega
      have He2 := Lib.hid he2
      clear he2
      go_wp2_with (go_at_call 33; refine (rcheck_any _ _ _).mono ?_; rintro y w4 ⟨hck, rfl⟩; first | (obtain rfl := hck) | (obtain ⟨vv, rfl⟩ := hck))
      exact ⟨rfl, hc3, fun h => absurd h He2.out, fun _ => rfl⟩
  · have He := Lib.hid he
    have hD : e2 = e1 := by have := h2.out; unfold inLab at this; rw [if_pos he] at this; simp only [Prod.mk.injEq] at this; omega
    subst hD
    clear he
    go_wp2_with (go_at_call 44; refine (SK _ h1r).mono ?_; rintro y w2 ⟨hc2, _, hbad⟩; obtain rfl := hbad He.out)
    exact ⟨rfl, hc1.trans hc2 (fun _ _ x => x), fun h => absurd h He.out, fun _ => rfl⟩

structure CmOut (w : World) (x : Nat) (ss : List Smp) (l : List UInt8) (e : Nat) (y : Ending) (w' : World) : Prop where
  chg : Chg (fun k => k = x) w w'
  ok : e = 0 → ∃ (v : Value) (css : List (List Value)), y = .returned v ∧ OwnC w' w.heap.size css ss v ∧ RdAt w' x l
  bad : e ≠ 0 → y = .panicked (thrown (e : Nat))
structure CmAt (w wt : World) (x n : Nat) (R : List Smp × List UInt8 × Nat) (v4 v15 : Value) : Prop where
  ex : ∃ (i : Nat) (css : List (List Value)) (ss : List Smp) (l : List UInt8), i ≤ n ∧ v15 = .int .u64 i ∧ Hid (ss.length = i) ∧ l.length ≤ 100000 ∧ Hid (R = rdS (n - i) l 0 ss) ∧ RdAt wt x l ∧ OwnC wt w.heap.size css ss v4 ∧ Chg (fun k => k = x) w wt

set_option maxRecDepth 100000 in
set_option maxHeartbeats 8000000 in
theorem rcommit_any (x : Nat) (l : List UInt8) (n : Nat) (l2 l3 : List UInt8) (e3 e4 e5 : Nat) (ss : List Smp) (hl : l.length ≤ 100000) (h1 : Hid (inNum l 0 = (n, l2, e3))) (h2 : Hid (inMust e3 (decide (1 ≤ n) && decide (n ≤ 32)) 2 = e4)) (h3 : Hid (rdS n l2 e4 [] = (ss, l3, e5))) (w : World) (h : RdAt w x l) :
    Calls Tryd.prog 42 #[.pointer (some ⟨x, 0, none⟩)] w (CmOut w x ss l3 e5) := by
  obtain ⟨i1, gi, gz0, gz1, gz2⟩ := pinfo_of sinfo
  have hxw : x < w.heap.size := RowV.lt h (by simp)
  obtain ⟨n', k, e', hN⟩ : ∃ n k e, Hid (getNum l = (n, k, e)) := ⟨_, _, _, Lib.hid rfl⟩
  have RN := fun W h => rnum_any x l hl W h
  rw [hN.out] at RN
  have hz := inNum_get hN.out
  rw [h1.out] at hz
  simp only [Prod.mk.injEq] at hz
  obtain ⟨rfl, rfl, rfl⟩ := hz
  obtain ⟨hn64, hk, _, _⟩ := getNum_facts hN.out
  simp only at RN
  obtain ⟨l2, hl2⟩ : ∃ l2, Hid (l.drop k = l2) := ⟨_, Lib.hid rfl⟩
  have hl2s : l2.length ≤ 100000 := by rw [← hl2.out, List.length_drop]; omega
  rw [hl2.out] at RN h3
  have Hxw := Lib.hid hxw
  clear h1 hxw
  go_enter Tryd.func42, Tryd.ntmps42
  by_cases he : e3 = 0
  · have He := Lib.hid he
    have h42 : Hid (inMust 0 (decide (1 ≤ n) && decide (n ≤ 32)) 2 = e4) := Lib.hid (by rw [← h2.out, he])
    clear he h2
    go_upto_region 2 with (go_at_call 41; refine (RN _ h).mono ?_; rintro y w1 ⟨hc1, hok, _⟩; obtain ⟨rfl, hr1⟩ := hok He.out)
    rcases (by omega : n < 1 ∨ (1 ≤ n ∧ 32 < n) ∨ (1 ≤ n ∧ n ≤ 32)) with hn | ⟨hn, hn2⟩ | ⟨hn, hn2⟩
    · have hi : ¬ (1 : Int) ≤ (n : Int) := by omega
      have hd : decide ((1 : Int) ≤ (n : Int)) = false := decide_eq_false hi
      have he5 : Hid (e5 = 2) := Lib.hid (by
        have h4 : e4 = 2 := by rw [← h42.out, decide_eq_false (by omega)]; rfl
        have := h3.out
        rw [h4, rdS_bad (by decide)] at this
        simp only [Prod.mk.injEq] at this; omega)
      go_wp2_with (go_at_call 33; refine (rcheck_any _ _ _).mono ?_; rintro y w4 ⟨hck, rfl⟩; first | (obtain rfl := hck) | (obtain ⟨vv, rfl⟩ := hck))
      exact ⟨rfl, hc1, fun h => by have := he5.out; omega, fun _ => by rw [he5.out]; rfl⟩
    · have hi : (1 : Int) ≤ (n : Int) := by omega
      have hd : decide ((1 : Int) ≤ (n : Int)) = true := decide_eq_true hi
      have hi2 : ¬ (n : Int) ≤ 32 := by omega
      have hd2 : decide ((n : Int) ≤ 32) = false := decide_eq_false hi2
      have he5 : Hid (e5 = 2) := Lib.hid (by
        have h4 : e4 = 2 := by rw [← h42.out, decide_eq_true (show 1 ≤ n by omega), decide_eq_false (show ¬ n ≤ 32 by omega)]; rfl
        have := h3.out
        rw [h4, rdS_bad (by decide)] at this
        simp only [Prod.mk.injEq] at this; omega)
      go_wp2_with (go_at_call 33; refine (rcheck_any _ _ _).mono ?_; rintro y w4 ⟨hck, rfl⟩; first | (obtain rfl := hck) | (obtain ⟨vv, rfl⟩ := hck))
      exact ⟨rfl, hc1, fun h => by have := he5.out; omega, fun _ => by rw [he5.out]; rfl⟩
    · have hi : (1 : Int) ≤ (n : Int) := by omega
      have hd : decide ((1 : Int) ≤ (n : Int)) = true := decide_eq_true hi
      have hi2 : (n : Int) ≤ 32 := by omega
      have hd2 : decide ((n : Int) ≤ 32) = true := decide_eq_true hi2
      have hR0 : Hid ((ss, l3, e5) = rdS n l2 0 []) := Lib.hid (by
        have h4 : e4 = 0 := by rw [← h42.out, decide_eq_true (show 1 ≤ n by omega), decide_eq_true (show n ≤ 32 by omega)]; rfl
        rw [← h3.out, h4])
      clear h3 h42
      go_upto_region 5 with (go_at_call 33; refine (rcheck_any _ _ _).mono ?_; rintro y w4 ⟨hck, rfl⟩; first | (obtain rfl := hck) | (obtain ⟨vv, rfl⟩ := hck))
      go_loopw [4, 15] (fun v4 v15 wt => CmAt w wt x n (ss, l3, e5) v4 v15) (fun _ v15 _ => n - (intOf v15).toNat)
      case atStart => exact ⟨0, [], [], l2, by omega, rfl, Lib.hid rfl, hl2s, hR0, hr1, OwnC.nil _ _, hc1⟩
      case round =>
        clear hr1 hc1
        obtain ⟨i, css, sm, l, hil, rfl, hsl, hls, hR, hI, hown, hch⟩ := hrel
        by_cases hin : i < n
        · have hii : (i : Int) < (n : Int) := by omega
          obtain ⟨t, m1, d1, hT⟩ : ∃ t m1 d1, Hid (inText l 0 1024 = (t, m1, d1)) := ⟨_, _, _, Lib.hid rfl⟩
          obtain ⟨ls, d2, hL⟩ : ∃ ls d2, Hid (inLab t d1 = (ls, d2)) := ⟨_, _, Lib.hid rfl⟩
          have RL := fun W h => rlabels_any x l t m1 d1 d2 ls hls hT hL W h
          have hts := inText_size l 0 1024
          rw [hT.out] at hts
          simp only at hts
          have hm1 : m1.length ≤ 100000 := by omega
          have hlf := inLab_facts t d1
          rw [hL.out] at hlf
          simp only at hlf
          by_cases hd2z : d2 = 0
          · have Hd2 := Lib.hid hd2z
            obtain ⟨nz, kz, d3, hS⟩ : ∃ n k e, Hid (getNum m1 = (n, k, e)) := ⟨_, _, _, Lib.hid rfl⟩
            have RS := fun W h => rsigned_any x m1 hm1 W h
            rw [hS.out] at RS
            simp only at RS
            have hz64 := (getNum_facts hS.out).1
            have hzr := zag_rng nz hz64
            obtain ⟨m2, hm2⟩ : ∃ m2, Hid (m1.drop kz = m2) := ⟨_, Lib.hid rfl⟩
            have hm2l : m2.length ≤ 100000 := by rw [← hm2.out, List.length_drop]; omega
            obtain ⟨Z, hZ⟩ : ∃ Z, Hid (zag nz = Z) := ⟨_, Lib.hid rfl⟩
            rw [hm2.out, hZ.out] at RS
            rw [hZ.out] at hzr
            have hS2 := inSig_ok hS.out
            rw [hm2.out, hZ.out] at hS2
            by_cases hd3z : d3 = 0
            · have Hd3 := Lib.hid hd3z
              obtain ⟨nv, kv, d4, hV⟩ : ∃ n k e, Hid (getNum m2 = (n, k, e)) := ⟨_, _, _, Lib.hid rfl⟩
              have RV := fun W h => rnum_any x m2 hm2l W h
              rw [hV.out] at RV
              simp only at RV
              have hv64 := (getNum_facts hV.out).1
              obtain ⟨m3, hm3⟩ : ∃ m3, Hid (m2.drop kv = m3) := ⟨_, Lib.hid rfl⟩
              have hm3l : m3.length ≤ 100000 := by rw [← hm3.out, List.length_drop]; omega
              have hV2 := inNum_get hV.out
              rw [hm3.out] at RV hV2
              have hR2 : Hid ((ss, l3, e5) = rdS (n - (i + 1)) m3 d4 (sm ++ [(ls, Z, nv)])) := Lib.hid (by
                rw [hR.out, show n - i = (n - (i + 1)) + 1 from by omega]
                exact rdS_succ hT.out hL.out (by rw [hd2z]; exact hS2) (by rw [hd3z]; exact hV2))
              have HV := Lib.hid hV2
              clear hV2 hS2 hd2z hd3z hts
              by_cases hd4z : d4 = 0
              · have Hd4 := Lib.hid hd4z
                clear hd4z
                have hlt4 := Lib.hid (fun g hg => owns_ltR hown.own (g := g) hg)
                have hlow4 := Lib.hid hown.low
                go_wp2_with (first
                  | (go_at_call 62; refine (RL _ hI).mono ?_; rintro y w2 ⟨hc2, hok2, _⟩; obtain ⟨la, ln, lc, rfl, hq2, hln2, hcap2, hlow2, hI2⟩ := hok2 Hd2.out; clear RL)
                  | (go_at_call 45; refine (RS _ hI2).mono ?_; rintro y w3 ⟨hc3, hok3, _⟩; obtain ⟨rfl, hI3⟩ := hok3 Hd3.out; clear RS)
                  | (go_at_call 41; refine (RV _ hI3).mono ?_; rintro y w5 ⟨hc5, hok5, _⟩; obtain ⟨rfl, hI5⟩ := hok5 Hd4.out; have hc35 := hc3.trans hc5 (fun _ _ x => x); have hc25 := hc2.trans hc35 (fun _ _ x => x); have hown5 := hown.other hc25 Hxw.out; have ho5 := hown5.own; rw [hsl.out] at ho5; clear RV)
                  | (at_builtin; refine wpList_append_fp rfl _ _ 22 rfl 0 43 i1 (.agg #[.slice none 0 0, .int .i64 0, .int .u64 0]) 3 40 Tryd.underlying22 gi gz0 gz1 gz2 rfl (by decide) _ _ _ rfl (ho5.alloc _) ⟨_, 0, none⟩ 1 1 [.slice la ln lc, .int .i64 Z, .int .u64 (nv : Nat)] rfl rfl ?c1 ?c2 ?c3 ?c4 ?c5 ?_))
                case c1 =>
                  intro j u hu
                  match j, hu with
                  | 0, hu => simp at hu; subst hu; simp [Addr.add]
                  | 1, hu => simp at hu; subst hu; simp [Addr.add]
                  | 2, hu => simp at hu; subst hu; simp [Addr.add]
                  | j + 3, hu => simp at hu
                case c2 => intro u hu; simp at hu; rcases hu with rfl | rfl | rfl <;> rfl
                case c3 => unfold maxLen; omega
                case c4 => omega
                case c5 => exact Nat.zero_le _
                intro v2 w7 ho hgr _ hbk
                have hwr := hch.size
                have hq5 : RowQ w5 la ls := hq2.keep hc35 (fun ad e f => by have h1 := hlow2 ad e; have h2 : ad.block = x := f; have := Hxw.out; omega)
                have hca : Chg (fun _ => False) w5 (w5.alloc (.cells #[.slice la ln lc, .int .i64 Z, .int .u64 (nv : Nat)] 43)) := Chg.alloc _ _ _
                have hA : isSmA u4 w5 [.slice la ln lc, .int .i64 Z, .int .u64 (nv : Nat)] (ls, Z, nv) := ⟨la, ln, lc, rfl, hq5, hln2, hcap2, by have h1 := hlf.1; omega, fun p hp => by have := hlf.2 p hp; omega, hzr, hv64, fun _ ad e f => by have h1 := hlt4.out _ f; have h2 := hlow2 ad e; omega⟩
                have hlab : ∀ (ad : Addr) (m d : Nat), (ls, Z, nv).1 ≠ [] → [Value.slice la ln lc, .int .i64 Z, .int .u64 (nv : Nat)][0]? = some (.slice (some ad) m d) → w.heap.size ≤ ad.block := fun ad m d _ e => by
                  have e2 : Value.slice la ln lc = .slice (some ad) m d := Option.some.inj e
                  cases e2
                  have h1 := hlow2 ad rfl; omega
                have hown7 := hown5.push (wa := w5.alloc (.cells #[.slice la ln lc, .int .i64 Z, .int .u64 (nv : Nat)] 43)) hA hlab (by have := hc25.size; omega) hca hgr (by simpa using hbk) (by rw [hsl.out]; exact ho)
                have hch57 : Chg (fun k => some k = u4.ownBlock) w5 w7 := (hca.mono (fun _ _ x => x.elim)).trans (Chg.grown hgr) (fun _ _ x => x)
                have hI7 : RdAt w7 x m3 := RowV.keep hI5 hch57 (fun e => by have h1 := hlow4.out x e.symm; have := Hxw.out; omega)
                have hch7 : Chg (fun k => k = x) w w7 := (hch.trans hc25 (fun _ _ x => x)).trans hch57 (fun k hk e => by have h1 := hlow4.out k e.symm; omega)
                have hR3 : Hid ((ss, l3, e5) = rdS (n - (i + 1)) m3 0 (sm ++ [(ls, Z, nv)])) := Lib.hid (by rw [hR2.out, Hd4.out])
                clear ho hgr hbk hca hA hlab hch57 hown5 ho5 hq5 hq2
                go_wp2
                go_roundw
                case rel => exact ⟨i + 1, _, _, m3, by omega, by go_num, Lib.hid (by rw [List.length_append, hsl.out]; rfl), hm3l, hR3, hI7, hown7, hch7⟩
                case measure => simp [intOf]; omega
              · have Hd4 := Lib.hid hd4z
                have he5 : Hid (e5 = d4) := Lib.hid (by
                  have := hR2.out
                  rw [rdS_bad hd4z] at this
                  simp only [Prod.mk.injEq] at this; exact this.2.2)
                clear hd4z
                go_wp2_with (first
                  | (go_at_call 62; refine (RL _ hI).mono ?_; rintro y w2 ⟨hc2, hok2, _⟩; obtain ⟨la, ln, lc, rfl, hq2, hln2, hcap2, hlow2, hI2⟩ := hok2 Hd2.out; clear RL)
                  | (go_at_call 45; refine (RS _ hI2).mono ?_; rintro y w3 ⟨hc3, hok3, _⟩; obtain ⟨rfl, hI3⟩ := hok3 Hd3.out; clear RS)
                  | (go_at_call 41; refine (RV _ hI3).mono ?_; rintro y w5 ⟨hc5, _, hbad5⟩; obtain rfl := hbad5 Hd4.out; clear RV))
                exact ⟨rfl, hch.trans (hc2.trans (hc3.trans hc5 (fun _ _ x => x)) (fun _ _ x => x)) (fun _ _ x => x), fun h => by have := he5.out; have := Hd4.out; omega, fun _ => by rw [he5.out]⟩
            · have Hd3 := Lib.hid hd3z
              have he5 : Hid (e5 = d3) := Lib.hid (by
                have h9 := hR.out
                rw [show n - i = (n - (i + 1)) + 1 from by omega, rdS_succ hT.out hL.out (by rw [hd2z]; exact hS2) (inNum_bad hd3z), rdS_bad hd3z] at h9
                simp only [Prod.mk.injEq] at h9; exact h9.2.2)
              clear hd3z hd2z hS2
              go_wp2_with (first
                | (go_at_call 62; refine (RL _ hI).mono ?_; rintro y w2 ⟨hc2, hok2, _⟩; obtain ⟨la, ln, lc, rfl, hq2, hln2, hcap2, hlow2, hI2⟩ := hok2 Hd2.out; clear RL)
                | (go_at_call 45; refine (RS _ hI2).mono ?_; rintro y w3 ⟨hc3, _, hbad3⟩; obtain rfl := hbad3 Hd3.out; clear RS))
              exact ⟨rfl, hch.trans (hc2.trans hc3 (fun _ _ x => x)) (fun _ _ x => x), fun h => by have := he5.out; have := Hd3.out; omega, fun _ => by rw [he5.out]⟩
          · have Hd2 := Lib.hid hd2z
            have he5 : Hid (e5 = d2) := Lib.hid (by
              have h9 := hR.out
              rw [show n - i = (n - (i + 1)) + 1 from by omega, rdS_succ hT.out hL.out (inSig_bad hd2z) (inNum_bad hd2z), rdS_bad hd2z] at h9
              simp only [Prod.mk.injEq] at h9; exact h9.2.2)
            clear hd2z
            go_wp2_with (go_at_call 62; refine (RL _ hI).mono ?_; rintro y w2 ⟨hc2, _, hbad2⟩; obtain rfl := hbad2 Hd2.out; clear RL)
            exact ⟨rfl, hch.trans hc2 (fun _ _ x => x), fun h => by have := he5.out; have := Hd2.out; omega, fun _ => by rw [he5.out]⟩
        · obtain rfl : i = n := by omega
          have hii : ¬ (i : Int) < (i : Int) := by omega
          rw [Nat.sub_self] at hR
          have hR2 := hR.out
          unfold rdS at hR2
          simp only [Prod.mk.injEq] at hR2
          obtain ⟨rfl, rfl, rfl⟩ := hR2
          go_wp2
          go_ret
          exact ⟨hch, fun _ => ⟨_, _, rfl, hown, hI⟩, fun h => absurd rfl h⟩
  · have He := Lib.hid he
    have he5 : Hid (e5 = e3) := Lib.hid (by
      have h4 : e4 = e3 := by rw [← h2.out]; exact inMust_bad he
      have := h3.out
      rw [h4, rdS_bad he] at this
      simp only [Prod.mk.injEq] at this; omega)
    clear he h2 h3
    go_wp2_with (go_at_call 41; refine (RN _ h).mono ?_; rintro y w1 ⟨hc1, _, hbad⟩; obtain rfl := hbad He.out)
    exact ⟨rfl, hc1, fun h => by have := he5.out; have := He.out; omega, fun _ => by rw [he5.out]⟩
end Go.Proofs.YtjmcpdhfefcdgaaDoor
