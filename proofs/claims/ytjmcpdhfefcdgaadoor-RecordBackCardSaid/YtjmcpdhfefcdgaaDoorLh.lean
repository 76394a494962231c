/- Labels read by the program. -/
import Derived.Test.YtjmcpdhfefcdgaaDoorLg
import Derived.Handy
import Derived.Deep.RegionHeld3
namespace Go.Proofs.YtjmcpdhfefcdgaaDoor
open Go.RowKit Lb Dig Inn

namespace Lb
def zeroP (k : Nat) : List Value := List.replicate (2 * k) (.string { data := #[] })
theorem encP_set (ps : List Pr) (k : Nat) (t u : ByteArray) :
    ((encP ps ++ zeroP (k + 1)).set (ps.length * 2) (.string t)).set (ps.length * 2 + 1) (.string u) = encP (ps ++ [(t, u)]) ++ zeroP k := by
  have h1 : zeroP (k + 1) = .string { data := #[] } :: .string { data := #[] } :: zeroP k := by
    unfold zeroP; rw [show 2 * (k + 1) = 2 * k + 1 + 1 from by omega, List.replicate_succ, List.replicate_succ]
  have h2 := encP_len ps
  rw [h1, encP_snoc, List.set_append_right _ _ (by omega), h2, Nat.sub_self, List.set_cons_zero, List.set_append_right _ _ (by omega), h2, Nat.add_sub_cancel_left, List.set_cons_succ, List.set_cons_zero]
  simp
end Lb
theorem make_pairs (n : Nat) (h1 : 1 ≤ n) (h8 : n ≤ 8) (W : World) : (Instr.makeSlice 40 (.int .u64 (n : Int)) (.int .u64 (n : Int))).run Tryd.prog W = .ok (.slice (some ⟨W.heap.size, 0, none⟩) n n) (W.alloc (.cells (zeroP n).toArray 47)) := by
  rcases (by omega : n = 1 ∨ n = 2 ∨ n = 3 ∨ n = 4 ∨ n = 5 ∨ n = 6 ∨ n = 7 ∨ n = 8) with rfl | rfl | rfl | rfl | rfl | rfl | rfl | rfl <;> kernel_rfl
theorem extract_rest (s : ByteArray) (k : Nat) (hk : k ≤ s.size) : s.extract k s.size = mkS (s.data.toList.drop k) := by
  have h := extract_mkS s k (s.size - k)
  rw [show k + (s.size - k) = s.size from by omega] at h
  rw [h, List.take_of_length_le (by rw [List.length_drop, ← size_toList]; omega)]

set_option maxRecDepth 100000 in
set_option maxHeartbeats 4000000 in
theorem ldecode2_any (s : ByteArray) (hs : s.size ≤ 100000) (w : World) :
    Calls Tryd.prog 71 #[.string s] w (LdOut2 w (decL s.data.toList)) := by
  obtain ⟨D, hD⟩ : ∃ D, Hid (decL s.data.toList = D) := ⟨_, Lib.hid rfl⟩
  rw [hD.out]
  obtain ⟨n, k, e1, hN⟩ : ∃ n k e1, Hid (getNum s.data.toList = (n, k, e1)) := ⟨_, _, _, Lib.hid rfl⟩
  have GN := fun W => getnum_eq s (by omega) hN W
  obtain ⟨hn64, hk, _, _⟩ := getNum_facts hN.out
  rw [← size_toList] at hk
  have hki : (k : Int) ≤ (s.size : Int) := by omega
  have hD1 : Hid (D = finD (rdD n (s.data.toList.drop k) (inMust e1 (decide (1 ≤ n) && decide (n ≤ 8)) 16) [])) := Lib.hid (by
    rw [← hD.out]; unfold decL inNum; rw [if_neg (by omega), hN.out])
  have hx0 := extract_rest s k hk
  obtain ⟨l1, hl1⟩ : ∃ l, Hid (s.data.toList.drop k = l) := ⟨_, Lib.hid rfl⟩
  have hll : l1.length ≤ 100000 := by rw [← hl1.out, List.length_drop, ← size_toList]; omega
  rw [hl1.out] at hx0 hD1
  go_enter Tryd.func71, Tryd.ntmps71
  by_cases he : e1 = 0
  · have hei : (e1 : Int) = 0 := by omega
    rcases (by omega : n < 1 ∨ (¬ n < 1 ∧ 8 < n) ∨ (¬ n < 1 ∧ ¬ 8 < n)) with h | ⟨h, h8⟩ | ⟨h, h8⟩
    · have hi1 : (n : Int) < 1 := by omega
      have hD2 : D = ([], 16) := by
        rw [hD1.out, he, decide_eq_false (by omega)]
        rw [show inMust 0 (false && decide (n ≤ 8)) 16 = 16 from rfl, rdD_bad (by decide)]; rfl
      subst hD2
      go_wp2_with (go_at_call 61; refine (GN _).mono ?_; rintro y w1 ⟨rfl, hb1⟩)
      go_ret2
      exact ⟨_, _, _, rfl, ⟨.inl rfl⟩, rfl, hb1, ⟨fun _ => rfl, Nat.le_refl _⟩, fun ad h => by cases h⟩
    · have hi1 : ¬ (n : Int) < 1 := by omega
      have hi8 : (8 : Int) < (n : Int) := by omega
      have hD2 : D = ([], 16) := by
        rw [hD1.out, he, decide_eq_true (show 1 ≤ n by omega), decide_eq_false (show ¬ n ≤ 8 by omega)]
        rw [show inMust 0 (true && false) 16 = 16 from rfl, rdD_bad (by decide)]; rfl
      subst hD2
      go_wp2_with (go_at_call 61; refine (GN _).mono ?_; rintro y w1 ⟨rfl, hb1⟩)
      go_ret2
      exact ⟨_, _, _, rfl, ⟨.inl rfl⟩, rfl, hb1, ⟨fun _ => rfl, Nat.le_refl _⟩, fun ad h => by cases h⟩
    · have hi1 : ¬ (n : Int) < 1 := by omega
      have hi8 : ¬ (8 : Int) < (n : Int) := by omega
      have hD2 : Hid (D = finD (rdD n l1 0 [])) := Lib.hid (by
        rw [hD1.out, he, decide_eq_true (show 1 ≤ n by omega), decide_eq_true (show n ≤ 8 by omega)]; rfl)
      have MK := fun W => make_pairs n (by omega) (by omega) W
      go_upto_region 9 with (go_at_call 61; refine (GN _).mono ?_; rintro y w1 ⟨rfl, hb1⟩)
      have hx1 := RowV.new w1 (zeroP n) 47
      have hba : Below w1.heap.size w1 (w1.alloc (.cells (zeroP n).toArray 47)) := (Below.refl _ _).alloc (Nat.le_refl _) _
      obtain ⟨W2, hW2⟩ : ∃ W2, Hid (W2 = w1.alloc (.cells (zeroP n).toArray 47)) := ⟨_, Lib.hid rfl⟩
      obtain ⟨g, hg⟩ : ∃ g, Hid (g = w1.heap.size) := ⟨_, Lib.hid rfl⟩
      rw [← hW2.out] at hx1 hba ⊢
      rw [← hg.out] at hx1 ⊢
      have hbel2 := below_tr hb1 hba
      have hgw : w.heap.size ≤ g := by have := hb1.size; have := hg.out; omega
      clear MK GN hba
      go_loopw [0, 39] (fun v0 v39 wt => ∃ (i : Nat) (ps : List Pr) (l : List UInt8), i ≤ n ∧ v39 = .int .i64 i ∧ v0 = .string (mkS l) ∧ Hid (ps.length = i) ∧ l.length ≤ 100000 ∧ Hid (D = finD (rdD (n - i) l 0 ps)) ∧ RowV wt g (encP ps ++ zeroP (n - i)) ∧ Hid (∀ p ∈ ps, p.1.size ≤ 100000 ∧ p.2.size ≤ 100000) ∧ Below w.heap.size w wt) (fun _ v39 _ => n - (intOf v39).toNat)
      case atStart => exact ⟨0, [], l1, by omega, rfl, rfl, Lib.hid rfl, hll, hD2, by simpa [encP] using hx1, Lib.hid (fun p hp => by simp at hp), hbel2⟩
      case round =>
        clear hx1 hbel2
        obtain ⟨i, ps, l, hil, rfl, rfl, hps, hl5, hR, hX, hsz, hbel⟩ := hrel
        by_cases hin : i < n
        · have hii : (i : Int) < (n : Int) := by omega
          obtain ⟨X, hXX⟩ : ∃ X, Hid (encP ps ++ zeroP (n - i) = X) := ⟨_, Lib.hid rfl⟩
          rw [hXX.out] at hX
          have hXl : X.length = n * 2 := by
            rw [← hXX.out, List.length_append, encP_len, hps.out]; simp [zeroP]; omega
          go_upto_region 11 with (fail)
          go_region
          have hq0 := RowV.new wr [.pointer (some ⟨g, i * 2, none⟩), .int .i64 32, .pointer (some ⟨g, i * 2 + 1, none⟩), .int .i64 64] 112
          have hba : Below wr.heap.size wr (wr.alloc (.cells #[.pointer (some ⟨g, i * 2, none⟩), .int .i64 32, .pointer (some ⟨g, i * 2 + 1, none⟩), .int .i64 64] 112)) := (Below.refl _ _).alloc (Nat.le_refl _) _
          obtain ⟨W3, hW3⟩ : ∃ W3, Hid (W3 = (wr.alloc (.cells #[.pointer (some ⟨g, i * 2, none⟩), .int .i64 32, .pointer (some ⟨g, i * 2 + 1, none⟩), .int .i64 64] 112)).drew) := ⟨_, Lib.hid rfl⟩
          obtain ⟨q, hq⟩ : ∃ q, Hid (q = wr.heap.size) := ⟨_, Lib.hid rfl⟩
          have hq3 : RowV W3 q [.pointer (some ⟨g, i * 2, none⟩), .int .i64 32, .pointer (some ⟨g, i * 2 + 1, none⟩), .int .i64 64] := by rw [hW3.out, hq.out]; exact hq0
          have hb3 : Below wr.heap.size wr W3 := by rw [hW3.out]; exact hba.trans ⟨rfl, rfl, rfl, Nat.le_refl _, fun _ _ => rfl⟩
          have hX3 := hX.below hb3
          have hbel3 := below_tr hbel hb3
          have hqg : g < q := by rw [hq.out]; exact hX.lt (by omega)
          rw [← hW3.out, ← hq.out]
          clear hq0 hba hX hb3 hbel hW3
          obtain ⟨a0, a1, a2, a3⟩ := (⟨(hq3 0 _ rfl).1, (hq3 1 _ rfl).1, (hq3 2 _ rfl).1, (hq3 3 _ rfl).1⟩ : _ ∧ _ ∧ _ ∧ _)
          obtain ⟨t, k1, e3, hT1⟩ : ∃ t l' e', Hid (getText (mkS l).data.toList 32 = (t, l', e')) := ⟨_, _, _, Lib.hid rfl⟩
          have GT1 := fun W => gettext_eq (mkS l) (by rw [mkS_size]; omega) 32 (by omega) (by omega) hT1 W
          go_wp2
          refine wp_loop_rounds 3 ?_
          rw [rounds_succ]
          go_upto_region 15 with (go_at_call 70; refine (GT1 _).mono ?_; rintro y w4 ⟨rfl, hb4⟩)
          have hbx : Below W3.heap.size W3 (W3.alloc (.cells #[.pointer (some ⟨g, i * 2, none⟩), .int .i64 32] 112)) := (Below.refl _ _).alloc (Nat.le_refl _) _
          have hv4 := (RowV.new W3 [.pointer (some ⟨g, i * 2, none⟩), .int .i64 32] 112).below hb4
          have hb34 := below_tr hbx hb4
          have hq4 := hq3.below hb34
          have hX4 := hX3.below hb34
          have hbel4 := below_tr hbel3 hb34
          have v40 := (hv4 0 _ rfl).1
          have hT1' : Hid (inText l 0 32 = (t, l.drop k1, e3)) := Lib.hid (by
            have h := hT1.out
            rw [mkS_data] at h
            unfold inText; rw [if_neg (by omega), h])
          have hk1 : k1 ≤ (mkS l).size := by
            have h := hT1.out
            rw [mkS_data] at h
            rw [mkS_size]; exact (getText_facts h).1
          clear hb4 hbx hb34 hq3 hX3 hbel3 a0 a1 a2 a3 hv4 GT1
          by_cases he3 : e3 = 0
          · have he3i : (e3 : Int) = 0 := by omega
            obtain ⟨z0, hz0⟩ : ∃ z, X[i * 2]? = some z := ⟨_, List.getElem?_eq_getElem (by omega)⟩
            obtain ⟨x0, f0⟩ := hX4 _ _ hz0
            have hk1i : (k1 : Int) ≤ ((mkS l).size : Int) := by omega
            have hex := extract_rest (mkS l) k1 hk1
            rw [mkS_data] at hex
            obtain ⟨l2, hl2⟩ : ∃ l2, Hid (l.drop k1 = l2) := ⟨_, Lib.hid rfl⟩
            rw [hl2.out] at hex hT1'
            have hl25 : l2.length ≤ 100000 := by rw [← hl2.out, List.length_drop]; omega
            go_wp2
            go_region
            have hcs := Chg.setCell w4 ⟨g, i * 2, none⟩ (.string (mkS t))
            have hX5 := hX4.set (i * 2) (by omega) (.string (mkS t))
            have hq5 := hq4.keep hcs (by simp only; omega)
            have hbel5 := Chg.below_tr hbel4 hcs (fun k hk e => by simp only at e; omega)
            obtain ⟨W5, hW5⟩ : ∃ W5, Hid (W5 = (w4.setCell ⟨g, i * 2, none⟩ (.string (mkS t))).drew) := ⟨_, Lib.hid rfl⟩
            have hX6 : RowV W5 g (X.set (i * 2) (.string (mkS t))) := by rw [hW5.out]; exact hX5
            have hq6 : RowV W5 q [.pointer (some ⟨g, i * 2, none⟩), .int .i64 32, .pointer (some ⟨g, i * 2 + 1, none⟩), .int .i64 64] := by rw [hW5.out]; exact hq5
            have hbel6 : Below w.heap.size w W5 := by rw [hW5.out]; exact hbel5.trans ⟨rfl, rfl, rfl, Nat.le_refl _, fun _ _ => rfl⟩
            rw [← hW5.out]
            clear hX4 hX5 hq4 hq5 hbel4 hbel5 hcs v40 x0 f0 hz0 hW5
            obtain ⟨a0, a1, a2, a3⟩ := (⟨(hq6 0 _ rfl).1, (hq6 1 _ rfl).1, (hq6 2 _ rfl).1, (hq6 3 _ rfl).1⟩ : _ ∧ _ ∧ _ ∧ _)
            obtain ⟨u, k2, e4, hT2⟩ : ∃ t l' e', Hid (getText (mkS l2).data.toList 64 = (t, l', e')) := ⟨_, _, _, Lib.hid rfl⟩
            have GT2 := fun W => gettext_eq (mkS l2) (by rw [mkS_size]; omega) 64 (by omega) (by omega) hT2 W
            go_wp2
            rw [rounds_succ]
            go_upto_region 15 with (go_at_call 70; refine (GT2 _).mono ?_; rintro y w7 ⟨rfl, hb7⟩)
            have hbx : Below W5.heap.size W5 (W5.alloc (.cells #[.pointer (some ⟨g, i * 2 + 1, none⟩), .int .i64 64] 112)) := (Below.refl _ _).alloc (Nat.le_refl _) _
            have hv7 := (RowV.new W5 [.pointer (some ⟨g, i * 2 + 1, none⟩), .int .i64 64] 112).below hb7
            have hb57 := below_tr hbx hb7
            have hX7 := hX6.below hb57
            have hbel7 := below_tr hbel6 hb57
            have v70 := (hv7 0 _ rfl).1
            have hT2' : Hid (inText l2 e3 64 = (u, l2.drop k2, e4)) := Lib.hid (by
              have h := hT2.out
              rw [mkS_data] at h
              unfold inText; rw [if_neg (by omega), h])
            have hk2 : k2 ≤ (mkS l2).size := by
              have h := hT2.out
              rw [mkS_data] at h
              rw [mkS_size]; exact (getText_facts h).1
            clear hb7 hbx hb57 hq6 hX6 hbel6 a0 a1 a2 a3 hv7 GT2
            have hR2 : Hid (D = finD (rdD (n - (i + 1)) (l2.drop k2) e4 (ps ++ [(mkS t, mkS u)]))) := Lib.hid (by
              rw [hR.out, show n - i = (n - (i + 1)) + 1 from by omega, rdD_succ hT1'.out hT2'.out])
            by_cases he4 : e4 = 0
            · have he4i : (e4 : Int) = 0 := by omega
              obtain ⟨z1, hz1⟩ : ∃ z, (X.set (i * 2) (.string (mkS t)))[i * 2 + 1]? = some z := ⟨_, List.getElem?_eq_getElem (by rw [List.length_set]; omega)⟩
              obtain ⟨x1, f1⟩ := hX7 _ _ hz1
              have hk2i : (k2 : Int) ≤ ((mkS l2).size : Int) := by omega
              have hex2 := extract_rest (mkS l2) k2 hk2
              rw [mkS_data] at hex2
              obtain ⟨l3, hl3⟩ : ∃ l3, Hid (l2.drop k2 = l3) := ⟨_, Lib.hid rfl⟩
              rw [hl3.out] at hex2 hT2' hR2
              have hl35 : l3.length ≤ 100000 := by rw [← hl3.out, List.length_drop]; omega
              go_wp2
              go_region
              have hcs := Chg.setCell w7 ⟨g, i * 2 + 1, none⟩ (.string (mkS u))
              have hX8 := hX7.set (i * 2 + 1) (by rw [List.length_set]; omega) (.string (mkS u))
              have hbel8 := Chg.below_tr hbel7 hcs (fun k hk e => by simp only at e; omega)
              have hbel9 : Below w.heap.size w (w7.setCell ⟨g, i * 2 + 1, none⟩ (.string (mkS u))).drew := hbel8.trans ⟨rfl, rfl, rfl, Nat.le_refl _, fun _ _ => rfl⟩
              have hX9 : RowV (w7.setCell ⟨g, i * 2 + 1, none⟩ (.string (mkS u))).drew g (encP (ps ++ [(mkS t, mkS u)]) ++ zeroP (n - (i + 1))) := by
                rw [← encP_set, hps.out, ← show n - i = n - (i + 1) + 1 from by omega, hXX.out]; exact hX8
              have hsz9 : Hid (∀ p ∈ ps ++ [(mkS t, mkS u)], p.1.size ≤ 100000 ∧ p.2.size ≤ 100000) := Lib.hid (fun p hp => by
                rcases List.mem_append.mp hp with h | h
                · exact hsz.out p h
                · simp at h; subst h
                  have s1 := inText_size l 0 32
                  have s2 := inText_size l2 e3 64
                  rw [hT1'.out] at s1
                  rw [hT2'.out] at s2
                  simp only [mkS_size] at s1 s2 ⊢; omega)
              clear hX7 hX8 hbel7 hbel8 hcs v70 x1 f1 hz1
              go_wp2
              rw [rounds_succ]
              go_wp2
              go_roundw
              case rel => exact ⟨i + 1, _, l3, by omega, by go_num, rfl, Lib.hid (by rw [List.length_append, hps.out]; rfl), hl35, Lib.hid (by rw [hR2.out, he4]), hX9, hsz9, hbel9⟩
              case measure => simp [intOf]; omega
            · have he4i : ¬ (e4 : Int) = 0 := by omega
              have hD3 : D = ([], e4) := by
                rw [hR2.out, rdD_bad he4]
                unfold finD; simp [he4]
              subst hD3
              go_wp2
              go_ret2
              exact ⟨_, _, _, rfl, ⟨.inl rfl⟩, rfl, hbel7, ⟨fun _ => rfl, Nat.le_refl _⟩, fun ad h => by cases h⟩
          · have he3i : ¬ (e3 : Int) = 0 := by omega
            have hD3 : D = ([], e3) := by
              rw [hR.out, show n - i = (n - i - 1) + 1 from by omega, rdD_succ hT1'.out (show inText (l.drop k1) e3 64 = ([], l.drop k1, e3) from by unfold inText; rw [if_pos he3]), rdD_bad he3]
              unfold finD; simp [he3]
            subst hD3
            go_wp2
            go_ret2
            exact ⟨_, _, _, rfl, ⟨.inl rfl⟩, rfl, hbel4, ⟨fun _ => rfl, Nat.le_refl _⟩, fun ad h => by cases h⟩
        · obtain rfl : i = n := by omega
          have hii : ¬ (i : Int) < (i : Int) := by omega
          have hR2 : Hid (D = if l ≠ [] then ([], 6) else if chkL ps ≠ 0 then ([], 16) else (ps, 0)) := Lib.hid (by
            rw [hR.out, Nat.sub_self]; unfold rdD finD; simp)
          have hq9 : RowQ wr (some ⟨g, 0, none⟩) ps := ⟨.inr ⟨_, rfl, fun j p hp => by
            obtain ⟨h1, h2⟩ := encP_get ps j p hp
            obtain ⟨hj, _⟩ := List.getElem?_eq_some_iff.mp hp
            have h1' := hX (j * 2) _ (by rw [List.getElem?_append_left (by rw [encP_len]; omega)]; exact h1)
            have h2' := hX (j * 2 + 1) _ (by rw [List.getElem?_append_left (by rw [encP_len]; omega)]; exact h2)
            have ha : (⟨g, 0, none⟩ : Addr).add (j * 2) = ⟨g, j * 2, none⟩ := by unfold Addr.add; split <;> simp_all
            rw [ha]
            exact ⟨h1'.1, h2'.1⟩⟩⟩
          by_cases hl : l = []
          · have hemp : (mkS l).toList.isEmpty = true := by rw [ByteArray.toList_eq, mkS_data, hl]; rfl
            have CK := fun W h => lcheck_any ps (some ⟨g, 0, none⟩) i i hps.out (by omega) (fun p hp => by have := hsz.out p hp; omega) W h
            obtain ⟨C, hC⟩ : ∃ b, Hid (chkL ps = b) := ⟨_, Lib.hid rfl⟩
            have Hl := Lib.hid hl
            clear hl
            rw [hC.out] at CK
            by_cases hC0 : C = 0
            · have hCi : (C : Int) = 0 := by omega
              have hD3 : D = (ps, 0) := by rw [hR2.out, if_neg (by simp [Hl.out]), if_neg (by rw [hC.out]; simp [hC0])]
              subst hD3
              go_wp2_with (go_at_call 34; refine (CK _ hq9).mono ?_; rintro y w4 ⟨rfl, hb4⟩)
              go_ret2
              exact ⟨_, _, _, rfl, hq9.below hb4, hps.out, below_tr hbel hb4, ⟨fun h => (by cases h), Nat.le_refl _⟩, fun ad h => (by cases h; exact hgw)⟩
            · have hCi : ¬ (C : Int) = 0 := by omega
              have hC16 : C = 16 := by rw [← hC.out] at hC0 ⊢; unfold chkL at hC0 ⊢; split at hC0 <;> simp_all
              have hD3 : D = ([], 16) := by rw [hR2.out, if_neg (by simp [Hl.out]), if_pos (by rw [hC.out]; exact hC0)]
              subst hD3
              go_wp2_with (go_at_call 34; refine (CK _ hq9).mono ?_; rintro y w4 ⟨rfl, hb4⟩)
              go_ret2
              exact ⟨_, _, _, rfl, ⟨.inl rfl⟩, rfl, below_tr hbel hb4, ⟨fun _ => rfl, Nat.le_refl _⟩, fun ad h => by cases h⟩
          · have hemp : (mkS l).toList.isEmpty = false := by
              rw [ByteArray.toList_eq, mkS_data]
              cases l with
              | nil => exact absurd rfl hl
              | cons a l => rfl
            have hD3 : D = ([], 6) := by rw [hR2.out, if_pos hl]
            subst hD3
            go_wp2
            go_ret2
            exact ⟨_, _, _, rfl, ⟨.inl rfl⟩, rfl, hbel, ⟨fun _ => rfl, Nat.le_refl _⟩, fun ad h => by cases h⟩
  · have hei : ¬ (e1 : Int) = 0 := by omega
    have hD2 : D = ([], e1) := by
      rw [hD1.out, show inMust e1 (decide (1 ≤ n) && decide (n ≤ 8)) 16 = e1 from by unfold inMust; rw [if_neg (fun h => he h.1)], rdD_bad he]
      unfold finD; simp [he]
    subst hD2
    go_wp2_with (go_at_call 61; refine (GN _).mono ?_; rintro y w1 ⟨rfl, hb1⟩)
    go_ret2
    exact ⟨_, _, _, rfl, ⟨.inl rfl⟩, rfl, hb1, ⟨fun _ => rfl, Nat.le_refl _⟩, fun ad h => by cases h⟩
theorem ldecode_any (s : ByteArray) (hs : s.size ≤ 100000) (w : World) :
    Calls Tryd.prog 71 #[.string s] w (LdOut w (decL s.data.toList)) :=
  (ldecode2_any s hs w).mono fun _ _ h => by obtain ⟨a, n, c, h1, h2, h3, h4, _⟩ := h; exact ⟨a, n, c, h1, h2, h3, h4⟩
end Go.Proofs.YtjmcpdhfefcdgaaDoor
