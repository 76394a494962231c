/- Matchers got by the program. -/
import Derived.Test.YtjmcpdhfefcdgaaDoorMi
namespace Go.Proofs.YtjmcpdhfefcdgaaDoor
open Go.RowKit Lb Dig Inn

namespace Lb
def finM (s : List UInt8) (r : List Mt × List UInt8 × Nat) : List Mt × Nat × Nat := if (if r.2.2 = 0 then chkM r.1 else r.2.2) ≠ 0 then ([], 0, if r.2.2 = 0 then chkM r.1 else r.2.2) else (r.1, s.length - r.2.1.length, 0)
theorem getM_fin {s : List UInt8} {n e1 e2 : Nat} {l1 : List UInt8} (h1 : inNum s 0 = (n, l1, e1)) (h2 : inMust e1 (decide (n ≤ 8)) 8 = e2) : getM s = finM s (rdM n l1 e2 []) := by
  rcases h3 : rdM n l1 e2 [] with ⟨ms, l2, e3⟩
  have ht := takeM_eq h1 h2 h3
  unfold getM finM
  rw [ht]
theorem finM_bad {s : List UInt8} {r : List Mt × List UInt8 × Nat} {e : Nat} (h : r.2.2 = e) (he : e ≠ 0) : finM s r = ([], 0, e) := by
  unfold finM
  rw [h, if_neg he, if_pos he]
end Lb
structure MgAt (w wt : World) (s : ByteArray) (n : Nat) (D : List Mt × Nat × Nat) (v6 v8 v27 : Value) : Prop where
  ex : ∃ (i : Nat) (ms : List Mt) (K : Nat), i ≤ n ∧ v27 = .int .u64 i ∧ v6 = .int .i64 K ∧ K ≤ s.size ∧ Hid (ms.length = i) ∧ Hid (D = finM s.data.toList (rdM (n - i) (s.data.toList.drop K) 0 ms)) ∧ wt.ownsRow 0 88 3 v8 i (encR mtC ms) ∧ Hid (∀ g, v8.ownBlock = some g → w.heap.size ≤ g) ∧ Hid (∀ m ∈ ms, (Lit.int .i64 m.1).wf = true ∧ m.2.1.size ≤ 100000 ∧ m.2.2.size ≤ 100000) ∧ Below w.heap.size w wt

set_option maxRecDepth 100000 in
set_option maxHeartbeats 4000000 in
theorem mget2_any (s : ByteArray) (hs : s.size ≤ 100000) (w : World) :
    Calls Tryd.prog 43 #[.string s] w (MgOut2 w (getM s.data.toList)) := by
  obtain ⟨i0, hi, hz0, hz1, hz2⟩ := pinfo_of minfo
  obtain ⟨D, hD⟩ : ∃ D, Hid (getM s.data.toList = D) := ⟨_, Lib.hid rfl⟩
  rw [hD.out]
  obtain ⟨n, k1, e1, hN⟩ : ∃ n k e1, Hid (getNum s.data.toList = (n, k, e1)) := ⟨_, _, _, Lib.hid rfl⟩
  have GN := fun W => getnum_eq s (by omega) hN W
  obtain ⟨hn64, hk1, _, _⟩ := getNum_facts hN.out
  rw [← size_toList] at hk1
  have hi0 : Hid (inNum s.data.toList 0 = (n, s.data.toList.drop k1, e1)) := Lib.hid (by unfold inNum; rw [if_neg (by omega), hN.out])
  go_enter Tryd.func43, Tryd.ntmps43
  by_cases he1 : e1 = 0
  · subst he1
    by_cases h8 : 8 < n
    · have h8i : (8 : Int) < (n : Int) := by omega
      have hD2 : D = ([], 0, 8) := by
        rw [← hD.out, getM_fin hi0.out (show inMust 0 (decide (n ≤ 8)) 8 = 8 from by rw [decide_eq_false (by omega)]; rfl), rdM_bad (by decide)]
        exact finM_bad rfl (by decide)
      subst hD2
      go_wp2_with (go_at_call 61; refine (GN _).mono ?_; rintro y w2 ⟨rfl, hb2⟩)
      go_ret3
      exact ⟨_, _, _, rfl, .inl rfl, rfl, hb2, ⟨fun _ => rfl, Nat.le_refl _⟩, fun ad h => by cases h⟩
    · have h8i : ¬ (8 : Int) < (n : Int) := by omega
      have hD2 : Hid (D = finM s.data.toList (rdM n (s.data.toList.drop k1) 0 [])) := Lib.hid (by
        rw [← hD.out]
        exact getM_fin hi0.out (by rw [decide_eq_true (by omega)]; rfl))
      go_upto_region 8 with (go_at_call 61; refine (GN _).mono ?_; rintro y w2 ⟨rfl, hb2⟩; clear GN)
      go_loopw [6, 8, 27] (fun v6 v8 v27 wt => MgAt w wt s n D v6 v8 v27) (fun _ _ v27 _ => n - (intOf v27).toNat)
      case atStart => exact ⟨0, [], k1, by omega, rfl, rfl, hk1, Lib.hid rfl, hD2, World.ownsRow_nil _ _ _ _, Lib.hid (fun g hg => by simp [Value.ownBlock] at hg), Lib.hid (fun p hp => by simp at hp), hb2⟩
      case round =>
        clear hb2
        obtain ⟨i, ms, K, hil, rfl, rfl, hK, hps, hR, hown, hfr, hsz, hbel⟩ := hrel
        have hKi : (K : Int) ≤ (s.size : Int) := by omega
        by_cases hin : i < n
        · have hii : (i : Int) < (n : Int) := by omega
          obtain ⟨l, hl⟩ : ∃ l, Hid (s.data.toList.drop K = l) := ⟨_, Lib.hid rfl⟩
          have hex := extract_rest s K hK
          rw [hl.out] at hex hR
          have hll : l.length ≤ 100000 ∧ l.length + K = s.size := by
            have h1 := congrArg List.length hl.out
            rw [List.length_drop, ← size_toList] at h1
            omega
          obtain ⟨kz, nm, v, k, e, hO⟩ : ∃ kz nm v k e, Hid (oneM (mkS l).data.toList = ((kz, nm, v), k, e)) := ⟨_, _, _, _, _, Lib.hid rfl⟩
          have ON := fun W => one_any (mkS l) (by rw [mkS_size]; omega) W
          rw [hO.out] at ON
          have hrd := oneM_rd hll.1 (m := (kz, nm, v)) (k := k) (e := e) (by have h9 := hO.out; rw [mkS_data] at h9; exact h9)
          by_cases he : e = 0
          · have hei : (e : Int) = 0 := by omega
            obtain ⟨hk, hwf, hs1, hs2, hstep⟩ := hrd.1 he
            have hR2 : Hid (D = finM s.data.toList (rdM (n - (i + 1)) (s.data.toList.drop (K + k)) 0 (ms ++ [(kz, nm, v)]))) := Lib.hid (by
              rw [hR.out, show n - i = (n - (i + 1)) + 1 from by omega, hstep, ← hl.out, List.drop_drop])
            have hsz2 : Hid (∀ m ∈ ms ++ [(kz, nm, v)], (Lit.int .i64 m.1).wf = true ∧ m.2.1.size ≤ 100000 ∧ m.2.2.size ≤ 100000) := Lib.hid (fun p hp => by
              rcases List.mem_append.mp hp with h | h
              · exact hsz.out p h
              · simp at h; subst h; exact ⟨hwf, hs1, hs2⟩)
            have hKk : K + k ≤ s.size := by omega
            clear hrd hstep hwf hs1 hs2 hll
            go_upto_region 10 with (go_at_call 63; refine (ON _).mono ?_; rintro y w2 ⟨rfl, hb2⟩; clear ON)
            have hq := MtBox.new w2 kz nm v
            generalize w2.alloc (.cells #[.int .i64 kz, .string nm, .string v] 88) = W3 at hq ⊢
            generalize w2.heap.size = p at hq ⊢
            have hb3 := below_tr hb2 hq.bel
            have hown3 := (Chg.of_below (fun _ => False) hb3).owns hown (fun _ _ x => x)
            have hbel3 := below_tr hbel hb3
            have q0 := (hq.row 0 _ rfl).1
            have q1 := (hq.row 1 _ rfl).1
            have q2 := (hq.row 2 _ rfl).1
            clear hq hb2 hb3 hown hbel
            go_wp2_with (at_builtin; refine wpList_append_fp rfl _ _ 23 rfl 0 88 i0 (.agg #[.int .i64 0, .string { data := #[] }, .string { data := #[] }]) 3 40 Tryd.underlying23 hi hz0 hz1 hz2 rfl (by decide) _ _ _ rfl (hown3.alloc _) ⟨_, 0, none⟩ 1 1 [.int .i64 kz, .string nm, .string v] rfl rfl ?c1 ?c2 ?c3 ?c4 ?c5 ?_)
            case c1 =>
              intro j u hu
              match j, hu with
              | 0, hu => simp at hu; subst hu; simp [Addr.add]
              | 1, hu => simp at hu; subst hu; simp [Addr.add]
              | 2, hu => simp at hu; subst hu; simp [Addr.add]
              | j + 3, hu => simp at hu
            case c2 => intro u hu; simp at hu; rcases hu with rfl | rfl | rfl <;> rfl
            case c3 => unfold maxLen; omega
            case c4 => omega
            case c5 => exact Nat.zero_le _
            intro v2 w7 ho hgr _ hbk
            have hca : Chg (fun _ => False) W3 (W3.alloc (.cells #[.int .i64 kz, .string nm, .string v] 88)) := Chg.alloc _ _ _
            obtain ⟨_, hfr2, hbel7⟩ := row_more (ks := []) hbel3 (Nat.le_refl _) (by simp) (fun g hg => by have := hfr.out g hg; simpa using this) hca hgr (by simpa using hbk)
            have Hfr2 : Hid (∀ g, v2.ownBlock = some g → w.heap.size ≤ g) := Lib.hid (fun g hg => (hfr2 g hg).1)
            clear hfr2 hbk hgr hca
            go_wp2
            go_roundw
            case rel =>
              refine ⟨i + 1, _, K + k, by omega, by go_num, by go_num, hKk, Lib.hid (by rw [List.length_append, hps.out]; rfl), hR2, ?_, Hfr2, hsz2, hbel7⟩
              rw [encR_snoc]; exact ho
            case measure => simp [intOf]; omega
          · have hei : ¬ (e : Int) = 0 := by omega
            have hD3 : D = ([], 0, e) := by
              rw [hR.out, show n - i = (n - (i + 1)) + 1 from by omega]
              exact finM_bad (hrd.2 he _ _) he
            subst hD3
            go_wp2_with (go_at_call 63; refine (ON _).mono ?_; rintro y w2 ⟨rfl, hb2⟩; clear ON)
            have hba : ∀ o, Below w.heap.size w (w2.alloc o) := fun o => below_tr (below_tr hbel hb2) ((Below.refl _ _).alloc (Nat.le_refl _) _)
            go_ret3
            exact ⟨_, _, _, rfl, .inl rfl, rfl, hba _, ⟨fun _ => rfl, Nat.le_refl _⟩, fun ad h => by cases h⟩
        · obtain rfl : i = n := by omega
          have hii : ¬ (i : Int) < (i : Int) := by omega
          have hsz3 : ∀ m ∈ ms, (Lit.int .i64 m.1).wf = true ∧ m.2.1.size ≤ 140737488351232 ∧ m.2.2.size ≤ 140737488351232 := fun m hm => by have h := hsz.out m hm; exact ⟨h.1, by omega, by omega⟩
          obtain ⟨a, n1, c, rfl, hpl, hq, hcap, _, _⟩ := OwnM.of_owns hown hsz3 (B := 0) (fun _ _ => Nat.zero_le _)
          obtain rfl : i = n1 := by rw [← hps.out, hpl]
          have Hlow : Hid (∀ ad, a = some ad → w.heap.size ≤ ad.block) := Lib.hid (fun ad e => hfr.out ad.block (by rw [e]; rfl))
          have Hcap := Lib.hid hcap
          clear hcap
          have CK := fun W h => mcheck_any ms a i c hpl (by omega) W h
          obtain ⟨C, hC⟩ : ∃ b, Hid (chkM ms = b) := ⟨_, Lib.hid rfl⟩
          rw [hC.out] at CK
          have hD4 : Hid (D = if C ≠ 0 then ([], 0, C) else (ms, K, 0)) := Lib.hid (by
            rw [hR.out, Nat.sub_self]
            unfold finM rdM
            simp only [if_true, hC.out, List.length_drop]
            rw [← size_toList]
            rw [show s.size - (s.size - K) = K from by omega])
          clear hown hsz3
          by_cases hC0 : C = 0
          · have hCi : (C : Int) = 0 := by omega
            have hD5 : D = (ms, K, 0) := by rw [hD4.out, if_neg (by omega)]
            subst hD5
            go_wp2_with (go_at_call 35; refine (CK _ hq).mono ?_; rintro y w4 ⟨rfl, hb4⟩)
            go_ret3
            exact ⟨_, _, _, rfl, RowM.below hq hb4, hpl, below_tr hbel hb4, Hcap.out, Hlow.out⟩
          · have hCi : ¬ (C : Int) = 0 := by omega
            have hD5 : D = ([], 0, C) := by rw [hD4.out, if_pos hC0]
            subst hD5
            go_wp2_with (go_at_call 35; refine (CK _ hq).mono ?_; rintro y w4 ⟨rfl, hb4⟩)
            go_ret3
            exact ⟨_, _, _, rfl, .inl rfl, rfl, below_tr hbel hb4, ⟨fun _ => rfl, Nat.le_refl _⟩, fun ad h => by cases h⟩
  · have hei : ¬ (e1 : Int) = 0 := by omega
    have hD2 : D = ([], 0, e1) := by
      rw [← hD.out, getM_fin hi0.out (inMust_bad he1), rdM_bad he1]
      exact finM_bad rfl he1
    subst hD2
    go_wp2_with (go_at_call 61; refine (GN _).mono ?_; rintro y w2 ⟨rfl, hb2⟩)
    go_ret3
    exact ⟨_, _, _, rfl, .inl rfl, rfl, hb2, ⟨fun _ => rfl, Nat.le_refl _⟩, fun ad h => by cases h⟩
theorem mget_any (s : ByteArray) (hs : s.size ≤ 100000) (w : World) :
    Calls Tryd.prog 43 #[.string s] w (MgOut w (getM s.data.toList)) :=
  (mget2_any s hs w).mono fun _ _ h => by obtain ⟨a, n, c, h1, h2, h3, h4, _⟩ := h; exact ⟨a, n, c, h1, h2, h3, h4⟩
end Go.Proofs.YtjmcpdhfefcdgaaDoor
