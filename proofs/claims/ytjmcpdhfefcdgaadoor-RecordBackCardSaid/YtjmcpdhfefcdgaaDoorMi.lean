/- Matchers read by the program. -/
import Derived.Test.YtjmcpdhfefcdgaaDoorMh
import Derived.Test.YtjmcpdhfefcdgaaDoorLh
namespace Go.Proofs.YtjmcpdhfefcdgaaDoor
open Go.RowKit Lb Dig Inn

namespace Lb
def zM : Mt := (0, { data := #[] }, { data := #[] })
/-- The matcher at the front of bytes, in how many, the error. -/
def oneM (l : List UInt8) : Mt × Nat × Nat :=
  if (getNum l).2.2 ≠ 0 then (zM, 0, (getNum l).2.2) else if 4 < (getNum l).1 then (zM, 0, 5) else
  if (getText (l.drop (getNum l).2.1) 32).2.2 ≠ 0 then (zM, 0, (getText (l.drop (getNum l).2.1) 32).2.2) else
    ((((getNum l).1 : Nat), mkS (getText (l.drop (getNum l).2.1) 32).1, mkS (getText (l.drop ((getNum l).2.1 + (getText (l.drop (getNum l).2.1) 32).2.1)) 64).1),
      (getNum l).2.1 + (getText (l.drop (getNum l).2.1) 32).2.1 + (getText (l.drop ((getNum l).2.1 + (getText (l.drop (getNum l).2.1) 32).2.1)) 64).2.1,
      (getText (l.drop ((getNum l).2.1 + (getText (l.drop (getNum l).2.1) 32).2.1)) 64).2.2)
theorem oneM_e1 {l : List UInt8} {n k e : Nat} (h : getNum l = (n, k, e)) (he : e ≠ 0) : oneM l = (zM, 0, e) := by
  unfold oneM; rw [h]; simp only; rw [if_pos he]
theorem oneM_e2 {l : List UInt8} {n k : Nat} (h : getNum l = (n, k, 0)) (he : 4 < n) : oneM l = (zM, 0, 5) := by
  unfold oneM; rw [h]; simp only; rw [if_neg (by omega), if_pos he]
theorem oneM_e3 {l : List UInt8} {n k : Nat} (h : getNum l = (n, k, 0)) (hn : ¬ 4 < n) {t : List UInt8} {k2 e : Nat} (h2 : getText (l.drop k) 32 = (t, k2, e)) (he : e ≠ 0) : oneM l = (zM, 0, e) := by
  unfold oneM; rw [h]; simp only; rw [if_neg (by omega), if_neg hn, h2]; simp only; rw [if_pos he]
theorem oneM_ok {l : List UInt8} {n k : Nat} (h : getNum l = (n, k, 0)) (hn : ¬ 4 < n) {t u : List UInt8} {k2 k3 e3 : Nat} (h2 : getText (l.drop k) 32 = (t, k2, 0)) (h3 : getText (l.drop (k + k2)) 64 = (u, k3, e3)) : oneM l = (((n : Int), mkS t, mkS u), k + k2 + k3, e3) := by
  unfold oneM; rw [h]; simp only; rw [if_neg (by omega), if_neg hn, h2]; simp only; rw [if_neg (by omega), h3]
/-- What one reads is the first step of the reader. -/
theorem oneM_rd {l : List UInt8} (hl : l.length ≤ 100000) {m : Mt} {k e : Nat} (h : oneM l = (m, k, e)) :
    (e = 0 → k ≤ l.length ∧ (Lit.int .i64 m.1).wf = true ∧ m.2.1.size ≤ 100000 ∧ m.2.2.size ≤ 100000 ∧ ∀ j ms, rdM (j + 1) l 0 ms = rdM j (l.drop k) 0 (ms ++ [m])) ∧ (e ≠ 0 → ∀ j ms, (rdM (j + 1) l 0 ms).2.2 = e) := by
  rcases hg : getNum l with ⟨n, k1, e1⟩
  have hf := getNum_facts hg
  have h0 : inNum l 0 = (n, l.drop k1, e1) := by unfold inNum; rw [if_neg (by omega), hg]
  by_cases he1 : e1 = 0
  · subst he1
    by_cases hn : 4 < n
    · rw [oneM_e2 hg hn] at h
      simp only [Prod.mk.injEq] at h
      obtain ⟨_, _, rfl⟩ := h
      refine ⟨fun h => absurd h (by decide), fun _ j ms => ?_⟩
      rw [rdM_succ h0 (show inMust 0 (decide (n ≤ 4)) 5 = 5 from by rw [decide_eq_false (by omega)]; rfl) (show inText (l.drop k1) 5 32 = ([], l.drop k1, 5) from rfl) (show inText (l.drop k1) 5 64 = ([], l.drop k1, 5) from rfl), rdM_bad (by decide)]
    · have hm : inMust 0 (decide (n ≤ 4)) 5 = 0 := by rw [decide_eq_true (by omega)]; rfl
      rcases ht : getText (l.drop k1) 32 with ⟨t, k2, e2⟩
      have hft := getText_facts ht
      have h1 : inText (l.drop k1) 0 32 = (t, (l.drop k1).drop k2, e2) := by unfold inText; rw [if_neg (by omega), ht]
      have hts := inText_size (l.drop k1) 0 32
      rw [h1] at hts
      simp only [List.length_drop] at hts
      by_cases he2 : e2 = 0
      · subst he2
        rcases hu : getText (l.drop (k1 + k2)) 64 with ⟨u, k3, e3⟩
        have hfu := getText_facts hu
        have h2 : inText ((l.drop k1).drop k2) 0 64 = (u, l.drop (k1 + k2 + k3), e3) := by unfold inText; rw [if_neg (by omega), List.drop_drop, hu, List.drop_drop]
        have hus := inText_size ((l.drop k1).drop k2) 0 64
        rw [h2] at hus
        simp only [List.length_drop] at hus hft hfu
        rw [oneM_ok hg hn ht hu] at h
        simp only [Prod.mk.injEq] at h
        obtain ⟨rfl, rfl, rfl⟩ := h
        have hs : ∀ j ms, rdM (j + 1) l 0 ms = rdM j (l.drop (k1 + k2 + k3)) e3 (ms ++ [((n : Int), mkS t, mkS u)]) := fun j ms => by
          rw [rdM_succ h0 hm h1 h2, wrap_i64_id _ (by omega) (by omega)]
        refine ⟨fun h => ?_, fun h j ms => ?_⟩
        · subst h
          refine ⟨by omega, ?_, by rw [mkS_size]; omega, by rw [mkS_size]; omega, hs⟩
          have := wf_wrap (n : Int)
          rw [wrap_i64_id _ (by omega) (by omega)] at this
          exact this
        · rw [hs, rdM_bad h]
      · rw [oneM_e3 hg hn ht he2] at h
        simp only [Prod.mk.injEq] at h
        obtain ⟨_, _, rfl⟩ := h
        refine ⟨fun h => absurd h he2, fun _ j ms => ?_⟩
        rw [rdM_succ h0 hm h1 (show inText ((l.drop k1).drop k2) e2 64 = ([], (l.drop k1).drop k2, e2) from by unfold inText; rw [if_pos he2]), rdM_bad he2]
  · rw [oneM_e1 hg he1] at h
    simp only [Prod.mk.injEq] at h
    obtain ⟨_, _, rfl⟩ := h
    refine ⟨fun h => absurd h he1, fun _ j ms => ?_⟩
    rw [rdM_succ h0 (inMust_bad he1) (show inText (l.drop k1) e1 32 = ([], l.drop k1, e1) from by unfold inText; rw [if_pos he1]) (show inText (l.drop k1) e1 64 = ([], l.drop k1, e1) from by unfold inText; rw [if_pos he1]), rdM_bad he1]
end Lb
theorem RowV.set3 {w : World} {B : Nat} {xs : List Value} (h : RowV w B xs) (hl : xs.length = 3) (v0 v1 v2 : Value) (W : World)
    (hW : W = (((w.setCell ⟨B, 0, none⟩ v0).setCell ⟨B, 1, none⟩ v1).setCell ⟨B, 2, none⟩ v2)) :
    RowV W B [v0, v1, v2] ∧ Chg (fun k => k = B) w W := by
  match xs, hl with
  | [y0, y1, y2], _ =>
    have h1 := (((h.set 0 (by simp) v0).set 1 (by simp) v1).set 2 (by simp) v2)
    rw [hW]
    exact ⟨h1, ((Chg.setCell w ⟨B, 0, none⟩ v0).trans (Chg.setCell _ ⟨B, 1, none⟩ v1) (fun _ _ x => x)).trans (Chg.setCell _ ⟨B, 2, none⟩ v2) (fun _ _ x => x)⟩
structure OneOut (w : World) (r : Mt × Nat × Nat) (y : Ending) (w' : World) : Prop where
  ex : y = .returned (.tuple #[.agg #[.int .i64 r.1.1, .string r.1.2.1, .string r.1.2.2], .int .i64 (r.2.1 : Nat), .int .i64 (r.2.2 : Nat)]) ∧ Below w.heap.size w w'

set_option maxRecDepth 100000 in
set_option maxHeartbeats 4000000 in
theorem one_any (s : ByteArray) (hs : s.size ≤ 100000) (w : World) :
    Calls Tryd.prog 63 #[.string s] w (OneOut w (oneM s.data.toList)) := by
  have ML : ∀ (W : World) (p : Nat) (v0 v1 v2 : Value), RowV W p [v0, v1, v2] → (loadVar 88 ⟨p, 0, none⟩).run Tryd.prog W = .ok (.agg #[v0, v1, v2]) W := fun W p v0 v1 v2 h => h.load 88 _ Tryd.underlying88 rfl (by kernel_rfl)
  obtain ⟨D, hD⟩ : ∃ D, Hid (oneM s.data.toList = D) := ⟨_, Lib.hid rfl⟩
  rw [hD.out]
  obtain ⟨n, k1, e1, hN⟩ : ∃ n k e1, Hid (getNum s.data.toList = (n, k, e1)) := ⟨_, _, _, Lib.hid rfl⟩
  have GN := fun W => getnum_eq s (by omega) hN W
  obtain ⟨hn64, hk1, _, _⟩ := getNum_facts hN.out
  rw [← size_toList] at hk1
  have hM := MtBox.new w 0 { data := #[] } { data := #[] }
  go_enter Tryd.func63, Tryd.ntmps63
  go_upto_region 1 with (fail)
  generalize w.alloc (.cells #[.int .i64 0, .string { data := #[] }, .string { data := #[] }] 88) = W1 at hM ⊢
  generalize hpp : w.heap.size = p at hM ⊢
  have Hpp := Lib.hid hpp
  clear hpp
  have Hbel := Lib.hid hM.bel
  have Hrow := Lib.hid hM.row
  clear hM
  have fin : Hid (∀ (W2 : World) (v0 v1 v2 : Value) (W9 : World), Below W1.heap.size W1 W2 → W9 = (((W2.setCell ⟨p, 0, none⟩ v0).setCell ⟨p, 1, none⟩ v1).setCell ⟨p, 2, none⟩ v2) → RowV W9 p [v0, v1, v2] ∧ Below w.heap.size w W9) := Lib.hid (fun W2 v0 v1 v2 W9 hb hW => by
    obtain ⟨r9, c9⟩ := (Hrow.out.below hb).set3 rfl v0 v1 v2 W9 hW
    exact ⟨r9, Chg.below_tr (below_tr Hbel.out hb) c9 (fun k hk e => by have := Hpp.out; omega)⟩)
  by_cases he1 : e1 = 0
  · subst he1
    by_cases hn : 4 < n
    · have hni : (4 : Int) < (n : Int) := by omega
      have hD2 : D = (zM, 0, 5) := by rw [← hD.out]; exact oneM_e2 hN.out hn
      subst hD2
      go_wp2_with (go_at_call 61; refine (GN _).mono ?_; rintro y w2 ⟨rfl, hb2⟩; have hx := Hrow.out.below hb2; have a0 := (hx 0 _ rfl).1; have a1 := (hx 1 _ rfl).1; have a2 := (hx 2 _ rfl).1; have z0 := (hx 0 _ rfl).2; have z1 := (hx 1 _ rfl).2; have z2 := (hx 2 _ rfl).2)
      generalize hW9 : (((w2.setCell ⟨p, 0, none⟩ _).setCell ⟨p, 1, none⟩ _).setCell ⟨p, 2, none⟩ _) = W9
      obtain ⟨r9, b9⟩ := fin.out _ _ _ _ W9 hb2 hW9.symm
      refine bodyPost_ret (results_cell_tmp3 rfl _ _ p _ rfl (ML W9 _ _ _ _ r9)) rfl ?_
      exact ⟨rfl, b9⟩
    · have hni : ¬ (4 : Int) < (n : Int) := by omega
      obtain ⟨l1, hl1⟩ : ∃ l, Hid (s.data.toList.drop k1 = l) := ⟨_, Lib.hid rfl⟩
      have hex1 := extract_rest s k1 hk1
      rw [hl1.out] at hex1
      have hll1 : l1.length ≤ 100000 := by rw [← hl1.out, List.length_drop, ← size_toList]; omega
      obtain ⟨t, k2, e2, hT⟩ : ∃ t k e, Hid (getText (mkS l1).data.toList 32 = (t, k, e)) := ⟨_, _, _, Lib.hid rfl⟩
      have GT := fun W => gettext_eq (mkS l1) (by rw [mkS_size]; omega) 32 (by omega) (by omega) hT W
      have hT' : getText (s.data.toList.drop k1) 32 = (t, k2, e2) := by rw [hl1.out, ← mkS_data l1]; exact hT.out
      have hk2 : k1 + k2 ≤ s.size := by have := (getText_facts hT').1; rw [List.length_drop, ← size_toList] at this; omega
      have hk1i : (k1 : Int) ≤ (s.size : Int) := by omega
      have hk12i : (k1 : Int) + (k2 : Int) ≤ (s.size : Int) := by omega
      have HT := Lib.hid hT'
      clear hT'
      by_cases he2 : e2 = 0
      · subst he2
        obtain ⟨l2, hl2⟩ : ∃ l, Hid (s.data.toList.drop (k1 + k2) = l) := ⟨_, Lib.hid rfl⟩
        have hex2 := extract_rest s (k1 + k2) hk2
        rw [hl2.out] at hex2
        have hll2 : l2.length ≤ 100000 := by rw [← hl2.out, List.length_drop, ← size_toList]; omega
        obtain ⟨u, k3, e3, hU⟩ : ∃ t k e, Hid (getText (mkS l2).data.toList 64 = (t, k, e)) := ⟨_, _, _, Lib.hid rfl⟩
        have GU := fun W => gettext_eq (mkS l2) (by rw [mkS_size]; omega) 64 (by omega) (by omega) hU W
        have HU : Hid (getText (s.data.toList.drop (k1 + k2)) 64 = (u, k3, e3)) := Lib.hid (by rw [hl2.out, ← mkS_data l2]; exact hU.out)
        have hD2 : D = (((n : Int), mkS t, mkS u), k1 + k2 + k3, e3) := by rw [← hD.out]; exact oneM_ok hN.out hn HT.out HU.out
        have hk3 : k3 ≤ 100000 := by have := (getText_facts HU.out).1; rw [List.length_drop, ← size_toList] at this; omega
        have hwn : IntKind.i64.wrap (n : Int) = (n : Int) := wrap_i64_id _ (by omega) (by omega)
        subst hD2
        go_upto_region 2 with (go_at_call 61; refine (GN _).mono ?_; rintro y w2 ⟨rfl, hb2⟩)
        go_upto_region 7 with (go_at_call 70; refine (GT _).mono ?_; rintro y w3 ⟨rfl, hb3⟩; have hb13 := below_tr hb2 hb3)
        go_upto_region 10 with (go_at_call 70; refine (GU _).mono ?_; rintro y w4 ⟨rfl, hb4⟩; have hb14 := below_tr hb13 hb4; have hx := Hrow.out.below hb14; have a0 := (hx 0 _ rfl).1; have a1 := (hx 1 _ rfl).1; have a2 := (hx 2 _ rfl).1; have z0 := (hx 0 _ rfl).2; have z1 := (hx 1 _ rfl).2; have z2 := (hx 2 _ rfl).2)
        go_wp2
        generalize hW9 : (((w4.setCell ⟨p, 0, none⟩ _).setCell ⟨p, 1, none⟩ _).setCell ⟨p, 2, none⟩ _) = W9
        obtain ⟨r9, b9⟩ := fin.out _ _ _ _ W9 hb14 hW9.symm
        refine bodyPost_ret (results_cell_tmp3 rfl _ _ p _ rfl (ML W9 _ _ _ _ r9)) rfl ?_
        exact ⟨rfl, b9⟩
      · have he2i : ¬ (e2 : Int) = 0 := by omega
        have hD2 : D = (zM, 0, e2) := by rw [← hD.out]; exact oneM_e3 hN.out hn HT.out he2
        subst hD2
        go_upto_region 2 with (go_at_call 61; refine (GN _).mono ?_; rintro y w2 ⟨rfl, hb2⟩)
        go_wp2_with (go_at_call 70; refine (GT _).mono ?_; rintro y w3 ⟨rfl, hb3⟩; have hb13 := below_tr hb2 hb3; have hx := Hrow.out.below hb13; have a0 := (hx 0 _ rfl).1; have a1 := (hx 1 _ rfl).1; have a2 := (hx 2 _ rfl).1; have z0 := (hx 0 _ rfl).2; have z1 := (hx 1 _ rfl).2; have z2 := (hx 2 _ rfl).2)
        generalize hW9 : (((w3.setCell ⟨p, 0, none⟩ _).setCell ⟨p, 1, none⟩ _).setCell ⟨p, 2, none⟩ _) = W9
        obtain ⟨r9, b9⟩ := fin.out _ _ _ _ W9 hb13 hW9.symm
        refine bodyPost_ret (results_cell_tmp3 rfl _ _ p _ rfl (ML W9 _ _ _ _ r9)) rfl ?_
        exact ⟨rfl, b9⟩
  · have hei : ¬ (e1 : Int) = 0 := by omega
    have hD2 : D = (zM, 0, e1) := by rw [← hD.out]; exact oneM_e1 hN.out he1
    subst hD2
    go_wp2_with (go_at_call 61; refine (GN _).mono ?_; rintro y w2 ⟨rfl, hb2⟩; have hx := Hrow.out.below hb2; have a0 := (hx 0 _ rfl).1; have a1 := (hx 1 _ rfl).1; have a2 := (hx 2 _ rfl).1; have z0 := (hx 0 _ rfl).2; have z1 := (hx 1 _ rfl).2; have z2 := (hx 2 _ rfl).2)
    generalize hW9 : (((w2.setCell ⟨p, 0, none⟩ _).setCell ⟨p, 1, none⟩ _).setCell ⟨p, 2, none⟩ _) = W9
    obtain ⟨r9, b9⟩ := fin.out _ _ _ _ W9 hb2 hW9.symm
    refine bodyPost_ret (results_cell_tmp3 rfl _ _ p _ rfl (ML W9 _ _ _ _ r9)) rfl ?_
    exact ⟨rfl, b9⟩
end Go.Proofs.YtjmcpdhfefcdgaaDoor
