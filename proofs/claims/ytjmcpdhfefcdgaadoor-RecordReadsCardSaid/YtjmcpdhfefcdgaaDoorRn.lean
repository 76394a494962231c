/- Records read by the document. -/
import Derived.Test.YtjmcpdhfefcdgaaDoorRm
import Derived.Test.YtjmcpdhfefcdgaaDoorRd
namespace Go.Proofs.YtjmcpdhfefcdgaaDoor
open Go.RowKit Lb Dig Inn

theorem refgetsigned_eq (s : ByteArray) (hs : s.size ≤ 4611686018427387904) {n k e : Nat} (h : Hid (getNum s.data.toList = (n, k, e))) (w : World) :
    Calls Tryd.prog 67 #[.string s] w fun r w' => r = .returned (.tuple #[.int .i64 (zag n), .int .i64 k, .int .i64 e]) ∧ w = w' := refgetsigned_any s (by omega) h w
set_option maxRecDepth 100000 in
set_option maxHeartbeats 2000000 in
theorem insig_any (x : Nat) (l : List UInt8) (e : Nat) (hl : l.length ≤ 100000) (w : World) (h : InAt w x l e) :
    Calls Tryd.prog 50 #[.pointer (some ⟨x, 0, none⟩)] w (NumOut w x (.int .i64 (inSig l e).1) (inSig l e).2.1 (inSig l e).2.2) := by
  have c0 := (h 0 _ rfl).1
  have c1 := (h 1 _ rfl).1
  have z0 := (h 0 _ rfl).2
  have z1 := (h 1 _ rfl).2
  by_cases he : e = 0
  · subst he
    obtain ⟨n, k, e2, h1⟩ : ∃ n k e2, Hid (getNum (mkS l).data.toList = (n, k, e2)) := ⟨_, _, _, Lib.hid rfl⟩
    have h2 := h1.out
    rw [mkS_data] at h2
    obtain ⟨f1, f2, f3, f4⟩ := getNum_facts h2
    have hin : Hid (inSig l 0 = (zag n, l.drop k, e2)) := Lib.hid (inSig_ok h2)
    have GS := fun W => refgetsigned_eq (mkS l) (by rw [mkS_size]; omega) h1 W
    obtain ⟨Z, hZ⟩ : ∃ Z, Hid (zag n = Z) := ⟨_, Lib.hid rfl⟩
    rw [hZ.out] at GS hin
    have hsz : (mkS l).size = l.length := mkS_size l
    have hki : (k : Int) ≤ ((mkS l).size : Int) := by omega
    have hx : Hid ((mkS l).extract k (mkS l).size = mkS (l.drop k)) := Lib.hid (by
      rw [mkS_size, show l.length = k + (l.length - k) from by omega, extract_mkS, mkS_data, List.take_of_length_le (by rw [List.length_drop]; omega)])
    have hst : Hid (∀ W, W = (w.setCell ⟨x, 1, none⟩ (.int .i64 (e2 : Nat))).setCell ⟨x, 0, none⟩ (.string (mkS (l.drop k))) → InAt W x (l.drop k) e2 ∧ Chg (fun k => k = x) w W) := Lib.hid (fun W hW => by
      rw [hW]
      exact ⟨(h.set 1 (by simp) _).set 0 (by simp) _, (Chg.setCell w ⟨x, 1, none⟩ _).trans (Chg.setCell _ ⟨x, 0, none⟩ _) (fun _ _ y => y)⟩)
    rw [hin.out]
    clear h2 f1 f2 f3 f4 hsz h
    go_enter Tryd.func50, Tryd.ntmps50
    go_wp2_with (go_at_call 67; refine (GS _).mono ?_; rintro y w1 ⟨rfl, rfl⟩)
    rw [hx.out]
    obtain ⟨r1, r2⟩ := hst.out _ rfl
    go_ret
    exact ⟨rfl, r1, r2⟩
  · have hei : ¬ (e : Int) = 0 := by omega
    have hin : Hid (inSig l e = (0, l, e)) := Lib.hid (inSig_bad he)
    rw [hin.out]
    go_enter Tryd.func50, Tryd.ntmps50
    go_wp2
    go_ret
    exact ⟨rfl, h, Chg.refl _ _⟩

namespace Lb
theorem inSig_lt (l : List UInt8) (e : Nat) (hl : l.length ≤ 100000) : (-9223372036854775808 ≤ (inSig l e).1 ∧ (inSig l e).1 < 9223372036854775808) ∧ (inSig l e).2.1.length ≤ l.length := by
  unfold inSig
  split
  · simp
  · have h := getNum_lt l
    exact ⟨zag_rng _ (by omega), by simp only [List.length_drop]; omega⟩
theorem rdM_lenM : ∀ (k : Nat) (l : List UInt8) (e : Nat) (ms : List Mt), (rdM k l e ms).1.length ≤ ms.length + k := by
  intro k
  induction k with
  | zero => intro l e ms; exact Nat.le_refl _
  | succ k ih =>
    intro l e ms
    by_cases he : e = 0
    · subst he
      rcases h0 : inNum l 0 with ⟨n, l1, e1⟩
      rcases hm : inMust e1 (decide (n ≤ 4)) 5 with e2
      rcases h1 : inText l1 e2 32 with ⟨t, l2, e3⟩
      rcases h2 : inText l2 e3 64 with ⟨u, l3, e4⟩
      rw [rdM_succ h0 hm h1 h2]
      have := ih l3 e4 (ms ++ [(IntKind.i64.wrap (n : Int), mkS t, mkS u)])
      rw [List.length_append, List.length_singleton] at this
      omega
    · rw [rdM_bad he]; exact Nat.le_add_right _ _
theorem takeM_8 (s : List UInt8) (e : Nat) : (takeM s e).1.length ≤ 8 := by
  rcases h1 : inNum s e with ⟨n, l1, e1⟩
  rcases h2 : inMust e1 (decide (n ≤ 8)) 8 with e2
  rcases h3 : rdM n l1 e2 [] with ⟨ms, l2, e3⟩
  rw [takeM_eq h1 h2 h3]
  simp only
  by_cases he : e2 = 0
  · rw [he] at h2
    have h4 := (inMust_zero h2 (by decide)).2
    have h5 := rdM_lenM n l1 e2 []
    rw [h3] at h5
    simp at h4 h5
    omega
  · rw [rdM_bad he] at h3
    simp only [Prod.mk.injEq] at h3
    rw [← h3.1]; simp
end Lb
structure DnAt (w1 wt : World) (x g n : Nat) (kz : Int) (R : List Smp × List UInt8 × Nat) (v8 : Value) : Prop where
  ex : ∃ (i : Nat) (v : Value) (css : List (List Value)) (ss : List Smp) (l : List UInt8) (e : Nat), i ≤ n ∧ i ≤ 32 ∧ v8 = .int .u64 i ∧ Hid (ss.length = i) ∧ l.length ≤ 100000 ∧ Hid (R = rdS (n - i) l e ss) ∧ Hid (e = 0 → n ≤ 32) ∧ InAt wt x l e ∧ RowV wt g [.int .i64 kz, v, .slice none 0 0, .int .i64 0, .int .i64 0] ∧ OwnC wt w1.heap.size css ss v ∧ Chg (fun k => k = x ∨ k = g) w1 wt

set_option maxRecDepth 100000 in
set_option maxHeartbeats 8000000 in
theorem rrdec_any (s : ByteArray) (hs : s.size ≤ 100000) (w : World) :
    Calls Tryd.prog 18 #[.string s] w (DcOut w (decR s.data.toList)) := by
  obtain ⟨i1, gi, gz0, gz1, gz2⟩ := pinfo_of sinfo
  obtain ⟨D, hD⟩ : ∃ D, Hid (decR s.data.toList = D) := ⟨_, Lib.hid rfl⟩
  rw [hD.out]
  have Q0 := RowV.new w zRow 25
  have B0 : Below w.heap.size w (w.alloc (.cells zRow.toArray 25)) := (Below.refl _ _).alloc (Nat.le_refl _) _
  have hsl : s.data.toList.length ≤ 100000 := by rw [← size_toList]; exact hs
  go_enter Tryd.func18, Tryd.ntmps18
  go_upto_region 1 with (fail)
  change RowV (w.alloc (.cells #[.int .i64 0, .slice none 0 0, .slice none 0 0, .int .i64 0, .int .i64 0] 25)) _ _ at Q0
  change Below w.heap.size w (w.alloc (.cells #[.int .i64 0, .slice none 0 0, .slice none 0 0, .int .i64 0, .int .i64 0] 25)) at B0
  generalize w.alloc (.cells #[.int .i64 0, .slice none 0 0, .slice none 0 0, .int .i64 0, .int .i64 0] 25) = w1 at Q0 B0 ⊢
  have hwq : ∃ q, q = w.heap.size := ⟨_, rfl⟩
  obtain ⟨q, hq⟩ := hwq
  rw [← hq] at Q0 ⊢
  have Hq := Lib.hid hq
  clear hq
  have X0 := RowV.new w1 [.string s, .int .i64 0] 80
  have B1 : Below w1.heap.size w1 (w1.alloc (.cells #[.string s, .int .i64 0] 80)) := (Below.refl _ _).alloc (Nat.le_refl _) _
  go_upto_region 2 with (fail)
  generalize w1.alloc (.cells #[.string s, .int .i64 0] 80) = w2 at X0 B1 ⊢
  obtain ⟨x, hx⟩ : ∃ x, x = w1.heap.size := ⟨_, rfl⟩
  rw [← hx] at X0 ⊢
  have hqx : q < x ∧ w.heap.size ≤ q := by have h1 := Q0.lt (by simp); have := Hq.out; omega
  have Q2 := Q0.below B1
  have B02 := below_tr B0 B1
  have hI0 : InAt w2 x s.data.toList 0 := by unfold InAt; rw [mkS_toList]; exact X0
  clear Q0 B0 B1 X0 hx Hq
  obtain ⟨kk, l1, e1, hN⟩ : ∃ n l e, Hid (inNum s.data.toList 0 = (n, l, e)) := ⟨_, _, _, Lib.hid rfl⟩
  have IN := fun W h => innum_any x s.data.toList 0 hsl W h
  have hNf := inNum_lt s.data.toList 0 hsl
  rw [hN.out] at IN hNf
  simp only at hNf
  have hl1s : l1.length ≤ 100000 := by omega
  have hkk64 : kk < 18446744073709551616 := hNf.1
  obtain ⟨O1, hO1⟩ : ∃ b, ((kk : Int) == 1) = b := ⟨_, rfl⟩
  obtain ⟨O2, hO2⟩ : ∃ b, ((kk : Int) == 2) = b := ⟨_, rfl⟩
  have HO : Hid ((decide (kk = 1) = O1) ∧ (decide (kk = 2) = O2)) := Lib.hid (by
    rw [← hO1, ← hO2]
    constructor <;> (rw [Bool.eq_iff_iff]; simp; omega))
  obtain ⟨e2, hE2⟩ : ∃ e, Hid (inMust e1 (O1 || O2) 5 = e) := ⟨_, Lib.hid rfl⟩
  have IM := fun W h => inmust_any x l1 e1 (O1 || O2) 5 W h
  rw [hE2.out] at IM
  have hDD : Hid (D = finR (bodyD kk l1 e2)) := Lib.hid (by
    rw [← hD.out]; exact decR_eq hN.out (by rw [HO.out.1, HO.out.2, hE2.out]))
  obtain ⟨kz, hkz⟩ : ∃ z, IntKind.i64.wrap (kk : Int) = z := ⟨_, rfl⟩
  clear hNf
  cases O1
  · go_upto_region 4 with (first
      | (go_at_call 46; refine (IN _ hI0).mono ?_; rintro y w3 ⟨rfl, hI3, hc3⟩; clear IN)
      | (go_at_call 47; refine (IM _ hI3).mono ?_; rintro y w4 ⟨⟨vm, rfl⟩, hI4, hc4⟩; clear IM))
    have hc24 := hc3.trans hc4 (fun _ _ y => y)
    have Q4 := Q2.keep hc24 (fun e => by omega)
    have B04 := Chg.below_tr B02 hc24 (fun k hk e => by have h1 : k = x := e; omega)
    have hxlt : x < w4.heap.size := RowV.lt hI4 (by simp)
    have G4 := RowV.new w4 [.int .i64 kz, .slice none 0 0, .slice none 0 0, .int .i64 0, .int .i64 0] 25
    have B4 : Below w4.heap.size w4 (w4.alloc (.cells #[.int .i64 kz, .slice none 0 0, .slice none 0 0, .int .i64 0, .int .i64 0] 25)) := (Below.refl _ _).alloc (Nat.le_refl _) _
    have hgs5 : (w4.alloc (.cells #[.int .i64 kz, .slice none 0 0, .slice none 0 0, .int .i64 0, .int .i64 0] 25)).heap.size = w4.heap.size + 1 := by simp
    clear hI0 hI3 hc3 hc4 hc24 Q2 B02
    go_upto_region 5 with (fail)
    generalize w4.alloc (.cells #[.int .i64 kz, .slice none 0 0, .slice none 0 0, .int .i64 0, .int .i64 0] 25) = w5 at G4 B4 hgs5 ⊢
    have Hgs5 := Lib.hid hgs5
    clear hgs5
    obtain ⟨g, hgg⟩ : ∃ g, g = w4.heap.size := ⟨_, rfl⟩
    rw [← hgg] at G4 ⊢
    have hxg : x ≠ g := by omega
    have hxq : x ≠ q := by omega
    have hgB : g < w5.heap.size ∧ x < w5.heap.size ∧ q < w5.heap.size := by have := Hgs5.out; omega
    have hgw : w.heap.size ≤ g ∧ q ≠ g := by have := B04.size; omega
    clear hgg
    have hI5 := RowV.below hI4 B4
    have hqz5 := Q4.below B4
    have hbel5 := below_tr B04 B4
    clear hI4 Q4 B4 B04
    by_cases he2 : e2 = 0
    · have hkk2 : kk = 2 := by
        rw [he2] at hE2
        have h1 := (inMust_zero hE2.out (by decide)).2
        rw [Bool.false_or, ← HO.out.2] at h1
        simpa using h1
      have hkz2 : Hid (kz = (kk : Int)) := Lib.hid (by rw [← hkz, wrap_i64_id _ (by omega) (by omega)])
      subst he2
      obtain ⟨ms, l2, e3, hT⟩ : ∃ ms l e, Hid (takeM l1 0 = (ms, l, e)) := ⟨_, _, _, Lib.hid rfl⟩
      have TK := fun W h => take2_any x l1 0 hl1s W h
      rw [hT.out] at TK
      have hm8 : ms.length ≤ 8 := by have := takeM_8 l1 0; rw [hT.out] at this; exact this
      have hl2s : l2.length ≤ 100000 := by have := takeM_len l1 0 hl1s; rw [hT.out] at this; simp only at this; omega
      obtain ⟨fr, l3, e4, hS1⟩ : ∃ z l e, Hid (inSig l2 e3 = (z, l, e)) := ⟨_, _, _, Lib.hid rfl⟩
      have RS1 := fun W h => insig_any x l2 e3 hl2s W h
      have hs1 := inSig_lt l2 e3 hl2s
      rw [hS1.out] at RS1 hs1
      simp only at hs1
      obtain ⟨tt, l, e, hS2⟩ : ∃ z l e, Hid (inSig l3 e4 = (z, l, e)) := ⟨_, _, _, Lib.hid rfl⟩
      have RS2 := fun W h => insig_any x l3 e4 (by omega) W h
      have hs2 := inSig_lt l3 e4 (by omega)
      rw [hS2.out] at RS2 hs2
      simp only at hs2
      have hfin : Hid (D = finR (⟨kz, [], ms, fr, tt⟩, l, e)) := Lib.hid (by rw [hDD.out, body_two (by omega) hT.out hS1.out hS2.out, hkz])
      have Hs1 := Lib.hid hs1.1
      have Hs2 := Lib.hid hs2.1
      have Hkk2 := Lib.hid hkk2
      clear hs1 hs2 hkk2
      have d1 := (hI5 1 _ rfl).1
      have y2 := (G4 2 _ rfl).1
      have z2 := (G4 2 _ rfl).2
      go_upto_region 22 with (go_at_call 51; refine (TK _ hI5).mono ?_; rintro y w6 ⟨b, n', c', rfl, hm6, hn6, hI6, hc6, _, hlow6⟩; have G6 := G4.keep hc6 (fun e => hxg e.symm); have y2 := (G6 2 _ rfl).1; have z2 := (G6 2 _ rfl).2; clear TK)
      have hg7 := G6.set 2 (by simp) (.slice b n' c')
      simp only [List.set_cons_succ, List.set_cons_zero] at hg7
      have hc7 := Chg.setCell w6 ⟨g, 2, none⟩ (.slice b n' c')
      have hI7 : InAt (w6.setCell ⟨g, 2, none⟩ (.slice b n' c')) x l2 e3 := RowV.keep hI6 hc7 hxg
      have hqz7 := (hqz5.keep hc6 (fun e => hxq e.symm)).keep hc7 (fun e => hgw.2 e)
      have hF6 : RecFr w6 w5.heap.size kz [] ms fr tt none 0 0 b n' c' := ⟨⟨[], OwnC.nil _ _⟩, rfl, hm6, hn6, by omega, by have h9 : ms.length = n' := hn6; omega, Hs1.out, Hs2.out, hlow6⟩
      have hF7 := hF6.otherF hc7 (fun k e => by have h1 : k = g := e; omega)
      have hbel7 := Chg.below_tr (Chg.below_tr hbel5 hc6 (fun k hk e => by have h1 : k = x := e; omega)) hc7 (fun k hk e => by have h1 : k = g := e; omega)
      generalize w6.setCell ⟨g, 2, none⟩ (.slice b n' c') = w7 at hg7 hI7 hqz7 hF7 hbel7 ⊢
      clear hc6 hc7 hI5 hI6 hm6 hF6 G4 G6 hqz5 hbel5 y2 z2 d1
      have y3 := (hg7 3 _ rfl).1
      go_upto_region 23 with (go_at_call 50; refine (RS1 _ hI7).mono ?_; rintro y w8 ⟨rfl, hI8, hc8⟩; have G8 := hg7.keep hc8 (fun e => hxg e.symm); have y3 := (G8 3 _ rfl).1; have z3 := (G8 3 _ rfl).2; clear RS1)
      have hg9 := G8.set 3 (by simp) (.int .i64 fr)
      simp only [List.set_cons_succ, List.set_cons_zero] at hg9
      have hc9 := Chg.setCell w8 ⟨g, 3, none⟩ (.int .i64 fr)
      have hI9 : InAt (w8.setCell ⟨g, 3, none⟩ (.int .i64 fr)) x l3 e4 := RowV.keep hI8 hc9 hxg
      have hqz9 := (hqz7.keep hc8 (fun e => hxq e.symm)).keep hc9 (fun e => hgw.2 e)
      have hF9 := (hF7.otherF hc8 (fun k e => by have h1 : k = x := e; omega)).otherF hc9 (fun k e => by have h1 : k = g := e; omega)
      have hbel9 := Chg.below_tr (Chg.below_tr hbel7 hc8 (fun k hk e => by have h1 : k = x := e; omega)) hc9 (fun k hk e => by have h1 : k = g := e; omega)
      generalize w8.setCell ⟨g, 3, none⟩ (.int .i64 fr) = w9 at hg9 hI9 hqz9 hF9 hbel9 ⊢
      clear hc8 hc9 hI7 hI8 hF7 hg7 G8 hqz7 hbel7 y3 z3
      go_upto_region 24 with (go_at_call 50; refine (RS2 _ hI9).mono ?_; rintro y w10 ⟨rfl, hI10, hc10⟩; have G10 := hg9.keep hc10 (fun e => hxg e.symm); have y4 := (G10 4 _ rfl).1; have z4 := (G10 4 _ rfl).2; clear RS2)
      have hg := G10.set 4 (by simp) (.int .i64 tt)
      simp only [List.set_cons_succ, List.set_cons_zero] at hg
      have hc11 := Chg.setCell w10 ⟨g, 4, none⟩ (.int .i64 tt)
      have hI : InAt (w10.setCell ⟨g, 4, none⟩ (.int .i64 tt)) x l e := RowV.keep hI10 hc11 hxg
      have hqz := (hqz9.keep hc10 (fun e => hxq e.symm)).keep hc11 (fun e => hgw.2 e)
      have hF := (hF9.otherF hc10 (fun k e => by have h1 : k = x := e; omega)).otherF hc11 (fun k e => by have h1 : k = g := e; omega)
      have hbel := Chg.below_tr (Chg.below_tr hbel9 hc10 (fun k hk e => by have h1 : k = x := e; omega)) hc11 (fun k hk e => by have h1 : k = g := e; omega)
      generalize w10.setCell ⟨g, 4, none⟩ (.int .i64 tt) = w11 at hg hI hqz hF hbel ⊢
      clear hc10 hc11 hI9 hI10 hF9 hg9 G10 hqz9 hbel9 y4 z4
      obtain ⟨OM, hemp⟩ : ∃ b, (mkS l).toList.isEmpty = b := ⟨_, rfl⟩
      have Hemp := Lib.hid hemp
      obtain ⟨e6, hE6⟩ : ∃ e', Hid (inMust e OM 6 = e') := ⟨_, Lib.hid rfl⟩
      have IM := fun W h => inmust_any x l e OM 6 W h
      rw [hE6.out] at IM
      have cx0 := (hI 0 _ rfl).1
      go_upto_region 25 with (go_at_call 47; refine (IM _ hI).mono ?_; rintro y wm ⟨⟨vm, rfl⟩, hIm, hcm⟩; clear IM)
      have hgm := hg.keep hcm (fun e => hxg e.symm)
      have hqm := hqz.keep hcm (fun e => hxq e.symm)
      have hFm := hF.otherF hcm (fun k e => by have h1 : k = x := e; omega)
      have hbm := Chg.below_tr hbel hcm (fun k hk e => by have h1 : k = x := e; omega)
      clear hI hg hqz hF hbel hcm cx0
      have d1 := (hIm 1 _ rfl).1
      by_cases he6 : e6 = 0
      · have hei6 : (e6 : Int) = 0 := by omega
        have he0 : Hid (e = 0 ∧ OM = true) := Lib.hid (by rw [he6] at hE6; exact inMust_zero hE6.out (by decide))
        have CK := fun W h => rrchk_any kz [] ms fr tt none 0 0 b n' c' W h
        obtain ⟨C, hC⟩ : ∃ C, Hid (chkR kz [] ms fr tt = C) := ⟨_, Lib.hid rfl⟩
        rw [hC.out] at CK
        have hfin2 : Hid (D = if C ≠ 0 then (zR, C) else (⟨kz, [], ms, fr, tt⟩, 0)) := Lib.hid (by
          have hl0 : l = [] := by
            have h1 := Hemp.out
            rw [he0.out.2, ByteArray.toList_eq, mkS_data] at h1
            exact List.isEmpty_iff.mp h1
          rw [hfin.out]; unfold finR; simp only; rw [if_neg (by simp [he0.out.1]), if_neg (by simp [hl0]), hC.out])
        have k0 := (hgm 0 _ rfl).1
        have k1 := (hgm 1 _ rfl).1
        have k2 := (hgm 2 _ rfl).1
        have k3 := (hgm 3 _ rfl).1
        have k4 := (hgm 4 _ rfl).1
        go_upto_region 27 with (go_at_call 15; refine (CK _ hFm.recIn).mono ?_; rintro y wc ⟨rfl, hbc⟩; have hIc := RowV.below hIm hbc; have dc0 := (hIc 1 _ rfl).1; have dc1 := (hIc 1 _ rfl).2)
        have hcs := Chg.setCell wc ⟨x, 1, none⟩ (.int .i64 (C : Nat))
        have hIs : InAt (wc.setCell ⟨x, 1, none⟩ (.int .i64 (C : Nat))) x l C := hIc.set 1 (by simp) _
        have hgs := (hgm.below hbc).keep hcs (fun e => hxg e.symm)
        have hqs := (hqm.below hbc).keep hcs (fun e => hxq e.symm)
        have hFs := (hFm.otherF (Chg.of_below (fun _ => False) hbc) (fun k e => e.elim)).otherF hcs (fun k e => by have h1 : k = x := e; omega)
        have hbs := Chg.below_tr (below_tr hbm hbc) hcs (fun k hk e => by have h1 : k = x := e; omega)
        generalize wc.setCell ⟨x, 1, none⟩ (.int .i64 (C : Nat)) = ws at hIs hgs hqs hFs hbs ⊢
        have ds1 := (hIs 1 _ rfl).1
        clear hIm hgm hqm hFm hbm hIc dc0 dc1 hcs k0 k1 k2 k3 k4 d1 hbc
        have f0 := (hqs 0 _ rfl).2
        have f1 := (hqs 1 _ rfl).2
        have f2 := (hqs 2 _ rfl).2
        have f3 := (hqs 3 _ rfl).2
        have f4 := (hqs 4 _ rfl).2
        have y0 := (hqs 0 _ rfl).1
        have y1 := (hqs 1 _ rfl).1
        have y2 := (hqs 2 _ rfl).1
        have y3 := (hqs 3 _ rfl).1
        have y4 := (hqs 4 _ rfl).1
        by_cases hC0 : C = 0
        · have hCi : (C : Int) = 0 := by omega
          have hD9 : D = (⟨kz, [], ms, fr, tt⟩, 0) := by rw [hfin2.out, if_neg (by simp [hC0])]
          subst hD9
          have k0 := (hgs 0 _ rfl).1
          have k1 := (hgs 1 _ rfl).1
          have k2 := (hgs 2 _ rfl).1
          have k3 := (hgs 3 _ rfl).1
          have k4 := (hgs 4 _ rfl).1
          go_wp2
          generalize hW9 : (((((ws.setCell ⟨q, 0, none⟩ _).setCell ⟨q, 1, none⟩ _).setCell ⟨q, 2, none⟩ _).setCell ⟨q, 3, none⟩ _).setCell ⟨q, 4, none⟩ _) = W9
          obtain ⟨r9, c9⟩ := hqs.set5 rfl _ _ _ _ _ W9 hW9.symm
          refine bodyPost_ret (results_cell_tmp2 rfl _ _ q _ rfl (load_record W9 q _ _ _ _ _ r9)) rfl ?_
          exact ⟨_, _, _, _, _, _, rfl, (hFs.otherF c9 (fun k e => by have h1 : k = q := e; omega)).recIn, Chg.below_tr hbs c9 (fun k hk e => by have h1 : k = q := e; omega)⟩
        · have hCi : ¬ (C : Int) = 0 := by omega
          have hD9 : D = (zR, C) := by rw [hfin2.out, if_pos hC0]
          subst hD9
          go_upto_region 28 with (fail)
          go_region
          go_wp2
          generalize hW9 : (((((ws.setCell ⟨q, 0, none⟩ _).setCell ⟨q, 1, none⟩ _).setCell ⟨q, 2, none⟩ _).setCell ⟨q, 3, none⟩ _).setCell ⟨q, 4, none⟩ _) = W9
          obtain ⟨r9, c9⟩ := hqs.set5 rfl _ _ _ _ _ W9 hW9.symm
          have r9d : RowV W9.drew q zRow := r9
          refine bodyPost_ret (results_cell_tmp2 rfl _ _ q _ rfl (load_record _ q _ _ _ _ _ r9d)) rfl ?_
          exact ⟨_, _, _, _, _, _, rfl, recIn_zero _, (Chg.below_tr hbs c9 (fun k hk e => by have h1 : k = q := e; omega)).drew⟩
      · have hei6 : ¬ (e6 : Int) = 0 := by omega
        have hD9 : D = (zR, e6) := by
          rw [hfin.out]
          unfold finR
          simp only
          have h6 := hE6.out
          by_cases he0 : e = 0
          · have hOM : OM = false := by
              cases OM with
              | false => rfl
              | true => rw [he0] at h6; exact absurd (h6.symm.trans (inMust_true 0 6)) he6
            have hl0 : l ≠ [] := fun h => by
              have h1 := Hemp.out
              rw [hOM, h, ByteArray.toList_eq, mkS_data] at h1
              cases h1
            rw [he0, hOM] at h6
            have h66 : e6 = 6 := h6.symm
            rw [if_neg (by simp [he0]), if_pos hl0, h66]
          · rw [inMust_bad he0] at h6
            rw [if_pos he0, h6]
        subst hD9
        have f0 := (hqm 0 _ rfl).2
        have f1 := (hqm 1 _ rfl).2
        have f2 := (hqm 2 _ rfl).2
        have f3 := (hqm 3 _ rfl).2
        have f4 := (hqm 4 _ rfl).2
        have y0 := (hqm 0 _ rfl).1
        have y1 := (hqm 1 _ rfl).1
        have y2 := (hqm 2 _ rfl).1
        have y3 := (hqm 3 _ rfl).1
        have y4 := (hqm 4 _ rfl).1
        go_upto_region 28 with (fail)
        go_region
        go_wp2
        generalize hW9 : (((((wm.setCell ⟨q, 0, none⟩ _).setCell ⟨q, 1, none⟩ _).setCell ⟨q, 2, none⟩ _).setCell ⟨q, 3, none⟩ _).setCell ⟨q, 4, none⟩ _) = W9
        obtain ⟨r9, c9⟩ := hqm.set5 rfl _ _ _ _ _ W9 hW9.symm
        have r9d : RowV W9.drew q zRow := r9
        refine bodyPost_ret (results_cell_tmp2 rfl _ _ q _ rfl (load_record _ q _ _ _ _ _ r9d)) rfl ?_
        exact ⟨_, _, _, _, _, _, rfl, recIn_zero _, (Chg.below_tr hbm c9 (fun k hk e => by have h1 : k = q := e; omega)).drew⟩
    · have he2i : ¬ (e2 : Int) = 0 := by omega
      have d1 := (hI5 1 _ rfl).1
      have hfin : Hid (D = finR (⟨kz, [], [], 0, 0⟩, l1, e2)) := Lib.hid (by
        rw [hDD.out]
        unfold bodyD
        rw [if_neg (by have h1 := HO.out.1; simpa using h1), if_neg he2, hkz])
      have hF : RecFr w5 w5.heap.size kz [] [] 0 0 none 0 0 none 0 0 := ⟨⟨[], OwnC.nil _ _⟩, rfl, .inl rfl, rfl, by omega, by omega, by omega, by omega, fun ad h => by cases h⟩
      go_upto_region 24 with (fail)
      obtain ⟨OM, hemp⟩ : ∃ b, (mkS l1).toList.isEmpty = b := ⟨_, rfl⟩
      have hI := hI5
      have hg := G4
      have hqz := hqz5
      have hbel := hbel5
      clear hI5 G4 hqz5 hbel5 d1 he2i
      have Hemp := Lib.hid hemp
      obtain ⟨e6, hE6⟩ : ∃ e', Hid (inMust e2 OM 6 = e') := ⟨_, Lib.hid rfl⟩
      have IM := fun W h => inmust_any x l1 e2 OM 6 W h
      rw [hE6.out] at IM
      have cx0 := (hI 0 _ rfl).1
      go_upto_region 25 with (go_at_call 47; refine (IM _ hI).mono ?_; rintro y wm ⟨⟨vm, rfl⟩, hIm, hcm⟩; clear IM)
      have hgm := hg.keep hcm (fun e => hxg e.symm)
      have hqm := hqz.keep hcm (fun e => hxq e.symm)
      have hFm := hF.otherF hcm (fun k e => by have h1 : k = x := e; omega)
      have hbm := Chg.below_tr hbel hcm (fun k hk e => by have h1 : k = x := e; omega)
      clear hI hg hqz hF hbel hcm cx0
      have d1 := (hIm 1 _ rfl).1
      by_cases he6 : e6 = 0
      · have hei6 : (e6 : Int) = 0 := by omega
        have he0 : Hid (e2 = 0 ∧ OM = true) := Lib.hid (by rw [he6] at hE6; exact inMust_zero hE6.out (by decide))
        have CK := fun W h => rrchk_any kz [] [] 0 0 none 0 0 none 0 0 W h
        obtain ⟨C, hC⟩ : ∃ C, Hid (chkR kz [] [] 0 0 = C) := ⟨_, Lib.hid rfl⟩
        rw [hC.out] at CK
        have hfin2 : Hid (D = if C ≠ 0 then (zR, C) else (⟨kz, [], [], 0, 0⟩, 0)) := Lib.hid (by
          have hl0 : l1 = [] := by
            have h1 := Hemp.out
            rw [he0.out.2, ByteArray.toList_eq, mkS_data] at h1
            exact List.isEmpty_iff.mp h1
          rw [hfin.out]; unfold finR; simp only; rw [if_neg (by simp [he0.out.1]), if_neg (by simp [hl0]), hC.out])
        have k0 := (hgm 0 _ rfl).1
        have k1 := (hgm 1 _ rfl).1
        have k2 := (hgm 2 _ rfl).1
        have k3 := (hgm 3 _ rfl).1
        have k4 := (hgm 4 _ rfl).1
        go_upto_region 27 with (go_at_call 15; refine (CK _ hFm.recIn).mono ?_; rintro y wc ⟨rfl, hbc⟩; have hIc := RowV.below hIm hbc; have dc0 := (hIc 1 _ rfl).1; have dc1 := (hIc 1 _ rfl).2)
        have hcs := Chg.setCell wc ⟨x, 1, none⟩ (.int .i64 (C : Nat))
        have hIs : InAt (wc.setCell ⟨x, 1, none⟩ (.int .i64 (C : Nat))) x l1 C := hIc.set 1 (by simp) _
        have hgs := (hgm.below hbc).keep hcs (fun e => hxg e.symm)
        have hqs := (hqm.below hbc).keep hcs (fun e => hxq e.symm)
        have hFs := (hFm.otherF (Chg.of_below (fun _ => False) hbc) (fun k e => e.elim)).otherF hcs (fun k e => by have h1 : k = x := e; omega)
        have hbs := Chg.below_tr (below_tr hbm hbc) hcs (fun k hk e => by have h1 : k = x := e; omega)
        generalize wc.setCell ⟨x, 1, none⟩ (.int .i64 (C : Nat)) = ws at hIs hgs hqs hFs hbs ⊢
        have ds1 := (hIs 1 _ rfl).1
        clear hIm hgm hqm hFm hbm hIc dc0 dc1 hcs k0 k1 k2 k3 k4 d1 hbc
        have f0 := (hqs 0 _ rfl).2
        have f1 := (hqs 1 _ rfl).2
        have f2 := (hqs 2 _ rfl).2
        have f3 := (hqs 3 _ rfl).2
        have f4 := (hqs 4 _ rfl).2
        have y0 := (hqs 0 _ rfl).1
        have y1 := (hqs 1 _ rfl).1
        have y2 := (hqs 2 _ rfl).1
        have y3 := (hqs 3 _ rfl).1
        have y4 := (hqs 4 _ rfl).1
        by_cases hC0 : C = 0
        · have hCi : (C : Int) = 0 := by omega
          have hD9 : D = (⟨kz, [], [], 0, 0⟩, 0) := by rw [hfin2.out, if_neg (by simp [hC0])]
          subst hD9
          have k0 := (hgs 0 _ rfl).1
          have k1 := (hgs 1 _ rfl).1
          have k2 := (hgs 2 _ rfl).1
          have k3 := (hgs 3 _ rfl).1
          have k4 := (hgs 4 _ rfl).1
          go_wp2
          generalize hW9 : (((((ws.setCell ⟨q, 0, none⟩ _).setCell ⟨q, 1, none⟩ _).setCell ⟨q, 2, none⟩ _).setCell ⟨q, 3, none⟩ _).setCell ⟨q, 4, none⟩ _) = W9
          obtain ⟨r9, c9⟩ := hqs.set5 rfl _ _ _ _ _ W9 hW9.symm
          refine bodyPost_ret (results_cell_tmp2 rfl _ _ q _ rfl (load_record W9 q _ _ _ _ _ r9)) rfl ?_
          exact ⟨_, _, _, _, _, _, rfl, (hFs.otherF c9 (fun k e => by have h1 : k = q := e; omega)).recIn, Chg.below_tr hbs c9 (fun k hk e => by have h1 : k = q := e; omega)⟩
        · have hCi : ¬ (C : Int) = 0 := by omega
          have hD9 : D = (zR, C) := by rw [hfin2.out, if_pos hC0]
          subst hD9
          go_upto_region 28 with (fail)
          go_region
          go_wp2
          generalize hW9 : (((((ws.setCell ⟨q, 0, none⟩ _).setCell ⟨q, 1, none⟩ _).setCell ⟨q, 2, none⟩ _).setCell ⟨q, 3, none⟩ _).setCell ⟨q, 4, none⟩ _) = W9
          obtain ⟨r9, c9⟩ := hqs.set5 rfl _ _ _ _ _ W9 hW9.symm
          have r9d : RowV W9.drew q zRow := r9
          refine bodyPost_ret (results_cell_tmp2 rfl _ _ q _ rfl (load_record _ q _ _ _ _ _ r9d)) rfl ?_
          exact ⟨_, _, _, _, _, _, rfl, recIn_zero _, (Chg.below_tr hbs c9 (fun k hk e => by have h1 : k = q := e; omega)).drew⟩
      · have hei6 : ¬ (e6 : Int) = 0 := by omega
        have hD9 : D = (zR, e6) := by
          rw [hfin.out]
          unfold finR
          simp only
          have h6 := hE6.out
          by_cases he0 : e2 = 0
          · have hOM : OM = false := by
              cases OM with
              | false => rfl
              | true => rw [he0] at h6; exact absurd (h6.symm.trans (inMust_true 0 6)) he6
            have hl0 : l1 ≠ [] := fun h => by
              have h1 := Hemp.out
              rw [hOM, h, ByteArray.toList_eq, mkS_data] at h1
              cases h1
            rw [he0, hOM] at h6
            have h66 : e6 = 6 := h6.symm
            rw [if_neg (by simp [he0]), if_pos hl0, h66]
          · rw [inMust_bad he0] at h6
            rw [if_pos he0, h6]
        subst hD9
        have f0 := (hqm 0 _ rfl).2
        have f1 := (hqm 1 _ rfl).2
        have f2 := (hqm 2 _ rfl).2
        have f3 := (hqm 3 _ rfl).2
        have f4 := (hqm 4 _ rfl).2
        have y0 := (hqm 0 _ rfl).1
        have y1 := (hqm 1 _ rfl).1
        have y2 := (hqm 2 _ rfl).1
        have y3 := (hqm 3 _ rfl).1
        have y4 := (hqm 4 _ rfl).1
        go_upto_region 28 with (fail)
        go_region
        go_wp2
        generalize hW9 : (((((wm.setCell ⟨q, 0, none⟩ _).setCell ⟨q, 1, none⟩ _).setCell ⟨q, 2, none⟩ _).setCell ⟨q, 3, none⟩ _).setCell ⟨q, 4, none⟩ _) = W9
        obtain ⟨r9, c9⟩ := hqm.set5 rfl _ _ _ _ _ W9 hW9.symm
        have r9d : RowV W9.drew q zRow := r9
        refine bodyPost_ret (results_cell_tmp2 rfl _ _ q _ rfl (load_record _ q _ _ _ _ _ r9d)) rfl ?_
        exact ⟨_, _, _, _, _, _, rfl, recIn_zero _, (Chg.below_tr hbm c9 (fun k hk e => by have h1 : k = q := e; omega)).drew⟩
  · go_upto_region 4 with (first
      | (go_at_call 46; refine (IN _ hI0).mono ?_; rintro y w3 ⟨rfl, hI3, hc3⟩; clear IN)
      | (go_at_call 47; refine (IM _ hI3).mono ?_; rintro y w4 ⟨⟨vm, rfl⟩, hI4, hc4⟩; clear IM))
    have hc24 := hc3.trans hc4 (fun _ _ y => y)
    have Q4 := Q2.keep hc24 (fun e => by omega)
    have B04 := Chg.below_tr B02 hc24 (fun k hk e => by have h1 : k = x := e; omega)
    have hxlt : x < w4.heap.size := RowV.lt hI4 (by simp)
    have G4 := RowV.new w4 [.int .i64 kz, .slice none 0 0, .slice none 0 0, .int .i64 0, .int .i64 0] 25
    have B4 : Below w4.heap.size w4 (w4.alloc (.cells #[.int .i64 kz, .slice none 0 0, .slice none 0 0, .int .i64 0, .int .i64 0] 25)) := (Below.refl _ _).alloc (Nat.le_refl _) _
    have hgs5 : (w4.alloc (.cells #[.int .i64 kz, .slice none 0 0, .slice none 0 0, .int .i64 0, .int .i64 0] 25)).heap.size = w4.heap.size + 1 := by simp
    clear hI0 hI3 hc3 hc4 hc24 Q2 B02
    go_upto_region 5 with (fail)
    generalize w4.alloc (.cells #[.int .i64 kz, .slice none 0 0, .slice none 0 0, .int .i64 0, .int .i64 0] 25) = w5 at G4 B4 hgs5 ⊢
    have Hgs5 := Lib.hid hgs5
    clear hgs5
    obtain ⟨g, hgg⟩ : ∃ g, g = w4.heap.size := ⟨_, rfl⟩
    rw [← hgg] at G4 ⊢
    have hxg : x ≠ g := by omega
    have hxq : x ≠ q := by omega
    have hgB : g < w5.heap.size ∧ x < w5.heap.size ∧ q < w5.heap.size := by have := Hgs5.out; omega
    have hgw : w.heap.size ≤ g ∧ q ≠ g := by have := B04.size; omega
    clear hgg
    have hI5 := RowV.below hI4 B4
    have hqz5 := Q4.below B4
    have hbel5 := below_tr B04 B4
    clear hI4 Q4 B4 B04
    have hkk1 : kk = 1 := by have h1 := HO.out.1; simpa using h1
    have Hkk1 := Lib.hid hkk1
    obtain ⟨n, l2, e3, hN2⟩ : ∃ n l e, Hid (inNum l1 e2 = (n, l, e)) := ⟨_, _, _, Lib.hid rfl⟩
    have IN2 := fun W h => innum_any x l1 e2 hl1s W h
    have hNf2 := inNum_lt l1 e2 hl1s
    rw [hN2.out] at IN2 hNf2
    simp only at hNf2
    have hn64 : n < 18446744073709551616 := hNf2.1
    have hl2s : l2.length ≤ 100000 := by omega
    obtain ⟨O, hO⟩ : ∃ O, Hid ((decide (1 ≤ n) && decide (n ≤ 32)) = O) := ⟨_, Lib.hid rfl⟩
    obtain ⟨e4, hE4⟩ : ∃ e, Hid (inMust e3 O 2 = e) := ⟨_, Lib.hid rfl⟩
    have IM2 := fun W h => inmust_any x l2 e3 O 2 W h
    rw [hE4.out] at IM2
    obtain ⟨RS0, hRS0⟩ : ∃ R, Hid (rdS n l2 e4 [] = R) := ⟨_, Lib.hid rfl⟩
    have hDR : Hid (D = finR (⟨kz, RS0.1, [], 0, 0⟩, RS0.2)) := Lib.hid (by
      rw [hDD.out, hkk1, body_one hN2.out (by rw [hO.out, hE4.out]) (show rdS n l2 e4 [] = (RS0.1, RS0.2.1, RS0.2.2) from hRS0.out), ← hkz, hkk1]; rfl)
    have h28 : Hid (e4 = 0 → n ≤ 32) := Lib.hid (fun h => by
      rw [h] at hE4
      have h1 := (inMust_zero hE4.out (by decide)).2
      rw [← hO.out] at h1
      simp at h1; omega)
    clear hkk1 hNf2
    go_upto_region 7 with (go_at_call 46; refine (IN2 _ hI5).mono ?_; rintro y w6 ⟨rfl, hI6, hc6⟩; clear IN2)
    go_cut [] from 35 to 43 (fun wx => InAt wx x l2 e4 ∧ Chg (fun k => k = x) w5 wx)
    case first =>
      rcases (by omega : n < 1 ∨ (1 ≤ n ∧ 32 < n) ∨ (1 ≤ n ∧ n ≤ 32)) with h | ⟨h, h8⟩ | ⟨h, h8⟩
      · have hi1 : ¬ (1 : Int) ≤ (n : Int) := by omega
        have hd1 : decide ((1 : Int) ≤ (n : Int)) = false := decide_eq_false hi1
        have hOf : O = false := by rw [← hO.out]; simp; omega
        subst hOf
        go_wp2_with (go_at_call 47; refine (IM2 _ hI6).mono ?_; rintro y w7 ⟨⟨v, rfl⟩, hI7, hc7⟩)
        go_meet
        case rel => exact ⟨hI7, hc6.trans hc7 (fun _ _ y => y)⟩
      · have hi1 : (1 : Int) ≤ (n : Int) := by omega
        have hd1 : decide ((1 : Int) ≤ (n : Int)) = true := decide_eq_true hi1
        have hi8 : ¬ (n : Int) ≤ 32 := by omega
        have hd8 : decide ((n : Int) ≤ 32) = false := decide_eq_false hi8
        have hOf : O = false := by rw [← hO.out]; simp; omega
        subst hOf
        go_wp2_with (go_at_call 47; refine (IM2 _ hI6).mono ?_; rintro y w7 ⟨⟨v, rfl⟩, hI7, hc7⟩)
        go_meet
        case rel => exact ⟨hI7, hc6.trans hc7 (fun _ _ y => y)⟩
      · have hi1 : (1 : Int) ≤ (n : Int) := by omega
        have hd1 : decide ((1 : Int) ≤ (n : Int)) = true := decide_eq_true hi1
        have hi8 : (n : Int) ≤ 32 := by omega
        have hd8 : decide ((n : Int) ≤ 32) = true := decide_eq_true hi8
        have hOf : O = true := by rw [← hO.out]; simp; omega
        subst hOf
        go_wp2_with (go_at_call 47; refine (IM2 _ hI6).mono ?_; rintro y w7 ⟨⟨v, rfl⟩, hI7, hc7⟩)
        go_meet
        case rel => exact ⟨hI7, hc6.trans hc7 (fun _ _ y => y)⟩
    case rest =>
      obtain ⟨hI7, hc7⟩ := hcut
      have G7 := G4.keep hc7 (fun e => hxg e.symm)
      clear hI6 hc6 IM2 hI5
      go_upto_region 9 with (fail)
      go_loopw [8] (fun v8 wt => DnAt w5 wt x g n kz RS0 v8) (fun v8 _ => n - (intOf v8).toNat)
      case atStart => exact ⟨0, .slice none 0 0, [], [], l2, e4, by omega, by omega, rfl, Lib.hid rfl, hl2s, Lib.hid hRS0.out.symm, h28, hI7, G7, OwnC.nil _ _, hc7.mono (fun _ _ h => .inl h)⟩
      case round =>
        clear hI7 hc7 G7 G4
        obtain ⟨i, v, css, ss, l, e, hil, hi8, rfl, hps, hls, hR, he8, hI, hgr, hown, hch⟩ := hrel
        have c1 := (hI 1 _ rfl).1
        by_cases hgo : i < n ∧ e = 0
        · obtain ⟨hin, rfl⟩ := hgo
          have hii : (i : Int) < (n : Int) := by omega
          have h32 := he8.out rfl
          obtain ⟨t, m1, d1, hT⟩ : ∃ t m1 d1, Hid (inText l 0 1024 = (t, m1, d1)) := ⟨_, _, _, Lib.hid rfl⟩
          obtain ⟨ls, d2, hL⟩ : ∃ ls d2, Hid (inLab t d1 = (ls, d2)) := ⟨_, _, Lib.hid rfl⟩
          obtain ⟨Z, m2, d3, hS⟩ : ∃ z l e, Hid (inSig m1 d2 = (z, l, e)) := ⟨_, _, _, Lib.hid rfl⟩
          obtain ⟨nv, m3, d4, hV⟩ : ∃ z l e, Hid (inNum m2 d3 = (z, l, e)) := ⟨_, _, _, Lib.hid rfl⟩
          have IT := fun W h => intext_any x l 0 1024 (by omega) (by omega) hls W h
          rw [hT.out] at IT
          have hts := inText_size l 0 1024
          rw [hT.out] at hts
          simp only at hts
          have hm1 : m1.length ≤ 100000 := by omega
          have htl : t.length ≤ 100000 := by omega
          have hsf := inSig_lt m1 d2 hm1
          rw [hS.out] at hsf
          simp only at hsf
          have hzr := hsf.1
          have hm2 : m2.length ≤ 100000 := by omega
          have hvf := inNum_lt m2 d3 hm2
          rw [hV.out] at hvf
          simp only at hvf
          have hv64 := hvf.1
          have hm3 : m3.length ≤ 100000 := by omega
          have hlf := inLab_facts t d1
          rw [hL.out] at hlf
          simp only at hlf
          have hR2 : Hid (RS0 = rdS (n - (i + 1)) m3 d4 (ss ++ [(ls, Z, nv)])) := Lib.hid (by
            rw [hR.out, show n - i = (n - (i + 1)) + 1 from by omega, rdS_succ hT.out hL.out hS.out hV.out])
          clear hts hsf hvf
          go_upto_region 13 with (go_at_call 48; refine (IT _ hI).mono ?_; rintro y w6 ⟨rfl, hI6, hc6⟩; clear IT)
          have x1 := (hI6 1 _ rfl).1
          by_cases hd1 : d1 = 0
          · have hLD : decL t = (ls, d2) := by have h1 := hL.out; unfold inLab at h1; rwa [if_neg (by omega)] at h1
            have LD := fun W => rldecode2_any (mkS t) (by rw [mkS_size]; exact htl) W
            rw [mkS_data, hLD] at LD
            have hd1b : ((d1 : Int) == 0) = true := by rw [beq_iff_eq]; omega
            clear hd1 hLD
            go_upto_region 17 with (go_at_call 49; refine (LD _).mono ?_; rintro y w7 ⟨la, ln, lc, rfl, hq7, hlnL, hb7, hcapL, hlow7⟩; have hI7 := RowV.below hI6 hb7; have x1 := (hI7 1 _ rfl).1; have xz1 := (hI7 1 _ rfl).2; clear LD)
            have hc8 := Chg.setCell w7 ⟨x, 1, none⟩ (.int .i64 (d2 : Nat))
            have hIL : InAt (w7.setCell ⟨x, 1, none⟩ (.int .i64 (d2 : Nat))) x m1 d2 := hI7.set 1 (by simp) _
            have hlowL : ∀ ad, la = some ad → wr.heap.size ≤ ad.block := fun ad e => by have h1 := hlow7 ad e; have := hc6.size; omega
            have hxr : x < wr.heap.size := RowV.lt hI (by simp)
            have hqL : RowQ (w7.setCell ⟨x, 1, none⟩ (.int .i64 (d2 : Nat))) la ls := hq7.keep hc8 (fun ad e f => by have h1 := hlowL ad e; have h2 : ad.block = x := f; omega)
            have hchL : Chg (fun k => k = x) wr (w7.setCell ⟨x, 1, none⟩ (.int .i64 (d2 : Nat))) := (hc6.trans (Chg.of_below (fun k => k = x) hb7) (fun _ _ y => y)).trans hc8 (fun _ _ y => y)
            generalize w7.setCell ⟨x, 1, none⟩ (.int .i64 (d2 : Nat)) = wL at hIL hqL hchL ⊢
            clear hI6 hI7 hc6 hc8 hq7 hb7 hlow7 x1 xz1
            have RS := fun W h => insig_any x m1 d2 hm1 W h
            rw [hS.out] at RS
            have RV := fun W h => innum_any x m2 d3 hm2 W h
            rw [hV.out] at RV
            have hlt4 := Lib.hid (fun g hg => owns_ltR hown.own (g := g) hg)
            have hlow4 := Lib.hid hown.low
            go_upto_region 19 with (first
              | (go_at_call 50; refine (RS _ hIL).mono ?_; rintro y w8 ⟨rfl, hI8, hc8⟩; clear RS)
              | (go_at_call 46; refine (RV _ hI8).mono ?_; rintro y w10 ⟨rfl, hI10, hc10⟩; clear RV))
            have hc810 := hc8.trans hc10 (fun _ _ y => y)
            have hc25 := hchL.trans hc810 (fun _ _ y => y)
            have hown10 := hown.other hc25 hgB.2.1
            have hgr10 := hgr.keep hc25 (fun e => hxg e.symm)
            have ho10 := hown10.own
            rw [hps.out] at ho10
            have y1 := (hgr10 1 _ rfl).1
            have z1 := (hgr10 1 _ rfl).2
            have hq10 : RowQ w10 la ls := hqL.keep hc810 (fun ad e f => by have h1 := hlowL ad e; have h2 : ad.block = x := f; omega)
            have hbase : w5.heap.size ≤ wr.heap.size ∧ wr.heap.size ≤ w10.heap.size := ⟨hch.size, hc25.size⟩
            go_wp2_with (at_builtin; refine wpList_append_fp rfl _ _ 22 rfl 0 43 i1 (.agg #[.slice none 0 0, .int .i64 0, .int .u64 0]) 3 40 Tryd.underlying22 gi gz0 gz1 gz2 rfl (by decide) _ _ _ rfl (ho10.alloc _) ⟨_, 0, none⟩ 1 1 [.slice la ln lc, .int .i64 Z, .int .u64 (nv : Nat)] rfl rfl ?c1 ?c2 ?c3 ?c4 ?c5 ?_)
            case c1 =>
              intro j u hu
              match j, hu with
              | 0, hu => simp at hu; subst hu; simp [Addr.add]
              | 1, hu => simp at hu; subst hu; simp [Addr.add]
              | 2, hu => simp at hu; subst hu; simp [Addr.add]
              | j + 3, hu => simp at hu
            case c2 => intro u hu; simp at hu; rcases hu with rfl | rfl | rfl <;> rfl
            case c3 => unfold maxLen; omega
            case c4 => omega
            case c5 => exact Nat.zero_le _
            intro v2 w11 ho hgw11 _ hbk
            have hca : Chg (fun _ => False) w10 (w10.alloc (.cells #[.slice la ln lc, .int .i64 Z, .int .u64 (nv : Nat)] 43)) := Chg.alloc _ _ _
            have hA : isSmA v w10 [.slice la ln lc, .int .i64 Z, .int .u64 (nv : Nat)] (ls, Z, nv) := ⟨la, ln, lc, rfl, hq10, hlnL, hcapL, by have h1 := hlf.1; omega, fun p hp => by have := hlf.2 p hp; omega, hzr, hv64, fun _ ad e f => by have h1 := hlt4.out _ f; have h2 := hlowL ad e; omega⟩
            have hlab : ∀ (ad : Addr) (m d : Nat), (ls, Z, nv).1 ≠ [] → [Value.slice la ln lc, .int .i64 Z, .int .u64 (nv : Nat)][0]? = some (.slice (some ad) m d) → w5.heap.size ≤ ad.block := fun ad m d _ e => by
              have e2 : Value.slice la ln lc = .slice (some ad) m d := Option.some.inj e
              cases e2
              have h1 := hlowL ad rfl; omega
            have hown11 := hown10.push (wa := w10.alloc (.cells #[.slice la ln lc, .int .i64 Z, .int .u64 (nv : Nat)] 43)) hA hlab (by omega) hca hgw11 (by simpa using hbk) (by rw [hps.out]; exact ho)
            have hch1011 : Chg (fun k => some k = v.ownBlock) w10 w11 := (hca.mono (fun _ _ x => x.elim)).trans (Chg.grown hgw11) (fun _ _ x => x)
            have hI11 : InAt w11 x m3 d4 := RowV.keep hI10 hch1011 (fun e => by have h1 := hlow4.out x e.symm; omega)
            have hgr11 := hgr10.keep hch1011 (fun e => by have h1 := hlow4.out g e.symm; omega)
            have hch11 : Chg (fun k => k = x ∨ k = g) w5 w11 := (hch.trans hc25 (fun _ _ x => .inl x)).trans hch1011 (fun k hk e => by have h1 := hlow4.out k e.symm; omega)
            have y1 := (hgr11 1 _ rfl).1
            have z1 := (hgr11 1 _ rfl).2
            clear ho hgw11 hbk hca hA hlab hch1011 hown10 ho10 hq10 hqL hIL hc8 hc10 hc810 hc25
            obtain ⟨a2, c2, hv2, _, _⟩ := hown11.row
            obtain ⟨n2, hn2⟩ : ∃ n2, (ss ++ [(ls, Z, nv)]).length = n2 := ⟨_, rfl⟩
            rw [hn2] at hv2
            clear hn2
            subst hv2
            go_wp2
            have hcs := Chg.setCell w11 ⟨g, 1, none⟩ (.slice a2 n2 c2)
            have hIs : InAt (w11.setCell ⟨g, 1, none⟩ (.slice a2 n2 c2)) x m3 d4 := RowV.keep hI11 hcs hxg
            have hgrs := hgr11.set 1 (by simp) (.slice a2 n2 c2)
            simp only [List.set_cons_succ, List.set_cons_zero] at hgrs
            have howns := hown11.other hcs hgB.1
            have hchs : Chg (fun k => k = x ∨ k = g) w5 (w11.setCell ⟨g, 1, none⟩ (.slice a2 n2 c2)) := hch11.trans hcs (fun _ _ e => .inr e)
            generalize w11.setCell ⟨g, 1, none⟩ (.slice a2 n2 c2) = ws at hIs hgrs howns hchs ⊢
            go_roundw
            case rel => exact ⟨i + 1, (.slice a2 n2 c2), _, _, m3, d4, by omega, by omega, by go_num, Lib.hid (by rw [List.length_append, hps.out]; rfl), hm3, hR2, Lib.hid (fun _ => h32), hIs, hgrs, howns, hchs⟩
            case measure => simp [intOf]; omega
          · have hLD : ls = [] ∧ d2 = d1 := by have h1 := hL.out; unfold inLab at h1; rw [if_pos hd1] at h1; simp only [Prod.mk.injEq] at h1; exact ⟨h1.1.symm, h1.2.symm⟩
            obtain ⟨rfl, rfl⟩ := hLD
            have hd1b : ((d2 : Int) == 0) = false := by rw [beq_eq_false_iff_ne]; omega
            clear hd1
            go_upto_region 17 with (fail)
            have hlnL : ([] : List Pr).length = 0 := rfl
            have hcapL : ((none : Option Addr) = none → 0 = 0) ∧ 0 ≤ 0 := ⟨fun _ => rfl, Nat.le_refl _⟩
            have hlowL : ∀ ad, (none : Option Addr) = some ad → wr.heap.size ≤ ad.block := fun ad e => by cases e
            have hqL : RowQ w6 none [] := ⟨.inl rfl⟩
            have hIL := hI6
            have hchL := hc6
            clear hI6 hc6 x1
            have RS := fun W h => insig_any x m1 d2 hm1 W h
            rw [hS.out] at RS
            have RV := fun W h => innum_any x m2 d3 hm2 W h
            rw [hV.out] at RV
            have hlt4 := Lib.hid (fun g hg => owns_ltR hown.own (g := g) hg)
            have hlow4 := Lib.hid hown.low
            go_upto_region 19 with (first
              | (go_at_call 50; refine (RS _ hIL).mono ?_; rintro y w8 ⟨rfl, hI8, hc8⟩; clear RS)
              | (go_at_call 46; refine (RV _ hI8).mono ?_; rintro y w10 ⟨rfl, hI10, hc10⟩; clear RV))
            have hc810 := hc8.trans hc10 (fun _ _ y => y)
            have hc25 := hchL.trans hc810 (fun _ _ y => y)
            have hown10 := hown.other hc25 hgB.2.1
            have hgr10 := hgr.keep hc25 (fun e => hxg e.symm)
            have ho10 := hown10.own
            rw [hps.out] at ho10
            have y1 := (hgr10 1 _ rfl).1
            have z1 := (hgr10 1 _ rfl).2
            have hq10 : RowQ w10 none [] := hqL.keep hc810 (fun ad e f => by cases e)
            have hbase : w5.heap.size ≤ wr.heap.size ∧ wr.heap.size ≤ w10.heap.size := ⟨hch.size, hc25.size⟩
            go_wp2_with (at_builtin; refine wpList_append_fp rfl _ _ 22 rfl 0 43 i1 (.agg #[.slice none 0 0, .int .i64 0, .int .u64 0]) 3 40 Tryd.underlying22 gi gz0 gz1 gz2 rfl (by decide) _ _ _ rfl (ho10.alloc _) ⟨_, 0, none⟩ 1 1 [.slice none 0 0, .int .i64 Z, .int .u64 (nv : Nat)] rfl rfl ?d1 ?d2 ?d3 ?d4 ?d5 ?_)
            case d1 =>
              intro j u hu
              match j, hu with
              | 0, hu => simp at hu; subst hu; simp [Addr.add]
              | 1, hu => simp at hu; subst hu; simp [Addr.add]
              | 2, hu => simp at hu; subst hu; simp [Addr.add]
              | j + 3, hu => simp at hu
            case d2 => intro u hu; simp at hu; rcases hu with rfl | rfl | rfl <;> rfl
            case d3 => unfold maxLen; omega
            case d4 => omega
            case d5 => exact Nat.zero_le _
            intro v2 w11 ho hgw11 _ hbk
            have hca : Chg (fun _ => False) w10 (w10.alloc (.cells #[.slice none 0 0, .int .i64 Z, .int .u64 (nv : Nat)] 43)) := Chg.alloc _ _ _
            have hA : isSmA v w10 [.slice none 0 0, .int .i64 Z, .int .u64 (nv : Nat)] (([] : List Pr), Z, nv) := ⟨none, 0, 0, rfl, hq10, rfl, ⟨fun _ => rfl, Nat.le_refl _⟩, by have h1 := hlf.1; omega, fun p hp => by have := hlf.2 p hp; omega, hzr, hv64, fun _ ad e f => by cases e⟩
            have hlab : ∀ (ad : Addr) (m d : Nat), (([] : List Pr), Z, nv).1 ≠ [] → [Value.slice none 0 0, .int .i64 Z, .int .u64 (nv : Nat)][0]? = some (.slice (some ad) m d) → w5.heap.size ≤ ad.block := fun ad m d _ e => by
              have e2 : Value.slice none 0 0 = .slice (some ad) m d := Option.some.inj e
              cases e2
            have hown11 := hown10.push (wa := w10.alloc (.cells #[.slice none 0 0, .int .i64 Z, .int .u64 (nv : Nat)] 43)) hA hlab (by omega) hca hgw11 (by simpa using hbk) (by rw [hps.out]; exact ho)
            have hch1011 : Chg (fun k => some k = v.ownBlock) w10 w11 := (hca.mono (fun _ _ x => x.elim)).trans (Chg.grown hgw11) (fun _ _ x => x)
            have hI11 : InAt w11 x m3 d4 := RowV.keep hI10 hch1011 (fun e => by have h1 := hlow4.out x e.symm; omega)
            have hgr11 := hgr10.keep hch1011 (fun e => by have h1 := hlow4.out g e.symm; omega)
            have hch11 : Chg (fun k => k = x ∨ k = g) w5 w11 := (hch.trans hc25 (fun _ _ x => .inl x)).trans hch1011 (fun k hk e => by have h1 := hlow4.out k e.symm; omega)
            have y1 := (hgr11 1 _ rfl).1
            have z1 := (hgr11 1 _ rfl).2
            clear ho hgw11 hbk hca hA hlab hch1011 hown10 ho10 hq10 hqL hIL hc8 hc10 hc810 hc25
            obtain ⟨a2, c2, hv2, _, _⟩ := hown11.row
            obtain ⟨n2, hn2⟩ : ∃ n2, (ss ++ [(([] : List Pr), Z, nv)]).length = n2 := ⟨_, rfl⟩
            rw [hn2] at hv2
            clear hn2
            subst hv2
            go_wp2
            have hcs := Chg.setCell w11 ⟨g, 1, none⟩ (.slice a2 n2 c2)
            have hIs : InAt (w11.setCell ⟨g, 1, none⟩ (.slice a2 n2 c2)) x m3 d4 := RowV.keep hI11 hcs hxg
            have hgrs := hgr11.set 1 (by simp) (.slice a2 n2 c2)
            simp only [List.set_cons_succ, List.set_cons_zero] at hgrs
            have howns := hown11.other hcs hgB.1
            have hchs : Chg (fun k => k = x ∨ k = g) w5 (w11.setCell ⟨g, 1, none⟩ (.slice a2 n2 c2)) := hch11.trans hcs (fun _ _ e => .inr e)
            generalize w11.setCell ⟨g, 1, none⟩ (.slice a2 n2 c2) = ws at hIs hgrs howns hchs ⊢
            go_roundw
            case rel => exact ⟨i + 1, (.slice a2 n2 c2), _, _, m3, d4, by omega, by omega, by go_num, Lib.hid (by rw [List.length_append, hps.out]; rfl), hm3, hR2, Lib.hid (fun _ => h32), hIs, hgrs, howns, hchs⟩
            case measure => simp [intOf]; omega
        · have hR3 : Hid (RS0 = (ss, l, e)) := Lib.hid (by
            rw [hR.out]
            by_cases hin : i < n
            · exact rdS_bad (fun h => hgo ⟨hin, h⟩)
            · rw [show n - i = 0 from by omega]; rfl)
          have hfin : Hid (D = finR (⟨kz, ss, [], 0, 0⟩, l, e)) := Lib.hid (by rw [hDR.out, hR3.out])
          have hss32 : ss.length ≤ 32 := by rw [hps.out]; exact hi8
          obtain ⟨a, c, rfl, hrow, hcap9⟩ := hown.row
          have hF : RecFr wr w5.heap.size kz ss [] 0 0 a ss.length c none 0 0 := ⟨⟨css, hown⟩, rfl, .inl rfl, rfl, by omega, by omega, by omega, by omega, fun ad h => by cases h⟩
          have hqz := hqz5.keep hch (fun e => e.elim (fun e => hxq e.symm) (fun e => hgw.2 e))
          have hbel := Chg.below_tr hbel5 hch (fun k hk e => by rcases e with h1 | h1 <;> omega)
          have hg := hgr
          obtain ⟨nn, hnn⟩ : ∃ nn, ss.length = nn := ⟨_, rfl⟩
          rw [hnn] at hF hg
          have Hnn := Lib.hid hnn
          clear hR hR3 hDR hown hgr hch hcap9 hrow hqz5 hbel5 hnn hss32
          by_cases hin : i < n
          · have hii : (i : Int) < (n : Int) := by omega
            have hei : ¬ (e : Int) = 0 := by omega
            clear hgo
            go_upto_region 24 with (fail)
            obtain ⟨OM, hemp⟩ : ∃ b, (mkS l).toList.isEmpty = b := ⟨_, rfl⟩
            have Hemp := Lib.hid hemp
            obtain ⟨e6, hE6⟩ : ∃ e', Hid (inMust e OM 6 = e') := ⟨_, Lib.hid rfl⟩
            have IM := fun W h => inmust_any x l e OM 6 W h
            rw [hE6.out] at IM
            have cx0 := (hI 0 _ rfl).1
            go_upto_region 25 with (go_at_call 47; refine (IM _ hI).mono ?_; rintro y wm ⟨⟨vm, rfl⟩, hIm, hcm⟩; clear IM)
            have hgm := hg.keep hcm (fun e => hxg e.symm)
            have hqm := hqz.keep hcm (fun e => hxq e.symm)
            have hFm := hF.otherF hcm (fun k e => by have h1 : k = x := e; omega)
            have hbm := Chg.below_tr hbel hcm (fun k hk e => by have h1 : k = x := e; omega)
            clear hI hg hqz hF hbel hcm cx0
            have d1 := (hIm 1 _ rfl).1
            by_cases he6 : e6 = 0
            · have hei6 : (e6 : Int) = 0 := by omega
              have he0 : Hid (e = 0 ∧ OM = true) := Lib.hid (by rw [he6] at hE6; exact inMust_zero hE6.out (by decide))
              have CK := fun W h => rrchk_any kz ss [] 0 0 a nn c none 0 0 W h
              obtain ⟨C, hC⟩ : ∃ C, Hid (chkR kz ss [] 0 0 = C) := ⟨_, Lib.hid rfl⟩
              rw [hC.out] at CK
              have hfin2 : Hid (D = if C ≠ 0 then (zR, C) else (⟨kz, ss, [], 0, 0⟩, 0)) := Lib.hid (by
                have hl0 : l = [] := by
                  have h1 := Hemp.out
                  rw [he0.out.2, ByteArray.toList_eq, mkS_data] at h1
                  exact List.isEmpty_iff.mp h1
                rw [hfin.out]; unfold finR; simp only; rw [if_neg (by simp [he0.out.1]), if_neg (by simp [hl0]), hC.out])
              have k0 := (hgm 0 _ rfl).1
              have k1 := (hgm 1 _ rfl).1
              have k2 := (hgm 2 _ rfl).1
              have k3 := (hgm 3 _ rfl).1
              have k4 := (hgm 4 _ rfl).1
              go_upto_region 27 with (go_at_call 15; refine (CK _ hFm.recIn).mono ?_; rintro y wc ⟨rfl, hbc⟩; have hIc := RowV.below hIm hbc; have dc0 := (hIc 1 _ rfl).1; have dc1 := (hIc 1 _ rfl).2)
              have hcs := Chg.setCell wc ⟨x, 1, none⟩ (.int .i64 (C : Nat))
              have hIs : InAt (wc.setCell ⟨x, 1, none⟩ (.int .i64 (C : Nat))) x l C := hIc.set 1 (by simp) _
              have hgs := (hgm.below hbc).keep hcs (fun e => hxg e.symm)
              have hqs := (hqm.below hbc).keep hcs (fun e => hxq e.symm)
              have hFs := (hFm.otherF (Chg.of_below (fun _ => False) hbc) (fun k e => e.elim)).otherF hcs (fun k e => by have h1 : k = x := e; omega)
              have hbs := Chg.below_tr (below_tr hbm hbc) hcs (fun k hk e => by have h1 : k = x := e; omega)
              generalize wc.setCell ⟨x, 1, none⟩ (.int .i64 (C : Nat)) = ws at hIs hgs hqs hFs hbs ⊢
              have ds1 := (hIs 1 _ rfl).1
              clear hIm hgm hqm hFm hbm hIc dc0 dc1 hcs k0 k1 k2 k3 k4 d1 hbc
              have f0 := (hqs 0 _ rfl).2
              have f1 := (hqs 1 _ rfl).2
              have f2 := (hqs 2 _ rfl).2
              have f3 := (hqs 3 _ rfl).2
              have f4 := (hqs 4 _ rfl).2
              have y0 := (hqs 0 _ rfl).1
              have y1 := (hqs 1 _ rfl).1
              have y2 := (hqs 2 _ rfl).1
              have y3 := (hqs 3 _ rfl).1
              have y4 := (hqs 4 _ rfl).1
              by_cases hC0 : C = 0
              · have hCi : (C : Int) = 0 := by omega
                have hD9 : D = (⟨kz, ss, [], 0, 0⟩, 0) := by rw [hfin2.out, if_neg (by simp [hC0])]
                subst hD9
                have k0 := (hgs 0 _ rfl).1
                have k1 := (hgs 1 _ rfl).1
                have k2 := (hgs 2 _ rfl).1
                have k3 := (hgs 3 _ rfl).1
                have k4 := (hgs 4 _ rfl).1
                go_wp2
                generalize hW9 : (((((ws.setCell ⟨q, 0, none⟩ _).setCell ⟨q, 1, none⟩ _).setCell ⟨q, 2, none⟩ _).setCell ⟨q, 3, none⟩ _).setCell ⟨q, 4, none⟩ _) = W9
                obtain ⟨r9, c9⟩ := hqs.set5 rfl _ _ _ _ _ W9 hW9.symm
                refine bodyPost_ret (results_cell_tmp2 rfl _ _ q _ rfl (load_record W9 q _ _ _ _ _ r9)) rfl ?_
                exact ⟨_, _, _, _, _, _, rfl, (hFs.otherF c9 (fun k e => by have h1 : k = q := e; omega)).recIn, Chg.below_tr hbs c9 (fun k hk e => by have h1 : k = q := e; omega)⟩
              · have hCi : ¬ (C : Int) = 0 := by omega
                have hD9 : D = (zR, C) := by rw [hfin2.out, if_pos hC0]
                subst hD9
                go_upto_region 28 with (fail)
                go_region
                go_wp2
                generalize hW9 : (((((ws.setCell ⟨q, 0, none⟩ _).setCell ⟨q, 1, none⟩ _).setCell ⟨q, 2, none⟩ _).setCell ⟨q, 3, none⟩ _).setCell ⟨q, 4, none⟩ _) = W9
                obtain ⟨r9, c9⟩ := hqs.set5 rfl _ _ _ _ _ W9 hW9.symm
                have r9d : RowV W9.drew q zRow := r9
                refine bodyPost_ret (results_cell_tmp2 rfl _ _ q _ rfl (load_record _ q _ _ _ _ _ r9d)) rfl ?_
                exact ⟨_, _, _, _, _, _, rfl, recIn_zero _, (Chg.below_tr hbs c9 (fun k hk e => by have h1 : k = q := e; omega)).drew⟩
            · have hei6 : ¬ (e6 : Int) = 0 := by omega
              have hD9 : D = (zR, e6) := by
                rw [hfin.out]
                unfold finR
                simp only
                have h6 := hE6.out
                by_cases he0 : e = 0
                · have hOM : OM = false := by
                    cases OM with
                    | false => rfl
                    | true => rw [he0] at h6; exact absurd (h6.symm.trans (inMust_true 0 6)) he6
                  have hl0 : l ≠ [] := fun h => by
                    have h1 := Hemp.out
                    rw [hOM, h, ByteArray.toList_eq, mkS_data] at h1
                    cases h1
                  rw [he0, hOM] at h6
                  have h66 : e6 = 6 := h6.symm
                  rw [if_neg (by simp [he0]), if_pos hl0, h66]
                · rw [inMust_bad he0] at h6
                  rw [if_pos he0, h6]
              subst hD9
              have f0 := (hqm 0 _ rfl).2
              have f1 := (hqm 1 _ rfl).2
              have f2 := (hqm 2 _ rfl).2
              have f3 := (hqm 3 _ rfl).2
              have f4 := (hqm 4 _ rfl).2
              have y0 := (hqm 0 _ rfl).1
              have y1 := (hqm 1 _ rfl).1
              have y2 := (hqm 2 _ rfl).1
              have y3 := (hqm 3 _ rfl).1
              have y4 := (hqm 4 _ rfl).1
              go_upto_region 28 with (fail)
              go_region
              go_wp2
              generalize hW9 : (((((wm.setCell ⟨q, 0, none⟩ _).setCell ⟨q, 1, none⟩ _).setCell ⟨q, 2, none⟩ _).setCell ⟨q, 3, none⟩ _).setCell ⟨q, 4, none⟩ _) = W9
              obtain ⟨r9, c9⟩ := hqm.set5 rfl _ _ _ _ _ W9 hW9.symm
              have r9d : RowV W9.drew q zRow := r9
              refine bodyPost_ret (results_cell_tmp2 rfl _ _ q _ rfl (load_record _ q _ _ _ _ _ r9d)) rfl ?_
              exact ⟨_, _, _, _, _, _, rfl, recIn_zero _, (Chg.below_tr hbm c9 (fun k hk e => by have h1 : k = q := e; omega)).drew⟩
          · have hii : ¬ (i : Int) < (n : Int) := by omega
            clear hgo
            go_upto_region 24 with (fail)
            obtain ⟨OM, hemp⟩ : ∃ b, (mkS l).toList.isEmpty = b := ⟨_, rfl⟩
            have Hemp := Lib.hid hemp
            obtain ⟨e6, hE6⟩ : ∃ e', Hid (inMust e OM 6 = e') := ⟨_, Lib.hid rfl⟩
            have IM := fun W h => inmust_any x l e OM 6 W h
            rw [hE6.out] at IM
            have cx0 := (hI 0 _ rfl).1
            go_upto_region 25 with (go_at_call 47; refine (IM _ hI).mono ?_; rintro y wm ⟨⟨vm, rfl⟩, hIm, hcm⟩; clear IM)
            have hgm := hg.keep hcm (fun e => hxg e.symm)
            have hqm := hqz.keep hcm (fun e => hxq e.symm)
            have hFm := hF.otherF hcm (fun k e => by have h1 : k = x := e; omega)
            have hbm := Chg.below_tr hbel hcm (fun k hk e => by have h1 : k = x := e; omega)
            clear hI hg hqz hF hbel hcm cx0
            have d1 := (hIm 1 _ rfl).1
            by_cases he6 : e6 = 0
            · have hei6 : (e6 : Int) = 0 := by omega
              have he0 : Hid (e = 0 ∧ OM = true) := Lib.hid (by rw [he6] at hE6; exact inMust_zero hE6.out (by decide))
              have CK := fun W h => rrchk_any kz ss [] 0 0 a nn c none 0 0 W h
              obtain ⟨C, hC⟩ : ∃ C, Hid (chkR kz ss [] 0 0 = C) := ⟨_, Lib.hid rfl⟩
              rw [hC.out] at CK
              have hfin2 : Hid (D = if C ≠ 0 then (zR, C) else (⟨kz, ss, [], 0, 0⟩, 0)) := Lib.hid (by
                have hl0 : l = [] := by
                  have h1 := Hemp.out
                  rw [he0.out.2, ByteArray.toList_eq, mkS_data] at h1
                  exact List.isEmpty_iff.mp h1
                rw [hfin.out]; unfold finR; simp only; rw [if_neg (by simp [he0.out.1]), if_neg (by simp [hl0]), hC.out])
              have k0 := (hgm 0 _ rfl).1
              have k1 := (hgm 1 _ rfl).1
              have k2 := (hgm 2 _ rfl).1
              have k3 := (hgm 3 _ rfl).1
              have k4 := (hgm 4 _ rfl).1
              go_upto_region 27 with (go_at_call 15; refine (CK _ hFm.recIn).mono ?_; rintro y wc ⟨rfl, hbc⟩; have hIc := RowV.below hIm hbc; have dc0 := (hIc 1 _ rfl).1; have dc1 := (hIc 1 _ rfl).2)
              have hcs := Chg.setCell wc ⟨x, 1, none⟩ (.int .i64 (C : Nat))
              have hIs : InAt (wc.setCell ⟨x, 1, none⟩ (.int .i64 (C : Nat))) x l C := hIc.set 1 (by simp) _
              have hgs := (hgm.below hbc).keep hcs (fun e => hxg e.symm)
              have hqs := (hqm.below hbc).keep hcs (fun e => hxq e.symm)
              have hFs := (hFm.otherF (Chg.of_below (fun _ => False) hbc) (fun k e => e.elim)).otherF hcs (fun k e => by have h1 : k = x := e; omega)
              have hbs := Chg.below_tr (below_tr hbm hbc) hcs (fun k hk e => by have h1 : k = x := e; omega)
              generalize wc.setCell ⟨x, 1, none⟩ (.int .i64 (C : Nat)) = ws at hIs hgs hqs hFs hbs ⊢
              have ds1 := (hIs 1 _ rfl).1
              clear hIm hgm hqm hFm hbm hIc dc0 dc1 hcs k0 k1 k2 k3 k4 d1 hbc
              have f0 := (hqs 0 _ rfl).2
              have f1 := (hqs 1 _ rfl).2
              have f2 := (hqs 2 _ rfl).2
              have f3 := (hqs 3 _ rfl).2
              have f4 := (hqs 4 _ rfl).2
              have y0 := (hqs 0 _ rfl).1
              have y1 := (hqs 1 _ rfl).1
              have y2 := (hqs 2 _ rfl).1
              have y3 := (hqs 3 _ rfl).1
              have y4 := (hqs 4 _ rfl).1
              by_cases hC0 : C = 0
              · have hCi : (C : Int) = 0 := by omega
                have hD9 : D = (⟨kz, ss, [], 0, 0⟩, 0) := by rw [hfin2.out, if_neg (by simp [hC0])]
                subst hD9
                have k0 := (hgs 0 _ rfl).1
                have k1 := (hgs 1 _ rfl).1
                have k2 := (hgs 2 _ rfl).1
                have k3 := (hgs 3 _ rfl).1
                have k4 := (hgs 4 _ rfl).1
                go_wp2
                generalize hW9 : (((((ws.setCell ⟨q, 0, none⟩ _).setCell ⟨q, 1, none⟩ _).setCell ⟨q, 2, none⟩ _).setCell ⟨q, 3, none⟩ _).setCell ⟨q, 4, none⟩ _) = W9
                obtain ⟨r9, c9⟩ := hqs.set5 rfl _ _ _ _ _ W9 hW9.symm
                refine bodyPost_ret (results_cell_tmp2 rfl _ _ q _ rfl (load_record W9 q _ _ _ _ _ r9)) rfl ?_
                exact ⟨_, _, _, _, _, _, rfl, (hFs.otherF c9 (fun k e => by have h1 : k = q := e; omega)).recIn, Chg.below_tr hbs c9 (fun k hk e => by have h1 : k = q := e; omega)⟩
              · have hCi : ¬ (C : Int) = 0 := by omega
                have hD9 : D = (zR, C) := by rw [hfin2.out, if_pos hC0]
                subst hD9
                go_upto_region 28 with (fail)
                go_region
                go_wp2
                generalize hW9 : (((((ws.setCell ⟨q, 0, none⟩ _).setCell ⟨q, 1, none⟩ _).setCell ⟨q, 2, none⟩ _).setCell ⟨q, 3, none⟩ _).setCell ⟨q, 4, none⟩ _) = W9
                obtain ⟨r9, c9⟩ := hqs.set5 rfl _ _ _ _ _ W9 hW9.symm
                have r9d : RowV W9.drew q zRow := r9
                refine bodyPost_ret (results_cell_tmp2 rfl _ _ q _ rfl (load_record _ q _ _ _ _ _ r9d)) rfl ?_
                exact ⟨_, _, _, _, _, _, rfl, recIn_zero _, (Chg.below_tr hbs c9 (fun k hk e => by have h1 : k = q := e; omega)).drew⟩
            · have hei6 : ¬ (e6 : Int) = 0 := by omega
              have hD9 : D = (zR, e6) := by
                rw [hfin.out]
                unfold finR
                simp only
                have h6 := hE6.out
                by_cases he0 : e = 0
                · have hOM : OM = false := by
                    cases OM with
                    | false => rfl
                    | true => rw [he0] at h6; exact absurd (h6.symm.trans (inMust_true 0 6)) he6
                  have hl0 : l ≠ [] := fun h => by
                    have h1 := Hemp.out
                    rw [hOM, h, ByteArray.toList_eq, mkS_data] at h1
                    cases h1
                  rw [he0, hOM] at h6
                  have h66 : e6 = 6 := h6.symm
                  rw [if_neg (by simp [he0]), if_pos hl0, h66]
                · rw [inMust_bad he0] at h6
                  rw [if_pos he0, h6]
              subst hD9
              have f0 := (hqm 0 _ rfl).2
              have f1 := (hqm 1 _ rfl).2
              have f2 := (hqm 2 _ rfl).2
              have f3 := (hqm 3 _ rfl).2
              have f4 := (hqm 4 _ rfl).2
              have y0 := (hqm 0 _ rfl).1
              have y1 := (hqm 1 _ rfl).1
              have y2 := (hqm 2 _ rfl).1
              have y3 := (hqm 3 _ rfl).1
              have y4 := (hqm 4 _ rfl).1
              go_upto_region 28 with (fail)
              go_region
              go_wp2
              generalize hW9 : (((((wm.setCell ⟨q, 0, none⟩ _).setCell ⟨q, 1, none⟩ _).setCell ⟨q, 2, none⟩ _).setCell ⟨q, 3, none⟩ _).setCell ⟨q, 4, none⟩ _) = W9
              obtain ⟨r9, c9⟩ := hqm.set5 rfl _ _ _ _ _ W9 hW9.symm
              have r9d : RowV W9.drew q zRow := r9
              refine bodyPost_ret (results_cell_tmp2 rfl _ _ q _ rfl (load_record _ q _ _ _ _ _ r9d)) rfl ?_
              exact ⟨_, _, _, _, _, _, rfl, recIn_zero _, (Chg.below_tr hbm c9 (fun k hk e => by have h1 : k = q := e; omega)).drew⟩
end Go.Proofs.YtjmcpdhfefcdgaaDoor
