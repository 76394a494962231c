/- The program's check of a message. -/
import Derived.Test.YtmaebileagfdaaaWr
namespace Go.Proofs.Ytmaebileagfdaaa
open Go.RowKit Dig Wr

theorem ret_i64 {a b : Int} (h : a = b) : Ending.returned (.int .i64 a) = .returned (.int .i64 b) := by rw [h]
theorem ibeq0 (n : Nat) : ((n : Int) == 0) = decide (n = 0) := by rw [Bool.eq_iff_iff]; simp
theorem empty_size (s : ByteArray) : s.toList.isEmpty = decide (s.size = 0) := by
  rw [ByteArray.toList_eq, size_toList]
  cases s.data.toList <;> simp

set_option maxRecDepth 100000 in
set_option maxHeartbeats 2000000 in
theorem nopiece_any (m : Msg) (a : Option Addr) (n c : Nat) (w : World) :
    Calls Try.prog 60 #[msgV m a n c] w fun e w' => e = .returned (.bool (noB m)) ∧ Below w.heap.size w w' := by
  obtain ⟨k, e, b, l, la, ap, su, rs, tx⟩ := m
  unfold msgV noB
  simp only
  go_enter Try.func60, Try.ntmps60
  go_wp2
  all_goals go_ret
  all_goals exact ⟨ret_bool (by simp [*, empty_size]), (Below.refl _ _).alloc (Nat.le_refl _) _⟩

set_option maxRecDepth 100000 in
set_option maxHeartbeats 2000000 in
theorem records_any (a : Option Addr) (n c : Nat) (rs : List ByteArray) (hn : rs.length = n) (w : World) (hr : RowS w a rs) (hb : n ≤ 4611686018427387904) :
    Calls Try.prog 61 #[.slice a n c] w fun e w' => e = .returned (.bool (recsB rs && decide (rs.length ≤ 4))) ∧ Below w.heap.size w w' := by
  go_enter Try.func61, Try.ntmps61
  go_wp2
  go_loopw [7] (fun i wr => ∃ j : Nat, j ≤ n ∧ i = .int .i64 j ∧ Hid (recsB (rs.take j) = true) ∧ wr = w) (fun i _ => n - (intOf i).toNat)
  case atStart => exact ⟨0, by omega, rfl, Lib.hid rfl, rfl⟩
  case round =>
    obtain ⟨j, hj, rfl, htk, rfl⟩ := hrel
    by_cases hlt : j < n
    · have hji : (j : Int) < (n : Int) := by omega
      have hza := List.getElem?_eq_getElem (l := rs) (i := j) (by omega)
      obtain ⟨r, hVN⟩ : ∃ r, Hid (rs[j]'(by omega) = r) := ⟨_, Lib.hid rfl⟩
      rw [hVN.out] at hza
      rcases hr.row with h0 | ⟨x, rfl, hc⟩
      · rw [h0] at hza; simp at hza
      have c0 := hc j _ hza
      have Ha := Lib.hid hza
      clear hc hza
      have hst : Hid (recsB (rs.take (j + 1)) = (decide (1 ≤ r.size) && decide (r.size ≤ 65536))) := Lib.hid (by
        have h1 := htk.out
        unfold recsB at h1 ⊢
        rw [List.take_add_one, Ha.out, List.all_append, h1]; simp)
      have hall : Hid (recsB (rs.take (j + 1)) = false → recsB rs = false) := Lib.hid (fun h => by
        unfold recsB at h ⊢
        rw [← List.take_append_drop (j + 1) rs, List.all_append, h]; rfl)
      by_cases h1 : 1 ≤ r.size
      · have hne : r.toList.isEmpty = false := by rw [empty_size]; first | exact decide_eq_false (by omega) | exact decide_eq_true (by omega)
        by_cases h2 : r.size ≤ 65536
        · have h2i : ¬ (65536 : Int) < (r.size : Int) := by omega
          go_wp2
          go_roundw
          case rel => exact ⟨j + 1, by omega, by go_num, Lib.hid (by rw [hst.out]; simp [h1, h2]), by first | rfl | trivial⟩
          case measure => simp [intOf]; omega
        · have h2i : (65536 : Int) < (r.size : Int) := by omega
          go_wp2
          go_ret
          exact ⟨ret_bool (by rw [hall.out (by rw [hst.out]; simp; omega)]; rfl), Below.refl _ _⟩
      · have hne : r.toList.isEmpty = true := by rw [empty_size]; first | exact decide_eq_false (by omega) | exact decide_eq_true (by omega)
        go_wp2
        go_ret
        exact ⟨ret_bool (by rw [hall.out (by rw [hst.out]; simp; omega)]; rfl), Below.refl _ _⟩
    · have hji : ¬ (j : Int) < (n : Int) := by omega
      have hte : Hid (recsB rs = true) := Lib.hid (by have := htk.out; rw [List.take_of_length_le (by omega)] at this; exact this)
      have hni : Hid (decide (rs.length ≤ 4) = decide ((n : Int) ≤ 4)) := Lib.hid (by rw [hn]; exact decide_eq_decide.mpr (by omega))
      clear hn
      go_wp2
      go_ret
      exact ⟨ret_bool (by rw [hte.out, hni.out]; rfl), Below.refl _ _⟩

set_option maxRecDepth 100000 in
set_option maxHeartbeats 2000000 in
theorem win_any (low : Int) (a : Option Addr) (n c : Nat) (zs : List Int) (hn : zs.length = n) (w : World) (hr : RowI .i64 w a zs) (hb : n ≤ 4611686018427387904) :
    Calls Try.prog 58 #[.int .i64 low, .slice a n c] w fun e w' => e = .returned (.bool (zs.all (inB low))) ∧ Below w.heap.size w w' := by
  go_enter Try.func58, Try.ntmps58
  go_wp2
  go_loopw [9] (fun i wr => ∃ j : Nat, j ≤ n ∧ i = .int .i64 j ∧ Hid ((zs.take j).all (inB low) = true) ∧ wr = w) (fun i _ => n - (intOf i).toNat)
  case atStart => exact ⟨0, by omega, rfl, Lib.hid rfl, rfl⟩
  case round =>
    obtain ⟨j, hj, rfl, htk, rfl⟩ := hrel
    by_cases hlt : j < n
    · have hji : (j : Int) < (n : Int) := by omega
      have hza := List.getElem?_eq_getElem (l := zs) (i := j) (by omega)
      obtain ⟨r, hVN⟩ : ∃ r, Hid (zs[j]'(by omega) = r) := ⟨_, Lib.hid rfl⟩
      rw [hVN.out] at hza
      rcases hr.row with h0 | ⟨x, rfl, hc⟩
      · rw [h0] at hza; simp at hza
      have c0 := hc j _ hza
      have Ha := Lib.hid hza
      clear hc hza
      have hst : Hid ((zs.take (j + 1)).all (inB low) = inB low r) := Lib.hid (by
        rw [List.take_add_one, Ha.out, List.all_append, htk.out]; simp)
      have hall : Hid (inB low r = false → zs.all (inB low) = false) := Lib.hid (fun h => by
        rw [← List.take_append_drop (j + 1) zs, List.all_append, hst.out, h]; rfl)
      by_cases h1 : r < low
      · go_wp2
        go_ret
        exact ⟨ret_bool (by rw [hall.out (by unfold inB; simp; omega)]), Below.refl _ _⟩
      · by_cases h2 : 99999999 < r
        · go_wp2
          go_ret
          exact ⟨ret_bool (by rw [hall.out (by unfold inB; simp; omega)]), Below.refl _ _⟩
        · go_wp2
          go_roundw
          case rel => exact ⟨j + 1, by omega, by go_num, Lib.hid (by rw [hst.out]; unfold inB; simp; omega), by first | rfl | trivial⟩
          case measure => simp [intOf]; omega
    · have hji : ¬ (j : Int) < (n : Int) := by omega
      have hte : Hid (zs.all (inB low) = true) := Lib.hid (by have := htk.out; rw [List.take_of_length_le (by omega)] at this; exact this)
      go_wp2
      go_ret
      exact ⟨ret_bool (by rw [hte.out]), Below.refl _ _⟩

set_option maxRecDepth 100000 in
set_option maxHeartbeats 2000000 in
theorem bare_any (m : Msg) (a : Option Addr) (n c : Nat) (hn : m.rs.length = n) (w : World) :
    Calls Try.prog 59 #[msgV m a n c] w fun e w' => e = .returned (.bool (bareB m)) ∧ Below w.heap.size w w' := by
  have NP := fun W => nopiece_any m a n c W
  have hbb : bareB m = (noB m && decide ((n : Int) = 0)) := by unfold bareB; rw [hn]; congr 1; exact decide_eq_decide.mpr (by omega)
  have Hbb := Lib.hid hbb
  clear hbb hn
  cases hnb : noB m
  all_goals
    rw [hnb] at Hbb NP
    clear hnb
    unfold msgV at NP ⊢
    go_enter Try.func59, Try.ntmps59
    go_wp2_with (go_at_call 60; refine (NP _).mono ?_; rintro y w5 ⟨rfl, hb5⟩; have kc := ((RowV.new w _ 80).below hb5); have k7 := (kc 7 _ rfl).1; clear kc)
    all_goals go_ret
    all_goals exact ⟨ret_bool (by rw [Hbb.out]; simp [*, ibeq0]), below_tr ((Below.refl _ _).alloc (Nat.le_refl _) _) hb5⟩

theorem rowI_new {w : World} (zs : List Int) (e : TypeId) (h : ∀ z ∈ zs, (Lit.int .i64 z).wf = true) : RowI .i64 (w.alloc (.cells (zs.map (Value.int .i64)).toArray e)) (some ⟨w.heap.size, 0, none⟩) zs := by
  refine ⟨h, .inr ⟨_, rfl, fun i z hz => ?_⟩⟩
  have := ((RowV.new w (zs.map (Value.int .i64)) e) i (.int .i64 z) (by rw [List.getElem?_map, hz]; rfl)).1
  have h2 : (⟨w.heap.size, 0, none⟩ : Addr).add i = ⟨w.heap.size, i, none⟩ := by unfold Addr.add; split <;> simp [*]
  rw [h2]; exact this

def MWf (m : Msg) : Prop := (Lit.int .i64 m.k).wf = true ∧ (Lit.int .i64 m.e).wf = true ∧ (Lit.int .i64 m.b).wf = true ∧ (Lit.int .i64 m.l).wf = true ∧ (Lit.int .i64 m.la).wf = true ∧ (Lit.int .i64 m.ap).wf = true

set_option maxRecDepth 100000 in
set_option maxHeartbeats 4000000 in
theorem wcheck_any (m : Msg) (hm : MWf m) (a : Option Addr) (n c : Nat) (hn : m.rs.length = n) (hb : n ≤ 4611686018427387904) (w : World) (hr : RowS w a m.rs) :
    Calls Try.prog 39 #[msgV m a n c] w fun e w' => e = .returned (.int .i64 (chk m : Nat)) ∧ Below w.heap.size w w' := by
  obtain ⟨k, e, b, l, la, ap, su, rs, tx⟩ := m
  simp only at hn hr
  unfold MWf at hm
  simp only at hm
  obtain ⟨m0, m1, m2, m3, m4, m5⟩ := hm
  have I1 : ∀ W g, W.heap.size = g → Calls Try.prog 58 #[.int .i64 1, .slice (some ⟨g, 0, none⟩) 1 1] (W.alloc (.cells #[.int .i64 e] 3)) fun x w' => x = .returned (.bool (inB 1 e)) ∧ Below W.heap.size W w' := fun W g hg => by
    subst hg
    exact (win_any 1 (some ⟨W.heap.size, 0, none⟩) 1 1 [e] rfl _ (rowI_new [e] 3 (by simp [m1])) (by omega)).mono (by
      rintro x w' ⟨rfl, h⟩
      exact ⟨by simp, below_tr ((Below.refl _ _).alloc (Nat.le_refl _) _) h⟩)
  have I2 : ∀ W g, W.heap.size = g → Calls Try.prog 58 #[.int .i64 0, .slice (some ⟨g, 0, none⟩) 3 3] (W.alloc (.cells #[.int .i64 b, .int .i64 l, .int .i64 ap] 3)) fun x w' => x = .returned (.bool (inB 0 b && (inB 0 l && inB 0 ap))) ∧ Below W.heap.size W w' := fun W g hg => by
    subst hg
    exact (win_any 0 (some ⟨W.heap.size, 0, none⟩) 3 3 [b, l, ap] rfl _ (rowI_new [b, l, ap] 3 (by simp [m2, m3, m5])) (by omega)).mono (by
      rintro x w' ⟨rfl, h⟩
      exact ⟨by simp, below_tr ((Below.refl _ _).alloc (Nat.le_refl _) _) h⟩)
  have hhd : Hid (headB ⟨k, e, b, l, la, ap, su, rs, tx⟩ = (inB 1 e && (inB 0 b && (inB 0 l && inB 0 ap)))) := Lib.hid rfl
  generalize inB 1 e = B1 at I1 hhd
  generalize (inB 0 b && (inB 0 l && inB 0 ap)) = B2 at I2 hhd
  have kc := RowV.new w [.int .i64 k, .int .i64 e, .int .i64 b, .int .i64 l, .int .i64 la, .int .i64 ap, .int .u32 (su : Nat), .slice a n c, .string tx] 80
  have hb0 : Below w.heap.size w (w.alloc (.cells #[.int .i64 k, .int .i64 e, .int .i64 b, .int .i64 l, .int .i64 la, .int .i64 ap, .int .u32 (su : Nat), .slice a n c, .string tx] 80)) := (Below.refl _ _).alloc (Nat.le_refl _) _
  go_enter Try.func39, Try.ntmps39
  unfold msgV
  cases B1 with
  | false =>
    go_upto_region 2 with (go_at_call 58; refine (I1 _ _ (by simp)).mono ?_; rintro y w5 ⟨rfl, hb5⟩)
    have kc5 := kc.below hb5
    have hbK := below_tr hb0 hb5
    have c0 := (kc5 0 _ rfl).1
    have c8 := (kc5 8 _ rfl).1
    have hck : Hid (chk ⟨k, e, b, l, la, ap, su, rs, tx⟩ = if k < 1 ∨ 5 < k then 5 else 3) := Lib.hid (by unfold chk okB; rw [hhd.out]; simp)
    clear kc5 hb5 kc hb0 I1 I2 hhd hr hn
    rcases (by omega : (k < 1 ∨ 5 < k) ∨ k = 1 ∨ k = 2 ∨ k = 3 ∨ k = 4 ∨ k = 5) with hk | rfl | rfl | rfl | rfl | rfl
    · have n1 : ¬ k = 1 := by omega
      have n2 : ¬ k = 2 := by omega
      have n3 : ¬ k = 3 := by omega
      have n4 : ¬ k = 4 := by omega
      have n5 : ¬ k = 5 := by omega
      have hfin := Lib.hid (hck.out.trans (if_pos hk))
      clear hck hk
      go_wp2
      go_ret
      exact ⟨by rw [hfin.out]; rfl, hbK⟩
    all_goals
      have hfin := Lib.hid (hck.out.trans (if_neg (by omega)))
      clear hck
      go_wp2
      go_ret
      exact ⟨by rw [hfin.out]; rfl, hbK⟩
  | true =>
    have tok : True := trivial
    go_upto_region 2 with (first
      | (go_at_call 58; have _t := tok; clear tok; refine (I1 _ _ (by simp)).mono ?_; rintro y w5 ⟨rfl, hb5⟩; have kc5 := kc.below hb5; have c2 := (kc5 2 _ rfl).1; have c3 := (kc5 3 _ rfl).1; have c5 := (kc5 5 _ rfl).1)
      | (go_at_call 58; refine (I2 _ _ (by simp)).mono ?_; rintro y w6 ⟨rfl, hb6⟩))
    have kc6 := kc5.below hb6
    have hb56 := below_tr hb5 hb6
    have hbK := below_tr hb0 hb56
    have hr6 := hr.below hbK
    clear c2 c3 c5
    have c0 := (kc6 0 _ rfl).1
    have hck : Hid (chk ⟨k, e, b, l, la, ap, su, rs, tx⟩ = if k < 1 ∨ 5 < k then 5 else if B2 && (if k = 2 then dataB ⟨k, e, b, l, la, ap, su, rs, tx⟩ else if k = 4 then pieceB ⟨k, e, b, l, la, ap, su, rs, tx⟩ else if k = 5 then bareB ⟨k, e, b, l, la, ap, su, rs, tx⟩ && decide (l = 0) else bareB ⟨k, e, b, l, la, ap, su, rs, tx⟩ && decide (b = 0)) then 0 else 3) := Lib.hid (by unfold chk okB; rw [hhd.out]; simp)
    have ML : ∀ W, RowV W w.heap.size [.int .i64 k, .int .i64 e, .int .i64 b, .int .i64 l, .int .i64 la, .int .i64 ap, .int .u32 (su : Nat), .slice a n c, .string tx] → (loadVar 80 ⟨w.heap.size, 0, none⟩).run Try.prog W = .ok (.agg #[.int .i64 k, .int .i64 e, .int .i64 b, .int .i64 l, .int .i64 la, .int .i64 ap, .int .u32 (su : Nat), .slice a n c, .string tx]) W := fun W h => h.load _ _ Try.underlying80 rfl (by kernel_rfl)
    have c1 := (kc6 1 _ rfl).1
    have c2 := (kc6 2 _ rfl).1
    have c3 := (kc6 3 _ rfl).1
    have c4 := (kc6 4 _ rfl).1
    have c5 := (kc6 5 _ rfl).1
    have c6 := (kc6 6 _ rfl).1
    have c7 := (kc6 7 _ rfl).1
    have c8 := (kc6 8 _ rfl).1
    have hl6 := ML w6 kc6
    have NP := fun W => nopiece_any ⟨k, e, b, l, la, ap, su, rs, tx⟩ a n c W
    have BA := fun W => bare_any ⟨k, e, b, l, la, ap, su, rs, tx⟩ a n c hn W
    have RE := fun W hW => records_any a n c rs hn W hW hb
    clear kc5 hb5 hb6 hb56 kc hb0 I1 I2 hhd hr m0 m1 m2 m3 m4 m5 ML
    rcases (by omega : (k < 1 ∨ 5 < k) ∨ k = 1 ∨ k = 2 ∨ k = 3 ∨ k = 4 ∨ k = 5) with hk | rfl | rfl | rfl | rfl | rfl
    · have n1 : ¬ k = 1 := by omega
      have n2 : ¬ k = 2 := by omega
      have n3 : ¬ k = 3 := by omega
      have n4 : ¬ k = 4 := by omega
      have n5 : ¬ k = 5 := by omega
      have hfin := Lib.hid (hck.out.trans (if_pos hk))
      clear hck hk
      go_wp2
      go_ret
      exact ⟨by rw [hfin.out]; rfl, hbK⟩
    · unfold msgV at BA
      have hfin : Hid (chk ⟨1, e, b, l, la, ap, su, rs, tx⟩ = if (B2 && (bareB ⟨1, e, b, l, la, ap, su, rs, tx⟩ && decide (b = 0))) = true then 0 else 3) := Lib.hid (hck.out.trans (by simp))
      generalize bareB ⟨1, e, b, l, la, ap, su, rs, tx⟩ = B3 at BA hfin
      clear hck NP RE hr6
      cases B2
      · go_wp2
        go_ret
        exact ⟨ret_i64 (by rw [hfin.out]; rfl), hbK⟩
      · cases B3
        all_goals
          go_wp2_with (go_at_call 59; refine (BA _).mono ?_; rintro y w7 ⟨rfl, hb7⟩; have d2 := ((kc6.below hb7) 2 _ rfl).1)
          all_goals go_ret
          all_goals exact ⟨ret_i64 (by rw [hfin.out]; first | (simp [*]; done) | (rename_i hx; simp at hx; simp [*]; done) | (rename_i hx; simp at hx; simp [*]; omega) | (rw [if_neg (by simp; omega)]; rfl) | (rw [if_pos (by simp; omega)]; rfl) | (rename_i hx; simp at hx; rw [if_neg (by simp; omega)]; rfl) | (rename_i hx; simp at hx; rw [if_pos (by simp; omega)]; rfl)), below_tr hbK hb7⟩
    · unfold msgV at NP
      have hfin : Hid (chk ⟨2, e, b, l, la, ap, su, rs, tx⟩ = if (B2 && (noB ⟨2, e, b, l, la, ap, su, rs, tx⟩ && decide (0 < l) && (recsB rs && decide (rs.length ≤ 4)))) = true then 0 else 3) := Lib.hid (hck.out.trans (by simp [dataB]))
      generalize noB ⟨2, e, b, l, la, ap, su, rs, tx⟩ = B3 at NP hfin
      generalize (recsB rs && decide (rs.length ≤ 4)) = B4 at RE hfin
      clear hck BA
      cases B2
      · go_wp2
        go_ret
        exact ⟨ret_i64 (by rw [hfin.out]; rfl), hbK⟩
      · cases B3
        · go_wp2_with (go_at_call 60; refine (NP _).mono ?_; rintro y w7 ⟨rfl, hb7⟩)
          all_goals go_ret
          all_goals exact ⟨ret_i64 (by rw [hfin.out]; first | (simp [*]; done) | (rename_i hx; simp at hx; simp [*]; done) | (rename_i hx; simp at hx; simp [*]; omega) | (rw [if_neg (by simp; omega)]; rfl) | (rw [if_pos (by simp; omega)]; rfl) | (rename_i hx; simp at hx; rw [if_neg (by simp; omega)]; rfl) | (rename_i hx; simp at hx; rw [if_pos (by simp; omega)]; rfl)), below_tr hbK hb7⟩
        · by_cases hl : 0 < l
          · cases B4
            all_goals
              go_wp2_with (first
                | (go_at_call 60; refine (NP _).mono ?_; rintro y w7 ⟨rfl, hb7⟩; have kc7 := kc6.below hb7; have d3 := (kc7 3 _ rfl).1; have d7 := (kc7 7 _ rfl).1; have RE7 := RE w7 (hr6.below hb7); clear kc7)
                | (go_at_call 61; refine RE7.mono ?_; rintro y w8 ⟨rfl, hb8⟩))
              all_goals go_ret
              all_goals exact ⟨ret_i64 (by rw [hfin.out]; first | (simp [*]; done) | (rename_i hx; simp at hx; simp [*]; done) | (rename_i hx; simp at hx; simp [*]; omega) | (rw [if_neg (by simp; omega)]; rfl) | (rw [if_pos (by simp; omega)]; rfl) | (rename_i hx; simp at hx; rw [if_neg (by simp; omega)]; rfl) | (rename_i hx; simp at hx; rw [if_pos (by simp; omega)]; rfl)), below_tr hbK (below_tr hb7 hb8)⟩
          · go_wp2_with (go_at_call 60; refine (NP _).mono ?_; rintro y w7 ⟨rfl, hb7⟩; have d3 := ((kc6.below hb7) 3 _ rfl).1)
            all_goals go_ret
            all_goals exact ⟨ret_i64 (by rw [hfin.out]; first | (simp [*]; done) | (rename_i hx; simp at hx; simp [*]; done) | (rename_i hx; simp at hx; simp [*]; omega) | (rw [if_neg (by simp; omega)]; rfl) | (rw [if_pos (by simp; omega)]; rfl) | (rename_i hx; simp at hx; rw [if_neg (by simp; omega)]; rfl) | (rename_i hx; simp at hx; rw [if_pos (by simp; omega)]; rfl)), below_tr hbK hb7⟩
    · unfold msgV at BA
      have hfin : Hid (chk ⟨3, e, b, l, la, ap, su, rs, tx⟩ = if (B2 && (bareB ⟨3, e, b, l, la, ap, su, rs, tx⟩ && decide (b = 0))) = true then 0 else 3) := Lib.hid (hck.out.trans (by simp))
      generalize bareB ⟨3, e, b, l, la, ap, su, rs, tx⟩ = B3 at BA hfin
      clear hck NP RE hr6
      cases B2
      · go_wp2
        go_ret
        exact ⟨ret_i64 (by rw [hfin.out]; rfl), hbK⟩
      · cases B3
        all_goals
          go_wp2_with (go_at_call 59; refine (BA _).mono ?_; rintro y w7 ⟨rfl, hb7⟩; have d2 := ((kc6.below hb7) 2 _ rfl).1)
          all_goals go_ret
          all_goals exact ⟨ret_i64 (by rw [hfin.out]; first | (simp [*]; done) | (rename_i hx; simp at hx; simp [*]; done) | (rename_i hx; simp at hx; simp [*]; omega) | (rw [if_neg (by simp; omega)]; rfl) | (rw [if_pos (by simp; omega)]; rfl) | (rename_i hx; simp at hx; rw [if_neg (by simp; omega)]; rfl) | (rename_i hx; simp at hx; rw [if_pos (by simp; omega)]; rfl)), below_tr hbK hb7⟩
    · have hfin : Hid (chk ⟨4, e, b, l, la, ap, su, rs, tx⟩ = if (B2 && (decide (rs.length = 0) && decide (1 ≤ tx.size) && decide (tx.size ≤ 256) && decide (1 ≤ la) && decide (la ≤ 16777216) && decide (ap ≤ la - tx.size))) = true then 0 else 3) := Lib.hid (hck.out.trans (by simp [pieceB]))
      have c4 := (kc6 4 _ rfl).1
      have c5 := (kc6 5 _ rfl).1
      have c7 := (kc6 7 _ rfl).1
      have c8 := (kc6 8 _ rfl).1
      have Hn := Lib.hid hn
      clear hck BA NP RE hr6 hn
      cases B2
      · go_wp2
        go_ret
        exact ⟨ret_i64 (by rw [hfin.out]; rfl), hbK⟩
      · go_wp2
        all_goals go_ret
        all_goals exact ⟨ret_i64 (by rw [hfin.out, Hn.out]; first | (simp [*]; done) | (rename_i hx; simp at hx; simp [*]; done) | (rename_i hx; simp at hx; simp [*]; omega) | (rw [if_neg (by simp; omega)]; rfl) | (rw [if_pos (by simp; omega)]; rfl) | (rename_i hx; simp at hx; rw [if_neg (by simp; omega)]; rfl) | (rename_i hx; simp at hx; rw [if_pos (by simp; omega)]; rfl)), hbK⟩
    · unfold msgV at BA
      have hfin : Hid (chk ⟨5, e, b, l, la, ap, su, rs, tx⟩ = if (B2 && (bareB ⟨5, e, b, l, la, ap, su, rs, tx⟩ && decide (l = 0))) = true then 0 else 3) := Lib.hid (hck.out.trans (by simp))
      generalize bareB ⟨5, e, b, l, la, ap, su, rs, tx⟩ = B3 at BA hfin
      clear hck NP RE hr6
      cases B2
      · go_wp2
        go_ret
        exact ⟨ret_i64 (by rw [hfin.out]; rfl), hbK⟩
      · cases B3
        all_goals
          go_wp2_with (go_at_call 59; refine (BA _).mono ?_; rintro y w7 ⟨rfl, hb7⟩; have d2 := ((kc6.below hb7) 3 _ rfl).1)
          all_goals go_ret
          all_goals exact ⟨ret_i64 (by rw [hfin.out]; first | (simp [*]; done) | (rename_i hx; simp at hx; simp [*]; done) | (rename_i hx; simp at hx; simp [*]; omega) | (rw [if_neg (by simp; omega)]; rfl) | (rw [if_pos (by simp; omega)]; rfl) | (rename_i hx; simp at hx; rw [if_neg (by simp; omega)]; rfl) | (rename_i hx; simp at hx; rw [if_pos (by simp; omega)]; rfl)), below_tr hbK hb7⟩
end Go.Proofs.Ytmaebileagfdaaa
