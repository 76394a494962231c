/- Frames: reading one. -/
import Derived.Test.YtmaebileagfdaaaFrame
namespace Go.Proofs.Ytmaebileagfdaaa
open Go.RowKit Dig Crc Frm

theorem gettext_eq (s : ByteArray) (hs : s.size ≤ 4611686018427387904) (most : Int) (hm : -9223372036854775808 ≤ most) (hm1 : most < 9223372036854775808) {t : List UInt8} {k e : Nat} (h : Hid (getText s.data.toList most = (t, k, e))) (w : World) :
    Calls Try.prog 47 #[.string s, .int .i64 most] w fun r w' => r = .returned (.tuple #[.string (mkS t), .int .i64 k, .int .i64 e]) ∧ Below w.heap.size w w' := by
  obtain ⟨n, k', e', hn⟩ : ∃ n k' e', Hid (getNum s.data.toList = (n, k', e')) := ⟨_, _, _, Lib.hid rfl⟩
  have := gettext_any s hs most hm hm1 hn w
  rw [h.out] at this
  exact this
theorem refgettext_eq (s : ByteArray) (hs : s.size ≤ 4611686018427387904) (most : Int) (hm : -9223372036854775808 ≤ most) (hm1 : most < 9223372036854775808) {t : List UInt8} {k e : Nat} (h : Hid (getText s.data.toList most = (t, k, e))) (w : World) :
    Calls Try.prog 48 #[.string s, .int .i64 most] w fun r w' => r = .returned (.tuple #[.string (mkS t), .int .i64 k, .int .i64 e]) ∧ w = w' := by
  obtain ⟨n, k', e', hn⟩ : ∃ n k' e', Hid (getNum s.data.toList = (n, k', e')) := ⟨_, _, _, Lib.hid rfl⟩
  have := refgettext_any s hs most hm hm1 hn w
  rw [h.out] at this
  exact this
theorem getText_facts {l : List UInt8} {most : Int} {t : List UInt8} {k e : Nat} (h : getText l most = (t, k, e)) : k ≤ l.length ∧ e ≤ 8 := by
  have h1 := getText_le l most
  rw [h] at h1
  refine ⟨h1, ?_⟩
  have h3 : (getText l most).2.2 = e := by rw [h]
  rcases hn : getNum l with ⟨n', k', e'⟩
  have h2 := getNum_facts hn
  unfold getText at h3
  rw [hn] at h3
  simp only at h3
  repeat' split at h3
  all_goals (simp only at h3; omega)

theorem str_ne {a b : List UInt8} (h : a ≠ b) : ((mkS a).toList == (mkS b).toList) = false := by
  rw [ByteArray.toList_eq, ByteArray.toList_eq, mkS_data, mkS_data]; simpa using h

/-- The frame and the rest, as the results are. -/
def fvals (x : Nat × List UInt8 × Nat × Nat) : Value := .tuple #[.agg #[.int .i64 (x.1 : Nat), .string (mkS x.2.1)], .int .i64 (x.2.2.1 : Nat), .int .i64 (x.2.2.2 : Nat)]

set_option maxRecDepth 100000 in
set_option maxHeartbeats 2000000 in
theorem fget_any (s : ByteArray) (hs : s.size ≤ 4611686018427387904) (w : World) :
    Calls Try.prog 26 #[.string s] w fun e w' => e = .returned (fvals (Frm.get s.data.toList)) ∧ Below w.heap.size w w' := by
  have hfi : (Try.prog.info? 40).map (·.size) = some 2 := by kernel_rfl
  have fin : ∀ W W' : World, ∀ B x0 x1, Two W B x0 x1 → W = W' → (loadVar 40 ⟨B, 0, none⟩).run Try.prog W' = .ok (.agg #[x0, x1]) W' := fun W W' B x0 x1 h e => by subst e; exact h.load _ _ Try.underlying40 hfi
  have hba : Below w.heap.size w (w.alloc (.cells #[.int .i64 0, .string { data := #[] }] 40)) := (Below.refl _ _).alloc (Nat.le_refl _) _
  have h2 : Two (w.alloc (.cells #[.int .i64 0, .string { data := #[] }] 40)) w.heap.size (.int .i64 0) (.string { data := #[] }) := ⟨by simp, by simp, by simp, by simp⟩
  have hst : ∀ W, Two W w.heap.size (.int .i64 0) (.string { data := #[] }) → Below w.heap.size w W → ∀ y0 y1, Two ((W.setCell ⟨w.heap.size, 0, none⟩ y0).setCell ⟨w.heap.size, 1, none⟩ y1) w.heap.size y0 y1 ∧ Below w.heap.size w ((W.setCell ⟨w.heap.size, 0, none⟩ y0).setCell ⟨w.heap.size, 1, none⟩ y1) := fun W hW hb y0 y1 =>
    ⟨(hW.set y0 y1).1, (hW.set y0 y1).2.below_tr hb (fun k hk e => by omega)⟩
  have Hst := Lib.hid hst
  have Fin := Lib.hid fin
  clear hst fin
  cases hl : s.data.toList with
  | nil =>
    have he := isEmpty_true hl
    clear hl
    obtain ⟨c0, c1, z0, z1⟩ := id h2
    go_enter Try.func26, Try.ntmps26
    go_upto_region 1 with (fail)
    generalize (w.alloc (.cells #[.int .i64 0, .string { data := #[] }] 40)) = w0 at h2 hba c0 c1 z0 z1 ⊢
    go_wp2
    obtain ⟨s1, s2⟩ := Hst.out _ h2 hba (.int .i64 0) (.string { data := #[] })
    refine bodyPost_ret (results_cell_tmp3 rfl _ _ w.heap.size (.agg #[.int .i64 0, .string { data := #[] }]) rfl (Fin.out _ _ _ _ _ s1 rfl)) rfl ?_
    exact ⟨rfl, s2⟩
  | cons c rest =>
    have hsz : s.size = rest.length + 1 := by rw [size_toList, hl]; rfl
    have h0 : 0 < s.size := by omega
    have hc := str_cons s c rest hl h0
    have hcl := c.toNat_lt
    obtain ⟨R, hR⟩ : ∃ R, s.extract 1 s.size = R := ⟨_, rfl⟩
    have hRl : R.data.toList = rest := by rw [← hR, extract_toList, hl, hsz]; simp
    have hRs : R.size = rest.length := by rw [size_toList, hRl]
    have HL := Lib.hid hl
    have HRl := Lib.hid hRl
    have HSZ := Lib.hid hsz
    have h1 : 1 ≤ s.size := h0
    have he := isEmpty_false h0
    clear hl hRl hsz
    by_cases hc0 : c = 0
    · have hg : Frm.get (c :: rest) = (0, [], 0, 5) := by simp only [Frm.get]; rw [if_pos hc0]
      have HG := Lib.hid hg
      clear hg
      have hcz : ((c.toNat : Nat) : Int) = 0 := by rw [hc0]; rfl
      have hcz2 : ((s[0].toNat : Nat) : Int) = 0 := by rw [hc]; exact hcz
      obtain ⟨c0, c1, z0, z1⟩ := id h2
      go_enter Try.func26, Try.ntmps26
      go_upto_region 1 with (fail)
      generalize (w.alloc (.cells #[.int .i64 0, .string { data := #[] }] 40)) = w0 at h2 hba c0 c1 z0 z1 ⊢
      go_wp2
      obtain ⟨s1, s2⟩ := Hst.out _ h2 hba (.int .i64 0) (.string { data := #[] })
      refine bodyPost_ret (results_cell_tmp3 rfl _ _ w.heap.size (.agg #[.int .i64 0, .string { data := #[] }]) rfl (Fin.out _ _ _ _ _ s1 rfl)) rfl ?_
      exact ⟨by rw [HG.out]; rfl, s2⟩
    have hcz : (((c.toNat : Nat) : Int) == 0) = false := by rw [beq_eq_false_iff_ne]; intro e; exact hc0 (UInt8.toNat_inj.mp (by simpa using e))
    obtain ⟨t, k, e, hgt⟩ : ∃ t k e, Hid (getText R.data.toList 65536 = (t, k, e)) := ⟨_, _, _, Lib.hid rfl⟩
    have hgt2 : getText rest 65536 = (t, k, e) := by rw [← HRl.out]; exact hgt.out
    obtain ⟨hk, he8⟩ := getText_facts hgt2
    have hks : k + 1 ≤ s.size := by rw [HSZ.out]; omega
    have T1 := fun W => gettext_eq R (by rw [hRs]; have := HSZ.out; omega) 65536 (by omega) (by omega) hgt W
    have hget : Frm.get (c :: rest) = if e ≠ 0 then (0, [], 0, e) else if (c :: rest).length < k + 5 then (0, [], 0, 1) else
        if ((c :: rest).drop (k + 1)).take 4 ≠ sumB (moreN 0 ((c :: rest).take (k + 1))) then (0, [], 0, 10) else (c.toNat, t, k + 5, 0) := by
      simp only [Frm.get]; rw [if_neg hc0, hgt2]
    rw [← HL.out] at hget
    have HGet := Lib.hid hget
    have Hgt2 := Lib.hid hgt2
    have HK := Lib.hid hk
    rw [← HL.out]
    clear hget hgt2 hk hRs
    obtain ⟨G, hG⟩ : ∃ G, Hid (G = Frm.get s.data.toList) := ⟨_, Lib.hid rfl⟩
    rw [← hG.out]
    by_cases he0 : e = 0
    · subst he0
      by_cases hsh : s.size < k + 5
      · have hg : G = (0, [], 0, 1) := by rw [hG.out, HGet.out, if_neg (by omega), if_pos (by rw [← size_toList]; exact hsh)]
        subst hg
        have hshi : (s.size : Int) < (k : Int) + 5 := by omega
        go_enter Try.func26, Try.ntmps26
        go_upto_region 1 with (fail)
        generalize (w.alloc (.cells #[.int .i64 0, .string { data := #[] }] 40)) = w0 at h2 hba ⊢
        go_upto_region 6 with (go_at_call 47; refine (T1 _).mono ?_; rintro y w1 ⟨rfl, hb1⟩)
        have h21 := h2.below hb1
        have hb01 := below_tr hba hb1
        obtain ⟨c0, c1, z0, z1⟩ := id h21
        go_wp2
        obtain ⟨s1, s2⟩ := Hst.out _ h21 hb01 (.int .i64 0) (.string { data := #[] })
        refine bodyPost_ret (results_cell_tmp3 rfl _ _ w.heap.size (.agg #[.int .i64 0, .string { data := #[] }]) rfl (Fin.out _ _ _ _ _ s1 rfl)) rfl ?_
        exact ⟨rfl, s2⟩
      · have hshi : (k : Int) + 5 ≤ (s.size : Int) := by omega
        obtain ⟨X, hX⟩ : ∃ X, Hid (X = (s.data.toList.drop (k + 1)).take 4) := ⟨_, Lib.hid rfl⟩
        obtain ⟨Y, hY⟩ : ∃ Y, Hid (Y = s.data.toList.take (k + 1)) := ⟨_, Lib.hid rfl⟩
        obtain ⟨S, hS⟩ : ∃ S, Hid (S = moreN 0 Y) := ⟨_, Lib.hid rfl⟩
        have hSl : S < 4294967296 := by rw [hS.out]; exact moreN_lt _ _
        have hYl : (mkS Y).size ≤ 4611686018427387904 := by rw [mkS_size, hY.out, List.length_take]; omega
        have OF := fun W => of_any (mkS Y) (by omega) W
        rw [mkS_data, ← hS.out] at OF
        have hg : G = if X ≠ sumB S then (0, [], 0, 10) else (c.toNat, t, k + 5, 0) := by
          rw [hG.out, HGet.out, if_neg (by omega), if_neg (by rw [← size_toList]; omega), ← hX.out, ← hY.out, ← hS.out]
        have Hg := Lib.hid hg
        have hx1 : s.extract (k + 1) (k + 5) = mkS X := by rw [show k + 5 = k + 1 + 4 from rfl, extract_mkS, hX.out]
        have hy1 : s.extract 0 (k + 1) = mkS Y := by have := extract_mkS s 0 (k + 1); rw [Nat.zero_add] at this; rw [this, hY.out]; rfl
        have hn1 : ((k : Int) + 1).toNat = k + 1 := by omega
        have hn5 : ((k : Int) + 5).toNat = k + 5 := by omega
        have Hx1 := Lib.hid hx1
        have Hy1 := Lib.hid hy1
        clear hg hx1 hy1
        go_enter Try.func26, Try.ntmps26
        go_upto_region 1 with (fail)
        generalize (w.alloc (.cells #[.int .i64 0, .string { data := #[] }] 40)) = w0 at h2 hba ⊢
        go_upto_region 12 with (go_at_call 47; refine (T1 _).mono ?_; rintro y w1 ⟨rfl, hb1⟩)
        have h21 := h2.below hb1
        have hb01 := below_tr hba hb1
        have HB := Below.refl w1.heap.size w1
        have hx1 := Hx1.out
        have hy1 := Hy1.out
        have hn5' : ((k : Int) + 1 + 4).toNat = k + 5 := by omega
        have hle1 : (k : Int) + 1 ≤ (k : Int) + 1 + 4 := by omega
        have hle2 : (k : Int) + 1 + 4 ≤ (s.size : Int) := by omega
        have hle3 : (k : Int) + 1 ≤ (s.size : Int) := by omega
        have hle0 : (0 : Int) ≤ (k : Int) + 1 := by omega
        by_cases hXS : X = sumB S
        · have hgf : G = (c.toNat, t, k + 5, 0) := by rw [Hg.out, if_neg (by simpa using hXS)]
          have HGF := Lib.hid hgf
          subst hXS
          clear hgf Hg
          refine wp_region_det_list (by kernel_rfl) (by kernel_rfl) (SL [eqv (.string s), eqv (.int .i64 ((k : Int) + 1)), eqv (.int .i64 ((k : Int) + 1 + 4)), eqv (.string (mkS (sumB S))), eqv (.string s), eqv (.int .i64 ((k : Int) + 1)), eqv (.string (mkS Y)), eqv (.int .u32 (S : Nat)), eqv (.string (mkS (sumB S))), eqv (.bool false), eqv (.bool false)]) (fun W => Below w1.heap.size w1 W) Grow ?hJ ?hX ?hop ?hend
          case hJ => exact HB.drew
          case hX => exact SL_mono _ ⟨mono_eqv _, mono_eqv _, mono_eqv _, mono_eqv _, mono_eqv _, mono_eqv _, mono_eqv _, mono_eqv _, mono_eqv _, mono_eqv _, mono_eqv _, trivial⟩
          case hop =>
            refine ⟨fun vals W hJ hS => ?_, fun vals W hJ hS => ?_, fun vals W hJ hS => ?_, fun vals W hJ hS => ?_, fun vals W hJ hS => ?_, fun vals W hJ hS => ?_, fun vals W hJ hS => ?_, fun vals W hJ hS => ?_, fun vals W hJ hS => ?_, fun vals W hJ hS => ?_, fun vals W hJ hS => ?_, trivial⟩
            · clear hS
              simp only [fillTo]
              go_wp2
              exact ⟨rfl, SL_eq rfl rfl, hJ, Below.refl _ _⟩
            · clear hS
              simp only [fillTo]
              go_simp
              go_wp2
              exact ⟨rfl, SL_eq rfl rfl, hJ, Below.refl _ _⟩
            · clear hS
              simp only [fillTo]
              go_simp
              go_wp2
              exact ⟨rfl, SL_eq rfl rfl, hJ, Below.refl _ _⟩
            · have h0 := SL_val rfl (hS 0 (by kernel_rfl))
              have h1 := SL_val rfl (hS 1 (by kernel_rfl))
              have h2 := SL_val rfl (hS 2 (by kernel_rfl))
              clear hS
              simp only [fillTo]
              go_simp
              generalize vals 0 = v0 at h0 ⊢
              subst h0
              generalize vals 1 = v1 at h1 ⊢
              subst h1
              generalize vals 2 = v2 at h2 ⊢
              subst h2
              go_wp2
              exact ⟨rfl, SL_eq rfl rfl, hJ, Below.refl _ _⟩
            · clear hS
              simp only [fillTo]
              go_simp
              go_wp2
              exact ⟨rfl, SL_eq rfl rfl, hJ, Below.refl _ _⟩
            · clear hS
              simp only [fillTo]
              go_simp
              go_wp2
              exact ⟨rfl, SL_eq rfl rfl, hJ, Below.refl _ _⟩
            · have h4 := SL_val rfl (hS 4 (by kernel_rfl))
              have h5 := SL_val rfl (hS 5 (by kernel_rfl))
              clear hS
              simp only [fillTo]
              go_simp
              generalize vals 4 = v4 at h4 ⊢
              subst h4
              generalize vals 5 = v5 at h5 ⊢
              subst h5
              go_wp2
              exact ⟨rfl, SL_eq rfl rfl, hJ, Below.refl _ _⟩
            · have h6 := SL_val rfl (hS 6 (by kernel_rfl))
              clear hS
              simp only [fillTo]
              go_simp
              generalize vals 6 = v6 at h6 ⊢
              subst h6
              go_wp2_with (go_at_call 40; refine (OF _).mono ?_; rintro e w' ⟨rfl, hb⟩)
              exact ⟨rfl, SL_eq rfl rfl, hJ.trans (hb.mono hJ.size), hb⟩
            · have h7 := SL_val rfl (hS 7 (by kernel_rfl))
              clear hS
              simp only [fillTo]
              go_simp
              generalize vals 7 = v7 at h7 ⊢
              subst h7
              go_wp2_with (go_at_call 43; refine (bytes_any S hSl _).mono ?_; rintro e w' ⟨rfl, hb⟩)
              exact ⟨rfl, SL_eq rfl rfl, hJ.trans (hb.mono hJ.size), hb⟩
            · have h3 := SL_val rfl (hS 3 (by kernel_rfl))
              have h8 := SL_val rfl (hS 8 (by kernel_rfl))
              clear hS
              simp only [fillTo]
              go_simp
              generalize vals 3 = v3 at h3 ⊢
              subst h3
              generalize vals 8 = v8 at h8 ⊢
              subst h8
              go_wp2
              exact ⟨rfl, SL_eq rfl rfl, hJ, Below.refl _ _⟩
            · have h9 := SL_val rfl (hS 9 (by kernel_rfl))
              clear hS
              simp only [fillTo]
              go_simp
              generalize vals 9 = v9 at h9 ⊢
              subst h9
              go_wp2
              exact ⟨rfl, SL_eq rfl rfl, hJ, Below.refl _ _⟩
          case hend =>
            intro vals W hJ hS
            have h10 := SL_val rfl (hS 10 (by decide))
            clear hS
            simp only [List.size_toArray, List.length_cons, List.length_nil, Nat.reduceAdd, fillTo]
            go_simp
            generalize vals 10 = v10 at h10 ⊢
            subst h10
            have h22 := h21.below hJ
            have hb22 := below_tr hb01 hJ
            obtain ⟨c0, c1, z0, z1⟩ := id h22
            go_wp2
            obtain ⟨s1, s2⟩ := Hst.out _ h22 hb22 (.int .i64 (c.toNat : Nat)) (.string (mkS t))
            refine bodyPost_ret (results_cell_tmp3 rfl _ _ w.heap.size (.agg #[.int .i64 (c.toNat : Nat), .string (mkS t)]) rfl (Fin.out _ _ _ _ _ s1 rfl)) rfl ?_
            refine ⟨?_, s2⟩
            rw [HGF.out]; simp [fvals]; try omega
        · have hgf : G = (0, [], 0, 10) := by rw [Hg.out, if_pos hXS]
          subst hgf
          have hne := str_ne hXS
          clear Hg hXS
          refine wp_region_det_list (by kernel_rfl) (by kernel_rfl) (SL [eqv (.string s), eqv (.int .i64 ((k : Int) + 1)), eqv (.int .i64 ((k : Int) + 1 + 4)), eqv (.string (mkS X)), eqv (.string s), eqv (.int .i64 ((k : Int) + 1)), eqv (.string (mkS Y)), eqv (.int .u32 (S : Nat)), eqv (.string (mkS (sumB S))), eqv (.bool true), eqv (.bool true)]) (fun W => Below w1.heap.size w1 W) Grow ?hJ ?hX ?hop ?hend
          case hJ => exact HB.drew
          case hX => exact SL_mono _ ⟨mono_eqv _, mono_eqv _, mono_eqv _, mono_eqv _, mono_eqv _, mono_eqv _, mono_eqv _, mono_eqv _, mono_eqv _, mono_eqv _, mono_eqv _, trivial⟩
          case hop =>
            refine ⟨fun vals W hJ hS => ?_, fun vals W hJ hS => ?_, fun vals W hJ hS => ?_, fun vals W hJ hS => ?_, fun vals W hJ hS => ?_, fun vals W hJ hS => ?_, fun vals W hJ hS => ?_, fun vals W hJ hS => ?_, fun vals W hJ hS => ?_, fun vals W hJ hS => ?_, fun vals W hJ hS => ?_, trivial⟩
            · clear hS
              simp only [fillTo]
              go_wp2
              exact ⟨rfl, SL_eq rfl rfl, hJ, Below.refl _ _⟩
            · clear hS
              simp only [fillTo]
              go_simp
              go_wp2
              exact ⟨rfl, SL_eq rfl rfl, hJ, Below.refl _ _⟩
            · clear hS
              simp only [fillTo]
              go_simp
              go_wp2
              exact ⟨rfl, SL_eq rfl rfl, hJ, Below.refl _ _⟩
            · have h0 := SL_val rfl (hS 0 (by kernel_rfl))
              have h1 := SL_val rfl (hS 1 (by kernel_rfl))
              have h2 := SL_val rfl (hS 2 (by kernel_rfl))
              clear hS
              simp only [fillTo]
              go_simp
              generalize vals 0 = v0 at h0 ⊢
              subst h0
              generalize vals 1 = v1 at h1 ⊢
              subst h1
              generalize vals 2 = v2 at h2 ⊢
              subst h2
              go_wp2
              exact ⟨rfl, SL_eq rfl rfl, hJ, Below.refl _ _⟩
            · clear hS
              simp only [fillTo]
              go_simp
              go_wp2
              exact ⟨rfl, SL_eq rfl rfl, hJ, Below.refl _ _⟩
            · clear hS
              simp only [fillTo]
              go_simp
              go_wp2
              exact ⟨rfl, SL_eq rfl rfl, hJ, Below.refl _ _⟩
            · have h4 := SL_val rfl (hS 4 (by kernel_rfl))
              have h5 := SL_val rfl (hS 5 (by kernel_rfl))
              clear hS
              simp only [fillTo]
              go_simp
              generalize vals 4 = v4 at h4 ⊢
              subst h4
              generalize vals 5 = v5 at h5 ⊢
              subst h5
              go_wp2
              exact ⟨rfl, SL_eq rfl rfl, hJ, Below.refl _ _⟩
            · have h6 := SL_val rfl (hS 6 (by kernel_rfl))
              clear hS
              simp only [fillTo]
              go_simp
              generalize vals 6 = v6 at h6 ⊢
              subst h6
              go_wp2_with (go_at_call 40; refine (OF _).mono ?_; rintro e w' ⟨rfl, hb⟩)
              exact ⟨rfl, SL_eq rfl rfl, hJ.trans (hb.mono hJ.size), hb⟩
            · have h7 := SL_val rfl (hS 7 (by kernel_rfl))
              clear hS
              simp only [fillTo]
              go_simp
              generalize vals 7 = v7 at h7 ⊢
              subst h7
              go_wp2_with (go_at_call 43; refine (bytes_any S hSl _).mono ?_; rintro e w' ⟨rfl, hb⟩)
              exact ⟨rfl, SL_eq rfl rfl, hJ.trans (hb.mono hJ.size), hb⟩
            · have h3 := SL_val rfl (hS 3 (by kernel_rfl))
              have h8 := SL_val rfl (hS 8 (by kernel_rfl))
              clear hS
              simp only [fillTo]
              go_simp
              generalize vals 3 = v3 at h3 ⊢
              subst h3
              generalize vals 8 = v8 at h8 ⊢
              subst h8
              go_wp2
              exact ⟨rfl, SL_eq rfl rfl, hJ, Below.refl _ _⟩
            · have h9 := SL_val rfl (hS 9 (by kernel_rfl))
              clear hS
              simp only [fillTo]
              go_simp
              generalize vals 9 = v9 at h9 ⊢
              subst h9
              go_wp2
              exact ⟨rfl, SL_eq rfl rfl, hJ, Below.refl _ _⟩
          case hend =>
            intro vals W hJ hS
            have h10 := SL_val rfl (hS 10 (by decide))
            clear hS
            simp only [List.size_toArray, List.length_cons, List.length_nil, Nat.reduceAdd, fillTo]
            go_simp
            generalize vals 10 = v10 at h10 ⊢
            subst h10
            have h22 := h21.below hJ
            have hb22 := below_tr hb01 hJ
            obtain ⟨c0, c1, z0, z1⟩ := id h22
            go_wp2
            obtain ⟨s1, s2⟩ := Hst.out _ h22 hb22 (.int .i64 0) (.string { data := #[] })
            refine bodyPost_ret (results_cell_tmp3 rfl _ _ w.heap.size (.agg #[.int .i64 0, .string { data := #[] }]) rfl (Fin.out _ _ _ _ _ s1 rfl)) rfl ?_
            exact ⟨rfl, s2⟩

    · have hg : G = (0, [], 0, e) := by rw [hG.out, HGet.out, if_pos he0]
      subst hg
      have hne : ((e : Int) != 0) = true := by rw [bne_iff_ne]; omega
      go_enter Try.func26, Try.ntmps26
      go_upto_region 1 with (fail)
      generalize (w.alloc (.cells #[.int .i64 0, .string { data := #[] }] 40)) = w0 at h2 hba ⊢
      go_upto_region 6 with (go_at_call 47; refine (T1 _).mono ?_; rintro y w1 ⟨rfl, hb1⟩)
      have h21 := h2.below hb1
      have hb01 := below_tr hba hb1
      obtain ⟨c0, c1, z0, z1⟩ := id h21
      go_wp2
      obtain ⟨s1, s2⟩ := Hst.out _ h21 hb01 (.int .i64 0) (.string { data := #[] })
      refine bodyPost_ret (results_cell_tmp3 rfl _ _ w.heap.size (.agg #[.int .i64 0, .string { data := #[] }]) rfl (Fin.out _ _ _ _ _ s1 rfl)) rfl ?_
      exact ⟨rfl, s2⟩

set_option maxRecDepth 100000 in
set_option maxHeartbeats 2000000 in
theorem rfget_any (s : ByteArray) (hs : s.size ≤ 4611686018427387904) (w : World) :
    Calls Try.prog 27 #[.string s] w fun e w' => e = .returned (fvals (Frm.get s.data.toList)) ∧ Below w.heap.size w w' := by
  have hfi : (Try.prog.info? 42).map (·.size) = some 2 := by kernel_rfl
  have fin : ∀ W W' : World, ∀ B x0 x1, Two W B x0 x1 → W = W' → (loadVar 42 ⟨B, 0, none⟩).run Try.prog W' = .ok (.agg #[x0, x1]) W' := fun W W' B x0 x1 h e => by subst e; exact h.load _ _ Try.underlying42 hfi
  have hba : Below w.heap.size w (w.alloc (.cells #[.int .i64 0, .string { data := #[] }] 42)) := (Below.refl _ _).alloc (Nat.le_refl _) _
  have h2 : Two (w.alloc (.cells #[.int .i64 0, .string { data := #[] }] 42)) w.heap.size (.int .i64 0) (.string { data := #[] }) := ⟨by simp, by simp, by simp, by simp⟩
  have hst : ∀ W, Two W w.heap.size (.int .i64 0) (.string { data := #[] }) → Below w.heap.size w W → ∀ y0 y1, Two ((W.setCell ⟨w.heap.size, 0, none⟩ y0).setCell ⟨w.heap.size, 1, none⟩ y1) w.heap.size y0 y1 ∧ Below w.heap.size w ((W.setCell ⟨w.heap.size, 0, none⟩ y0).setCell ⟨w.heap.size, 1, none⟩ y1) := fun W hW hb y0 y1 =>
    ⟨(hW.set y0 y1).1, (hW.set y0 y1).2.below_tr hb (fun k hk e => by omega)⟩
  have Hst := Lib.hid hst
  have Fin := Lib.hid fin
  clear hst fin
  cases hl : s.data.toList with
  | nil =>
    have he := isEmpty_true hl
    clear hl
    obtain ⟨c0, c1, z0, z1⟩ := id h2
    go_enter Try.func27, Try.ntmps27
    go_upto_region 1 with (fail)
    generalize (w.alloc (.cells #[.int .i64 0, .string { data := #[] }] 42)) = w0 at h2 hba c0 c1 z0 z1 ⊢
    go_wp2
    obtain ⟨s1, s2⟩ := Hst.out _ h2 hba (.int .i64 0) (.string { data := #[] })
    refine bodyPost_ret (results_cell_tmp3 rfl _ _ w.heap.size (.agg #[.int .i64 0, .string { data := #[] }]) rfl (Fin.out _ _ _ _ _ s1 rfl)) rfl ?_
    exact ⟨rfl, s2⟩
  | cons c rest =>
    have hsz : s.size = rest.length + 1 := by rw [size_toList, hl]; rfl
    have h0 : 0 < s.size := by omega
    have hc := str_cons s c rest hl h0
    have hcl := c.toNat_lt
    obtain ⟨R, hR⟩ : ∃ R, s.extract 1 s.size = R := ⟨_, rfl⟩
    have hRl : R.data.toList = rest := by rw [← hR, extract_toList, hl, hsz]; simp
    have hRs : R.size = rest.length := by rw [size_toList, hRl]
    have HL := Lib.hid hl
    have HRl := Lib.hid hRl
    have HSZ := Lib.hid hsz
    have h1 : 1 ≤ s.size := h0
    have he := isEmpty_false h0
    clear hl hRl hsz
    by_cases hc0 : c = 0
    · have hg : Frm.get (c :: rest) = (0, [], 0, 5) := by simp only [Frm.get]; rw [if_pos hc0]
      have HG := Lib.hid hg
      clear hg
      have hcz : ((c.toNat : Nat) : Int) = 0 := by rw [hc0]; rfl
      have hcz2 : ((s[0].toNat : Nat) : Int) = 0 := by rw [hc]; exact hcz
      obtain ⟨c0, c1, z0, z1⟩ := id h2
      go_enter Try.func27, Try.ntmps27
      go_upto_region 1 with (fail)
      generalize (w.alloc (.cells #[.int .i64 0, .string { data := #[] }] 42)) = w0 at h2 hba c0 c1 z0 z1 ⊢
      go_wp2
      obtain ⟨s1, s2⟩ := Hst.out _ h2 hba (.int .i64 0) (.string { data := #[] })
      refine bodyPost_ret (results_cell_tmp3 rfl _ _ w.heap.size (.agg #[.int .i64 0, .string { data := #[] }]) rfl (Fin.out _ _ _ _ _ s1 rfl)) rfl ?_
      exact ⟨by rw [HG.out]; rfl, s2⟩
    have hcz : (((c.toNat : Nat) : Int) == 0) = false := by rw [beq_eq_false_iff_ne]; intro e; exact hc0 (UInt8.toNat_inj.mp (by simpa using e))
    obtain ⟨t, k, e, hgt⟩ : ∃ t k e, Hid (getText R.data.toList 65536 = (t, k, e)) := ⟨_, _, _, Lib.hid rfl⟩
    have hgt2 : getText rest 65536 = (t, k, e) := by rw [← HRl.out]; exact hgt.out
    obtain ⟨hk, he8⟩ := getText_facts hgt2
    have hks : k + 1 ≤ s.size := by rw [HSZ.out]; omega
    have T1 := fun W => refgettext_eq R (by rw [hRs]; have := HSZ.out; omega) 65536 (by omega) (by omega) hgt W
    have hget : Frm.get (c :: rest) = if e ≠ 0 then (0, [], 0, e) else if (c :: rest).length < k + 5 then (0, [], 0, 1) else
        if ((c :: rest).drop (k + 1)).take 4 ≠ sumB (moreN 0 ((c :: rest).take (k + 1))) then (0, [], 0, 10) else (c.toNat, t, k + 5, 0) := by
      simp only [Frm.get]; rw [if_neg hc0, hgt2]
    rw [← HL.out] at hget
    have HGet := Lib.hid hget
    have Hgt2 := Lib.hid hgt2
    have HK := Lib.hid hk
    rw [← HL.out]
    clear hget hgt2 hk hRs
    obtain ⟨G, hG⟩ : ∃ G, Hid (G = Frm.get s.data.toList) := ⟨_, Lib.hid rfl⟩
    rw [← hG.out]
    by_cases he0 : e = 0
    · subst he0
      by_cases hsh : s.size < k + 5
      · have hg : G = (0, [], 0, 1) := by rw [hG.out, HGet.out, if_neg (by omega), if_pos (by rw [← size_toList]; exact hsh)]
        subst hg
        have hshi : (s.size : Int) < (k : Int) + 5 := by omega
        go_enter Try.func27, Try.ntmps27
        go_upto_region 1 with (fail)
        generalize (w.alloc (.cells #[.int .i64 0, .string { data := #[] }] 42)) = w0 at h2 hba ⊢
        go_upto_region 6 with (go_at_call 48; refine (T1 _).mono ?_; rintro y w1 ⟨rfl, rfl⟩)
        have h21 := h2
        have hb01 := hba
        obtain ⟨c0, c1, z0, z1⟩ := id h21
        go_wp2
        obtain ⟨s1, s2⟩ := Hst.out _ h21 hb01 (.int .i64 0) (.string { data := #[] })
        refine bodyPost_ret (results_cell_tmp3 rfl _ _ w.heap.size (.agg #[.int .i64 0, .string { data := #[] }]) rfl (Fin.out _ _ _ _ _ s1 rfl)) rfl ?_
        exact ⟨rfl, s2⟩
      · have hshi : (k : Int) + 5 ≤ (s.size : Int) := by omega
        obtain ⟨X, hX⟩ : ∃ X, Hid (X = (s.data.toList.drop (k + 1)).take 4) := ⟨_, Lib.hid rfl⟩
        obtain ⟨Y, hY⟩ : ∃ Y, Hid (Y = s.data.toList.take (k + 1)) := ⟨_, Lib.hid rfl⟩
        obtain ⟨S, hS⟩ : ∃ S, Hid (S = moreN 0 Y) := ⟨_, Lib.hid rfl⟩
        have hSl : S < 4294967296 := by rw [hS.out]; exact moreN_lt _ _
        have hYl : (mkS Y).size ≤ 4611686018427387904 := by rw [mkS_size, hY.out, List.length_take]; omega
        have OF := fun W => refof_any (mkS Y) (by omega) W
        rw [mkS_data, ← hS.out] at OF
        have hg : G = if X ≠ sumB S then (0, [], 0, 10) else (c.toNat, t, k + 5, 0) := by
          rw [hG.out, HGet.out, if_neg (by omega), if_neg (by rw [← size_toList]; omega), ← hX.out, ← hY.out, ← hS.out]
        have Hg := Lib.hid hg
        have hx1 : s.extract (k + 1) (k + 5) = mkS X := by rw [show k + 5 = k + 1 + 4 from rfl, extract_mkS, hX.out]
        have hy1 : s.extract 0 (k + 1) = mkS Y := by have := extract_mkS s 0 (k + 1); rw [Nat.zero_add] at this; rw [this, hY.out]; rfl
        have hn1 : ((k : Int) + 1).toNat = k + 1 := by omega
        have hn5 : ((k : Int) + 5).toNat = k + 5 := by omega
        have Hx1 := Lib.hid hx1
        have Hy1 := Lib.hid hy1
        clear hg hx1 hy1
        go_enter Try.func27, Try.ntmps27
        go_upto_region 1 with (fail)
        generalize (w.alloc (.cells #[.int .i64 0, .string { data := #[] }] 42)) = w0 at h2 hba ⊢
        go_upto_region 10 with (go_at_call 48; refine (T1 _).mono ?_; rintro y w1 ⟨rfl, rfl⟩)
        have h21 := h2
        have hb01 := hba
        have HB := Below.refl w0.heap.size w0
        have hx1 := Hx1.out
        have hy1 := Hy1.out
        have hn5' : ((k : Int) + 5).toNat = k + 5 := by omega
        have hle1 : (k : Int) + 1 ≤ (k : Int) + 5 := by omega
        have hle2 : (k : Int) + 5 ≤ (s.size : Int) := by omega
        have hle3 : (k : Int) + 1 ≤ (s.size : Int) := by omega
        have hle0 : (0 : Int) ≤ (k : Int) + 1 := by omega
        by_cases hXS : X = sumB S
        · have hgf : G = (c.toNat, t, k + 5, 0) := by rw [Hg.out, if_neg (by simpa using hXS)]
          have HGF := Lib.hid hgf
          subst hXS
          clear hgf Hg
          refine wp_region_det_list (by kernel_rfl) (by kernel_rfl) (SL [eqv (.string s), eqv (.int .i64 (k : Int)), eqv (.int .i64 ((k : Int) + 1)), eqv (.int .i64 (k : Int)), eqv (.int .i64 ((k : Int) + 5)), eqv (.string (mkS (sumB S))), eqv (.string s), eqv (.int .i64 (k : Int)), eqv (.int .i64 ((k : Int) + 1)), eqv (.string (mkS Y)), eqv (.int .u32 (S : Nat)), eqv (.string (mkS (sumB S))), eqv (.bool false), eqv (.bool false)]) (fun W => Below w0.heap.size w0 W) Grow ?hJ ?hX ?hop ?hend
          case hJ => exact HB.drew
          case hX => exact SL_mono _ ⟨mono_eqv _, mono_eqv _, mono_eqv _, mono_eqv _, mono_eqv _, mono_eqv _, mono_eqv _, mono_eqv _, mono_eqv _, mono_eqv _, mono_eqv _, mono_eqv _, mono_eqv _, mono_eqv _, trivial⟩
          case hop =>
            refine ⟨fun vals W hJ hS => ?_, fun vals W hJ hS => ?_, fun vals W hJ hS => ?_, fun vals W hJ hS => ?_, fun vals W hJ hS => ?_, fun vals W hJ hS => ?_, fun vals W hJ hS => ?_, fun vals W hJ hS => ?_, fun vals W hJ hS => ?_, fun vals W hJ hS => ?_, fun vals W hJ hS => ?_, fun vals W hJ hS => ?_, fun vals W hJ hS => ?_, fun vals W hJ hS => ?_, trivial⟩
            · clear hS
              simp only [fillTo]
              go_wp2
              exact ⟨rfl, SL_eq rfl rfl, hJ, Below.refl _ _⟩
            · clear hS
              simp only [fillTo]
              go_simp
              go_wp2
              exact ⟨rfl, SL_eq rfl rfl, hJ, Below.refl _ _⟩
            · have h1 := SL_val rfl (hS 1 (by kernel_rfl))
              clear hS
              simp only [fillTo]
              go_simp
              generalize vals 1 = v1 at h1 ⊢
              subst h1
              go_wp2
              exact ⟨rfl, SL_eq rfl rfl, hJ, Below.refl _ _⟩
            · clear hS
              simp only [fillTo]
              go_simp
              go_wp2
              exact ⟨rfl, SL_eq rfl rfl, hJ, Below.refl _ _⟩
            · have h3 := SL_val rfl (hS 3 (by kernel_rfl))
              clear hS
              simp only [fillTo]
              go_simp
              generalize vals 3 = v3 at h3 ⊢
              subst h3
              go_wp2
              exact ⟨rfl, SL_eq rfl rfl, hJ, Below.refl _ _⟩
            · have h0 := SL_val rfl (hS 0 (by kernel_rfl))
              have h2 := SL_val rfl (hS 2 (by kernel_rfl))
              have h4 := SL_val rfl (hS 4 (by kernel_rfl))
              clear hS
              simp only [fillTo]
              go_simp
              generalize vals 0 = v0 at h0 ⊢
              subst h0
              generalize vals 2 = v2 at h2 ⊢
              subst h2
              generalize vals 4 = v4 at h4 ⊢
              subst h4
              go_wp2
              exact ⟨rfl, SL_eq rfl rfl, hJ, Below.refl _ _⟩
            · clear hS
              simp only [fillTo]
              go_simp
              go_wp2
              exact ⟨rfl, SL_eq rfl rfl, hJ, Below.refl _ _⟩
            · clear hS
              simp only [fillTo]
              go_simp
              go_wp2
              exact ⟨rfl, SL_eq rfl rfl, hJ, Below.refl _ _⟩
            · have h7 := SL_val rfl (hS 7 (by kernel_rfl))
              clear hS
              simp only [fillTo]
              go_simp
              generalize vals 7 = v7 at h7 ⊢
              subst h7
              go_wp2
              exact ⟨rfl, SL_eq rfl rfl, hJ, Below.refl _ _⟩
            · have h6 := SL_val rfl (hS 6 (by kernel_rfl))
              have h8 := SL_val rfl (hS 8 (by kernel_rfl))
              clear hS
              simp only [fillTo]
              go_simp
              generalize vals 6 = v6 at h6 ⊢
              subst h6
              generalize vals 8 = v8 at h8 ⊢
              subst h8
              go_wp2
              exact ⟨rfl, SL_eq rfl rfl, hJ, Below.refl _ _⟩
            · have h9 := SL_val rfl (hS 9 (by kernel_rfl))
              clear hS
              simp only [fillTo]
              go_simp
              generalize vals 9 = v9 at h9 ⊢
              subst h9
              go_wp2_with (go_at_call 41; refine (OF _).mono ?_; rintro e w' ⟨rfl, rfl⟩; have hb := Below.refl W.heap.size W)
              exact ⟨rfl, SL_eq rfl rfl, hJ.trans (hb.mono hJ.size), hb⟩
            · have h10 := SL_val rfl (hS 10 (by kernel_rfl))
              clear hS
              simp only [fillTo]
              go_simp
              generalize vals 10 = v10 at h10 ⊢
              subst h10
              go_wp2_with (go_at_call 45; refine (refbytes_any S hSl _).mono ?_; rintro e w' ⟨rfl, hb⟩)
              exact ⟨rfl, SL_eq rfl rfl, hJ.trans (hb.mono hJ.size), hb⟩
            · have h5 := SL_val rfl (hS 5 (by kernel_rfl))
              have h11 := SL_val rfl (hS 11 (by kernel_rfl))
              clear hS
              simp only [fillTo]
              go_simp
              generalize vals 5 = v5 at h5 ⊢
              subst h5
              generalize vals 11 = v11 at h11 ⊢
              subst h11
              go_wp2
              exact ⟨rfl, SL_eq rfl rfl, hJ, Below.refl _ _⟩
            · have h12 := SL_val rfl (hS 12 (by kernel_rfl))
              clear hS
              simp only [fillTo]
              go_simp
              generalize vals 12 = v12 at h12 ⊢
              subst h12
              go_wp2
              exact ⟨rfl, SL_eq rfl rfl, hJ, Below.refl _ _⟩
          case hend =>
            intro vals W hJ hS
            have h13 := SL_val rfl (hS 13 (by decide))
            clear hS
            simp only [List.size_toArray, List.length_cons, List.length_nil, Nat.reduceAdd, fillTo]
            go_simp
            generalize vals 13 = v13 at h13 ⊢
            subst h13
            have h22 := h21.below hJ
            have hb22 := below_tr hb01 hJ
            obtain ⟨c0, c1, z0, z1⟩ := id h22
            go_wp2
            obtain ⟨s1, s2⟩ := Hst.out _ h22 hb22 (.int .i64 (c.toNat : Nat)) (.string (mkS t))
            refine bodyPost_ret (results_cell_tmp3 rfl _ _ w.heap.size (.agg #[.int .i64 (c.toNat : Nat), .string (mkS t)]) rfl (Fin.out _ _ _ _ _ s1 rfl)) rfl ?_
            refine ⟨?_, s2⟩
            rw [HGF.out]; simp [fvals]; try omega
        · have hgf : G = (0, [], 0, 10) := by rw [Hg.out, if_pos hXS]
          subst hgf
          have hne := str_ne hXS
          clear Hg hXS
          refine wp_region_det_list (by kernel_rfl) (by kernel_rfl) (SL [eqv (.string s), eqv (.int .i64 (k : Int)), eqv (.int .i64 ((k : Int) + 1)), eqv (.int .i64 (k : Int)), eqv (.int .i64 ((k : Int) + 5)), eqv (.string (mkS X)), eqv (.string s), eqv (.int .i64 (k : Int)), eqv (.int .i64 ((k : Int) + 1)), eqv (.string (mkS Y)), eqv (.int .u32 (S : Nat)), eqv (.string (mkS (sumB S))), eqv (.bool true), eqv (.bool true)]) (fun W => Below w0.heap.size w0 W) Grow ?hJ ?hX ?hop ?hend
          case hJ => exact HB.drew
          case hX => exact SL_mono _ ⟨mono_eqv _, mono_eqv _, mono_eqv _, mono_eqv _, mono_eqv _, mono_eqv _, mono_eqv _, mono_eqv _, mono_eqv _, mono_eqv _, mono_eqv _, mono_eqv _, mono_eqv _, mono_eqv _, trivial⟩
          case hop =>
            refine ⟨fun vals W hJ hS => ?_, fun vals W hJ hS => ?_, fun vals W hJ hS => ?_, fun vals W hJ hS => ?_, fun vals W hJ hS => ?_, fun vals W hJ hS => ?_, fun vals W hJ hS => ?_, fun vals W hJ hS => ?_, fun vals W hJ hS => ?_, fun vals W hJ hS => ?_, fun vals W hJ hS => ?_, fun vals W hJ hS => ?_, fun vals W hJ hS => ?_, fun vals W hJ hS => ?_, trivial⟩
            · clear hS
              simp only [fillTo]
              go_wp2
              exact ⟨rfl, SL_eq rfl rfl, hJ, Below.refl _ _⟩
            · clear hS
              simp only [fillTo]
              go_simp
              go_wp2
              exact ⟨rfl, SL_eq rfl rfl, hJ, Below.refl _ _⟩
            · have h1 := SL_val rfl (hS 1 (by kernel_rfl))
              clear hS
              simp only [fillTo]
              go_simp
              generalize vals 1 = v1 at h1 ⊢
              subst h1
              go_wp2
              exact ⟨rfl, SL_eq rfl rfl, hJ, Below.refl _ _⟩
            · clear hS
              simp only [fillTo]
              go_simp
              go_wp2
              exact ⟨rfl, SL_eq rfl rfl, hJ, Below.refl _ _⟩
            · have h3 := SL_val rfl (hS 3 (by kernel_rfl))
              clear hS
              simp only [fillTo]
              go_simp
              generalize vals 3 = v3 at h3 ⊢
              subst h3
              go_wp2
              exact ⟨rfl, SL_eq rfl rfl, hJ, Below.refl _ _⟩
            · have h0 := SL_val rfl (hS 0 (by kernel_rfl))
              have h2 := SL_val rfl (hS 2 (by kernel_rfl))
              have h4 := SL_val rfl (hS 4 (by kernel_rfl))
              clear hS
              simp only [fillTo]
              go_simp
              generalize vals 0 = v0 at h0 ⊢
              subst h0
              generalize vals 2 = v2 at h2 ⊢
              subst h2
              generalize vals 4 = v4 at h4 ⊢
              subst h4
              go_wp2
              exact ⟨rfl, SL_eq rfl rfl, hJ, Below.refl _ _⟩
            · clear hS
              simp only [fillTo]
              go_simp
              go_wp2
              exact ⟨rfl, SL_eq rfl rfl, hJ, Below.refl _ _⟩
            · clear hS
              simp only [fillTo]
              go_simp
              go_wp2
              exact ⟨rfl, SL_eq rfl rfl, hJ, Below.refl _ _⟩
            · have h7 := SL_val rfl (hS 7 (by kernel_rfl))
              clear hS
              simp only [fillTo]
              go_simp
              generalize vals 7 = v7 at h7 ⊢
              subst h7
              go_wp2
              exact ⟨rfl, SL_eq rfl rfl, hJ, Below.refl _ _⟩
            · have h6 := SL_val rfl (hS 6 (by kernel_rfl))
              have h8 := SL_val rfl (hS 8 (by kernel_rfl))
              clear hS
              simp only [fillTo]
              go_simp
              generalize vals 6 = v6 at h6 ⊢
              subst h6
              generalize vals 8 = v8 at h8 ⊢
              subst h8
              go_wp2
              exact ⟨rfl, SL_eq rfl rfl, hJ, Below.refl _ _⟩
            · have h9 := SL_val rfl (hS 9 (by kernel_rfl))
              clear hS
              simp only [fillTo]
              go_simp
              generalize vals 9 = v9 at h9 ⊢
              subst h9
              go_wp2_with (go_at_call 41; refine (OF _).mono ?_; rintro e w' ⟨rfl, rfl⟩; have hb := Below.refl W.heap.size W)
              exact ⟨rfl, SL_eq rfl rfl, hJ.trans (hb.mono hJ.size), hb⟩
            · have h10 := SL_val rfl (hS 10 (by kernel_rfl))
              clear hS
              simp only [fillTo]
              go_simp
              generalize vals 10 = v10 at h10 ⊢
              subst h10
              go_wp2_with (go_at_call 45; refine (refbytes_any S hSl _).mono ?_; rintro e w' ⟨rfl, hb⟩)
              exact ⟨rfl, SL_eq rfl rfl, hJ.trans (hb.mono hJ.size), hb⟩
            · have h5 := SL_val rfl (hS 5 (by kernel_rfl))
              have h11 := SL_val rfl (hS 11 (by kernel_rfl))
              clear hS
              simp only [fillTo]
              go_simp
              generalize vals 5 = v5 at h5 ⊢
              subst h5
              generalize vals 11 = v11 at h11 ⊢
              subst h11
              go_wp2
              exact ⟨rfl, SL_eq rfl rfl, hJ, Below.refl _ _⟩
            · have h12 := SL_val rfl (hS 12 (by kernel_rfl))
              clear hS
              simp only [fillTo]
              go_simp
              generalize vals 12 = v12 at h12 ⊢
              subst h12
              go_wp2
              exact ⟨rfl, SL_eq rfl rfl, hJ, Below.refl _ _⟩
          case hend =>
            intro vals W hJ hS
            have h13 := SL_val rfl (hS 13 (by decide))
            clear hS
            simp only [List.size_toArray, List.length_cons, List.length_nil, Nat.reduceAdd, fillTo]
            go_simp
            generalize vals 13 = v13 at h13 ⊢
            subst h13
            have h22 := h21.below hJ
            have hb22 := below_tr hb01 hJ
            obtain ⟨c0, c1, z0, z1⟩ := id h22
            go_wp2
            obtain ⟨s1, s2⟩ := Hst.out _ h22 hb22 (.int .i64 0) (.string { data := #[] })
            refine bodyPost_ret (results_cell_tmp3 rfl _ _ w.heap.size (.agg #[.int .i64 0, .string { data := #[] }]) rfl (Fin.out _ _ _ _ _ s1 rfl)) rfl ?_
            exact ⟨rfl, s2⟩

    · have hg : G = (0, [], 0, e) := by rw [hG.out, HGet.out, if_pos he0]
      subst hg
      have hne : ((e : Int) != 0) = true := by rw [bne_iff_ne]; omega
      go_enter Try.func27, Try.ntmps27
      go_upto_region 1 with (fail)
      generalize (w.alloc (.cells #[.int .i64 0, .string { data := #[] }] 42)) = w0 at h2 hba ⊢
      go_upto_region 6 with (go_at_call 48; refine (T1 _).mono ?_; rintro y w1 ⟨rfl, rfl⟩)
      have h21 := h2
      have hb01 := hba
      obtain ⟨c0, c1, z0, z1⟩ := id h21
      go_wp2
      obtain ⟨s1, s2⟩ := Hst.out _ h21 hb01 (.int .i64 0) (.string { data := #[] })
      refine bodyPost_ret (results_cell_tmp3 rfl _ _ w.heap.size (.agg #[.int .i64 0, .string { data := #[] }]) rfl (Fin.out _ _ _ _ _ s1 rfl)) rfl ?_
      exact ⟨rfl, s2⟩

end Go.Proofs.Ytmaebileagfdaaa
