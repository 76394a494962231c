/- The law FrameBack. -/
import Derived.Test.YtmaebileagfdaaaFrameB
import Derived.Test.YtmaebileagfdaaaFrameS
import Derived.Test.YtmaebileagfdaaaRow
namespace Go.Proofs.Ytmaebileagfdaaa
open Go.RowKit Dig Crc Frm

def encE (G : List (Nat × List UInt8)) : List Value := (List.range G.length).map fun i => .int .i64 (endAt G (i + 1) : Nat)
theorem encE_snoc (G : List (Nat × List UInt8)) (x : Nat × List UInt8) : encE (G ++ [x]) = encE G ++ [.int .i64 ((puts (G ++ [x])).length : Nat)] := by
  unfold encE
  rw [List.length_append, List.length_singleton, List.range_succ, List.map_append]
  congr 1
  · apply List.map_congr_left
    intro i hi
    have hi := List.mem_range.1 hi
    have : endAt (G ++ [x]) (i + 1) = endAt G (i + 1) := by
      unfold endAt
      rw [List.take_append_of_le_length (by omega)]
    rw [this]
  · have := endAt_all (G ++ [x])
    rw [List.length_append, List.length_singleton] at this
    simp [this]

/-- What was written so far: its bytes, the frames, and where they end. -/
structure BInv (w : World) (B : Nat) (e v : Value) (G : List (Nat × List UInt8)) : Prop where
  oe : w.ownsRow 0 3 1 e G.length (encE G)
  ov : w.ownsRow 0 42 2 v G.length (encF G)
  fe : ∀ g, e.ownBlock = some g → B ≤ g ∧ v.ownBlock ≠ some g
  fv : ∀ g, v.ownBlock = some g → B ≤ g
  ok : ∀ x ∈ G, Ok x

theorem BInv.keep {w w' : World} {B : Nat} {e v : Value} {G : List (Nat × List UInt8)} (h : BInv w B e v G) (hb : Below w.heap.size w w') : BInv w' B e v G :=
  ⟨(Chg.of_below (fun _ => False) hb).owns h.oe (fun _ _ x => x), (Chg.of_below (fun _ => False) hb).owns h.ov (fun _ _ x => x), h.fe, h.fv, h.ok⟩

/-- A struct's row, one of its elements. -/
theorem rowIS_at {w : World} {k : IntKind} {a : Option Addr} {zs : List (Int × ByteArray)} (h : RowG (isIS k) 2 w a zs) (j : Nat) (z : Int × ByteArray) (hz : zs[j]? = some z) :
    ∃ ad, a = some ad ∧ w.cell? (ad.add (j * 2)) = some (.int k z.1) ∧ w.cell? ⟨(ad.add (j * 2)).block, (ad.add (j * 2)).off + 1, none⟩ = some (.string z.2) ∧ (Lit.int k z.1).wf = true ∧ z.2.size ≤ 140737488351232 := by
  rcases h with rfl | ⟨ad, rfl, h1⟩
  · simp at hz
  · obtain ⟨cs, _, h3, rfl, h5, h6⟩ := h1 j z hz
    refine ⟨ad, rfl, h3 0 _ rfl, ?_, h5, h6⟩
    rw [← add_field ad (j * 2) 1 (by decide)]
    exact h3 1 _ rfl
theorem RowG.below {α : Type} {R : World → List Value → α → Prop} {size : Nat} {w w' : World} {a : Option Addr} {ys : List α} (h : RowG R size w a ys) (hb : Below w.heap.size w w') (hR : ∀ cs y, R w cs y → R w' cs y) : RowG R size w' a ys :=
  RowG.keep (F := fun _ => False) h (Chg.of_below _ hb) (fun _ _ x => x) hR

theorem owns_ltF {w : World} {base : Nat} {e : TypeId} {size : Nat} {v : Value} {n : Nat} {xs : List Value} (h : w.ownsRow base e size v n xs) {g : Nat} (hg : v.ownBlock = some g) : g < w.heap.size := by
  rcases h.2 with ⟨rfl, _⟩ | ⟨g', cap, cur, rfl, _, hgg, _⟩
  · simp [Value.ownBlock] at hg
  · cases hg
    rcases Nat.lt_or_ge g' w.heap.size with h | h
    · exact h
    · simp [Array.getElem?_eq_none h] at hgg

theorem owns_sliceF {w : World} {base : Nat} {e : TypeId} {size : Nat} {v : Value} {n : Nat} {xs : List Value} (h : w.ownsRow base e size v n xs) : ∃ a cap, v = .slice a n cap := by
  rcases h.2 with ⟨rfl, rfl⟩ | ⟨g, cap, cur, rfl, _⟩
  · exact ⟨none, 0, rfl⟩
  · exact ⟨_, _, rfl⟩

theorem info1 {t : TypeId} (h : (Try.prog.info? t).map (fun i => (i.zero, i.size, i.bytes)) = some (some (.int .i64 0), 1, 8)) : ∃ i, Try.prog.info? t = some i ∧ i.zero = some (.int .i64 0) ∧ i.size = 1 ∧ i.bytes = 8 := info_of h

set_option maxRecDepth 100000 in
set_option maxHeartbeats 4000000 in
theorem frameBack_walk (a : Option Addr) (len cap : Nat) (zs : List (Int × ByteArray)) (at0 : Int) (hz : zs.length = len) (_hl : len * 24 ≤ 140737488351232) (_ha : (Lit.int .i64 at0).wf = true) (w : World) (hr : RowG (isIS .i64) 2 w a zs) :
    Calls Try.prog 11 #[.slice a len cap, .int .i64 at0] w fun e w' => e = .returned (.bool true) ∧ Below w.heap.size w w' := by
  obtain ⟨i0, hi, hz0, hz1, hz2⟩ := info_of rfinfo
  obtain ⟨i1, hi1, hy0, hy1, hy2⟩ := info_of (t := 3) (z := .int .i64 0) (n := 1) (b := 8) (by kernel_rfl)
  go_enter Try.func11, Try.ntmps11
  go_upto_region 3 with (go_at_call 31; refine (fworks_any _).mono ?_; rintro e w0 ⟨rfl, hbl0⟩)
  go_wp2
  go_loopw [5, 6, 7, 8] (fun s e v i wr => ∃ (j : Nat) (G : List (Nat × List UInt8)), j ≤ 20 ∧ j ≤ len ∧ i = .int .i64 j ∧ s = .string (mkS (puts G)) ∧ BInv wr w.heap.size e v G ∧ (puts G).length ≤ 2100 * j ∧ G.length ≤ j ∧ Below w.heap.size w wr) (fun _ _ _ i _ => 20 - (intOf i).toNat)
  case atStart => exact ⟨0, [], by omega, by omega, rfl, rfl, ⟨World.ownsRow_nil _ _ _ _, World.ownsRow_nil _ _ _ _, fun g hg => by simp [Value.ownBlock] at hg, fun g hg => by simp [Value.ownBlock] at hg, by simp⟩, by simp [puts], by simp, hbl0⟩
  case round =>
    obtain ⟨j, G, hj, hjn, rfl, rfl, hB, hpl, hGl, hbel⟩ := hrel
    by_cases hlt : j < len ∧ j < 20
    · obtain ⟨hlt, h20⟩ := hlt
      have hlti : (j : Int) < (len : Int) := by omega
      have h20i : (j : Int) < 20 := by omega
      have hji : (0 : Int) ≤ (j : Int) := by omega
      obtain ⟨⟨k, d⟩, hzj⟩ : ∃ z, Hid (zs[j]? = some z) := ⟨_, Lib.hid (List.getElem?_eq_getElem (by omega))⟩
      have hr2 := hr.below hbel (fun _ _ h => h)
      obtain ⟨ad, rfl, k0, k1, hwf, hds⟩ := rowIS_at hr2 j _ hzj.out
      simp only at k0 k1 hwf hds
      by_cases hbig : 2000 < (d.size : Int)
      · go_wp2
        go_ret
        exact ⟨rfl, hbel⟩
      have hcells : ∀ W, Below wr.heap.size wr W → W.cell? (ad.add (j * 2)) = some (.int .i64 k) ∧ W.cell? ⟨(ad.add (j * 2)).block, (ad.add (j * 2)).off + 1, none⟩ = some (.string d) := fun W hW => ⟨(Chg.of_below (fun _ => False) hW).cell k0 (fun x => x), (Chg.of_below (fun _ => False) hW).cell k1 (fun x => x)⟩
      obtain ⟨P, hP⟩ : ∃ P, Hid (P = put k d.data.toList) := ⟨_, Lib.hid rfl⟩
      have F1 := fun W => fput_any k d (wf_i64 hwf) (by omega) W
      rw [← hP.out] at F1
      have Hds := Lib.hid hds
      have Hwf := Lib.hid hwf
      have Hr := Lib.hid hr
      clear hwf hds
      go_upto_region 11 with (fail)
      have HB := Below.refl wr.heap.size wr
      refine wp_region_det_list (by kernel_rfl) (by kernel_rfl) (SL [eqv (.slice (some ad) len cap), eqv (.int .i64 (j : Nat)), eqv (.pointer (some (ad.add (j * 2)))), eqv (.pointer (some (ad.add (j * 2)))), eqv (.int .i64 k), eqv (.slice (some ad) len cap), eqv (.int .i64 (j : Nat)), eqv (.pointer (some (ad.add (j * 2)))), eqv (.pointer (some ⟨(ad.add (j * 2)).block, (ad.add (j * 2)).off + 1, none⟩)), eqv (.string d), eqv (.agg #[.int .i64 k, .string d]), eqv (.tuple #[.string (mkS P.1), .int .i64 (P.2 : Nat)]), eqv (.tuple #[.string (mkS P.1), .int .i64 (P.2 : Nat)]), eqv (.string (mkS P.1)), eqv (.int .i64 (P.2 : Nat)), eqv (.string (mkS P.1)), eqv (.int .i64 (P.2 : Nat))]) (fun W => Below wr.heap.size wr W) Grow ?hJ ?hX ?hop ?hend
      case hJ => exact HB.drew
      case hX => exact SL_mono _ ⟨mono_eqv _, mono_eqv _, mono_eqv _, mono_eqv _, mono_eqv _, mono_eqv _, mono_eqv _, mono_eqv _, mono_eqv _, mono_eqv _, mono_eqv _, mono_eqv _, mono_eqv _, mono_eqv _, mono_eqv _, mono_eqv _, mono_eqv _, trivial⟩
      case hop =>
        refine ⟨fun vals W hJ hS => ?_, fun vals W hJ hS => ?_, fun vals W hJ hS => ?_, fun vals W hJ hS => ?_, fun vals W hJ hS => ?_, fun vals W hJ hS => ?_, fun vals W hJ hS => ?_, fun vals W hJ hS => ?_, fun vals W hJ hS => ?_, fun vals W hJ hS => ?_, fun vals W hJ hS => ?_, fun vals W hJ hS => ?_, fun vals W hJ hS => ?_, fun vals W hJ hS => ?_, fun vals W hJ hS => ?_, fun vals W hJ hS => ?_, fun vals W hJ hS => ?_, trivial⟩
        · clear hS
          simp only [fillTo]
          go_wp2
          exact ⟨rfl, SL_eq rfl rfl, hJ, Below.refl _ _⟩
        · clear hS
          simp only [fillTo]
          go_simp
          go_wp2
          exact ⟨rfl, SL_eq rfl rfl, hJ, Below.refl _ _⟩
        · have h0 := SL_val rfl (hS 0 (by kernel_rfl))
          have h1 := SL_val rfl (hS 1 (by kernel_rfl))
          clear hS
          simp only [fillTo]
          go_simp
          generalize vals 0 = v0 at h0 ⊢
          subst h0
          generalize vals 1 = v1 at h1 ⊢
          subst h1
          go_wp2
          exact ⟨rfl, SL_eq rfl rfl, hJ, Below.refl _ _⟩
        · have h2 := SL_val rfl (hS 2 (by kernel_rfl))
          clear hS
          simp only [fillTo]
          go_simp
          generalize vals 2 = v2 at h2 ⊢
          subst h2
          go_wp2
          exact ⟨rfl, SL_eq rfl rfl, hJ, Below.refl _ _⟩
        · have h3 := SL_val rfl (hS 3 (by kernel_rfl))
          have hkc := (hcells W hJ).1
          clear hS
          simp only [fillTo]
          go_simp
          generalize vals 3 = v3 at h3 ⊢
          subst h3
          go_wp2
          exact ⟨rfl, SL_eq rfl rfl, hJ, Below.refl _ _⟩
        · clear hS
          simp only [fillTo]
          go_simp
          go_wp2
          exact ⟨rfl, SL_eq rfl rfl, hJ, Below.refl _ _⟩
        · clear hS
          simp only [fillTo]
          go_simp
          go_wp2
          exact ⟨rfl, SL_eq rfl rfl, hJ, Below.refl _ _⟩
        · have h5 := SL_val rfl (hS 5 (by kernel_rfl))
          have h6 := SL_val rfl (hS 6 (by kernel_rfl))
          clear hS
          simp only [fillTo]
          go_simp
          generalize vals 5 = v5 at h5 ⊢
          subst h5
          generalize vals 6 = v6 at h6 ⊢
          subst h6
          go_wp2
          exact ⟨rfl, SL_eq rfl rfl, hJ, Below.refl _ _⟩
        · have h7 := SL_val rfl (hS 7 (by kernel_rfl))
          clear hS
          simp only [fillTo]
          go_simp
          generalize vals 7 = v7 at h7 ⊢
          subst h7
          go_wp2
          exact ⟨rfl, SL_eq rfl rfl, hJ, Below.refl _ _⟩
        · have h8 := SL_val rfl (hS 8 (by kernel_rfl))
          have hkc := (hcells W hJ).2
          clear hS
          simp only [fillTo]
          go_simp
          generalize vals 8 = v8 at h8 ⊢
          subst h8
          go_wp2
          exact ⟨rfl, SL_eq rfl rfl, hJ, Below.refl _ _⟩
        · have h4 := SL_val rfl (hS 4 (by kernel_rfl))
          have h9 := SL_val rfl (hS 9 (by kernel_rfl))
          clear hS
          simp only [fillTo]
          go_simp
          generalize vals 4 = v4 at h4 ⊢
          subst h4
          generalize vals 9 = v9 at h9 ⊢
          subst h9
          go_wp2
          exact ⟨rfl, SL_eq rfl rfl, hJ, Below.refl _ _⟩
        · have h10 := SL_val rfl (hS 10 (by kernel_rfl))
          clear hS
          simp only [fillTo]
          go_simp
          generalize vals 10 = v10 at h10 ⊢
          subst h10
          go_wp2_with (go_at_call 19; refine (F1 _).mono ?_; rintro e w' ⟨rfl, hb⟩)
          exact ⟨rfl, SL_eq rfl rfl, hJ.trans (hb.mono hJ.size), hb⟩
        · have h11 := SL_val rfl (hS 11 (by kernel_rfl))
          clear hS
          simp only [fillTo]
          go_simp
          generalize vals 11 = v11 at h11 ⊢
          subst h11
          go_wp2
          exact ⟨rfl, SL_eq rfl rfl, hJ, Below.refl _ _⟩
        · have h12 := SL_val rfl (hS 12 (by kernel_rfl))
          clear hS
          simp only [fillTo]
          go_simp
          generalize vals 12 = v12 at h12 ⊢
          subst h12
          go_wp2
          exact ⟨rfl, SL_eq rfl rfl, hJ, Below.refl _ _⟩
        · have h12 := SL_val rfl (hS 12 (by kernel_rfl))
          clear hS
          simp only [fillTo]
          go_simp
          generalize vals 12 = v12 at h12 ⊢
          subst h12
          go_wp2
          exact ⟨rfl, SL_eq rfl rfl, hJ, Below.refl _ _⟩
        · have h13 := SL_val rfl (hS 13 (by kernel_rfl))
          clear hS
          simp only [fillTo]
          go_simp
          generalize vals 13 = v13 at h13 ⊢
          subst h13
          go_wp2
          exact ⟨rfl, SL_eq rfl rfl, hJ, Below.refl _ _⟩
        · have h14 := SL_val rfl (hS 14 (by kernel_rfl))
          clear hS
          simp only [fillTo]
          go_simp
          generalize vals 14 = v14 at h14 ⊢
          subst h14
          go_wp2
          exact ⟨rfl, SL_eq rfl rfl, hJ, Below.refl _ _⟩
      case hend =>
        intro vals W hJ hS
        have h15 := SL_val rfl (hS 15 (by decide))
        have h16 := SL_val rfl (hS 16 (by decide))
        clear hS
        simp only [List.size_toArray, List.length_cons, List.length_nil, Nat.reduceAdd, fillTo]
        go_simp
        generalize vals 15 = v15 at h15 ⊢
        subst h15
        generalize vals 16 = v16 at h16 ⊢
        subst h16
        obtain ⟨ck0, ck1⟩ := hcells W hJ
        have hB2 := hB.keep hJ
        have hbel2 := below_tr hbel hJ
        clear hcells HB k0 k1 hB F1
        by_cases hP2 : P.2 = 0
        · have hpe := put_e k d.data.toList
          rw [← hP.out] at hpe
          have hk : (1 ≤ k ∧ k ≤ 255) ∧ d.data.toList.length ≤ 65536 := by omega
          obtain ⟨x, hx⟩ : ∃ x : Nat × List UInt8, Hid (x = (k.toNat, d.data.toList)) := ⟨_, Lib.hid rfl⟩
          have hx1 : ((x.1 : Nat) : Int) = k := by rw [hx.out]; simp only; omega
          have hxok : Ok x := ⟨by rw [hx1]; exact hk.1, by rw [hx.out]; exact hk.2⟩
          have hx2 : mkS x.2 = d := by rw [hx.out]; exact mkS_toList d
          have hxp : putx x = P.1 := by unfold putx; rw [hx1, hP.out, hx.out]
          have hpl2 : P.1.length ≤ 2100 := by
            rw [hP.out, put_len hk.1 hk.2]
            have := textB_len d.data.toList (by omega)
            have hdd := size_toList d
            omega
          have hcat : mkS (puts G) ++ mkS P.1 = mkS (puts (G ++ [x])) := by rw [mkS_append, puts_snoc, hxp]
          have hz : ¬ 9223372036854775807 < (mkS (puts G)).size + (mkS P.1).size := by rw [mkS_size, mkS_size]; omega
          have hpl3 : (puts (G ++ [x])).length ≤ 2100 * (j + 1) := by rw [puts_snoc, hxp, List.length_append]; omega
          have hsz9 : (mkS (puts (G ++ [x]))).size = (puts (G ++ [x])).length := mkS_size _
          have hsz10 : ((puts (G ++ [x])).length : Int) ≤ 100000 := by omega
          obtain ⟨N, hN⟩ : ∃ N, Hid (N = (puts (G ++ [x])).length) := ⟨_, Lib.hid rfl⟩
          rw [← hN.out] at hsz9 hsz10
          have Hxok := Lib.hid hxok
          have Hx1 := Lib.hid hx1
          have Hx2 := Lib.hid hx2
          have Hk := Lib.hid hk
          have Hpl3 := Lib.hid hpl3
          clear hpe hk hx1 hx2 hxok hxp hpl3
          have hoe := hB2.oe
          have hov := hB2.ov
          go_upto_region 15 with (at_builtin; refine wpList_append_fp rfl _ _ 70 rfl 0 42 i0 (.agg #[.int .i64 0, .string { data := #[] }]) 2 24 Try.underlying70 hi hz0 hz1 hz2 rfl (by decide) _ _ _ rfl (hov.alloc _) ⟨_, 0, none⟩ 1 1 [.int .i64 k, .string d] rfl rfl ?c1 ?c2 ?c3 ?c4 ?c5 ?_)
          case c2 => exact ⟨rfl, rfl⟩
          case c3 => unfold maxLen; omega
          case c4 => omega
          intro v2 w3 ho2 hgr2 _ hbk2
          have hwa : Below W.heap.size W (W.alloc (.cells #[.int .i64 k, .string d] 42)) := (Below.refl _ _).alloc (Nat.le_refl _) _
          have hne : ∀ g, u6.ownBlock = some g → g < W.heap.size := fun g hg => owns_ltF hoe hg
          have hoe2 := (Chg.of_below (fun _ => False) hwa).owns hoe (fun _ _ x => x)
          have hoe3 : w3.ownsRow 0 3 1 u6 G.length (encE G) := (Chg.grown hgr2).owns hoe2 (fun g hg e => (hB2.fe g hg).2 e.symm)
          have hch3 : Chg (fun k => u7.ownBlock = some k) W w3 := (Chg.of_below _ hwa).trans (Chg.grown hgr2) (fun _ _ x => x.symm)
          have hs3 := hch3.size
          have hs2 : (W.alloc (.cells #[.int .i64 k, .string d] 42)).heap.size = W.heap.size + 1 := by simp
          have hv2 : ∀ g, v2.ownBlock = some g → w.heap.size ≤ g ∧ u6.ownBlock ≠ some g ∧ g < w3.heap.size := fun g hg => by
            refine ⟨?_, ?_, owns_ltF ho2 hg⟩
            · rcases hbk2 with h | h
              · exact hB2.fv g (by rw [← h]; exact hg)
              · rw [h] at hg; have := Option.some.inj hg; have := hbel2.size; omega
            · intro he
              rcases hbk2 with h | h
              · exact (hB2.fe g he).2 (by rw [← h]; exact hg)
              · rw [h] at hg; have := Option.some.inj hg; have := hne g he; omega
          have hbel3 : Below w.heap.size w w3 := hbel2.trans (hch3.below hbel2.size (fun g hg e => by have := hB2.fv g e; omega))
          clear hgr2 hbk2 hov hoe2 hwa hch3 hs2
          go_upto_region 8 with (at_builtin; refine wpList_append_fp rfl _ _ 58 rfl 0 3 i1 (.int .i64 0) 1 8 Try.underlying58 hi1 hy0 hy1 hy2 rfl (by decide) _ _ _ rfl (hoe3.alloc _) ⟨_, 0, none⟩ 1 1 [.int .i64 (N : Nat)] rfl rfl ?e1 ?e2 ?e3 ?e4 ?e5 ?_)
          case e1 =>
            intro i u hu
            match i, hu with
            | 0, hu => simp at hu; subst hu; simp [Addr.add]
            | i + 1, hu => simp at hu
          case e2 => intro u hu; simp at hu; subst hu; rfl
          case e3 => unfold maxLen; omega
          case e4 => omega
          case e5 => exact Nat.zero_le _
          intro e2 w4 ho4 hgr4 _ hbk4
          have hwb : Below w3.heap.size w3 (w3.alloc (.cells #[.int .i64 (N : Nat)] 3)) := (Below.refl _ _).alloc (Nat.le_refl _) _
          have hch4 : Chg (fun k => u6.ownBlock = some k) w3 w4 := (Chg.of_below _ hwb).trans (Chg.grown hgr4) (fun _ _ x => x.symm)
          have hov4 : w4.ownsRow 0 42 2 v2 (G.length + 1) (encF G ++ [.int .i64 k, .string d]) := hch4.owns ho2 (fun g hg e => (hv2 g hg).2.1 e)
          have hbel4 : Below w.heap.size w w4 := hbel3.trans (hch4.below hbel3.size (fun g hg e => by have := (hB2.fe g e).1; omega))
          have hs4 : (w3.alloc (.cells #[.int .i64 (N : Nat)] 3)).heap.size = w3.heap.size + 1 := by simp
          have hBn : BInv w4 w.heap.size e2 v2 (G ++ [x]) := by
            refine ⟨?_, ?_, fun g hg => ?_, fun g hg => (hv2 g hg).1, ?_⟩
            · rw [encE_snoc, ← hN.out, List.length_append]; exact ho4
            · have hsn := encF_snoc G x
              rw [Hx1.out, Hx2.out] at hsn
              rw [hsn, List.length_append]; exact hov4
            · rcases hbk4 with h | h
              · rw [h] at hg
                exact ⟨(hB2.fe g hg).1, fun e => (hv2 g e).2.1 hg⟩
              · rw [h] at hg
                have h9 := Option.some.inj hg
                have h8 := hbel2.size
                exact ⟨by omega, fun e => by have := (hv2 g e).2.2; omega⟩
            · intro y hy
              rcases List.mem_append.1 hy with h | h
              · exact hB2.ok y h
              · rw [List.mem_singleton.1 h]; exact Hxok.out
          clear hgr4 hbk4 hov4 ho4 hch4 hwb hs4 ho2 hoe3 hoe hv2 hne hB2
          go_wp2
          go_roundw
          case rel => exact ⟨j + 1, G ++ [x], by omega, by omega, by go_num, rfl, hBn, Hpl3.out, by rw [List.length_append, List.length_singleton]; omega, hbel4⟩
          case measure => simp [intOf]; omega
        · obtain ⟨E, hE⟩ : ∃ E, Hid (E = P.2) := ⟨_, Lib.hid rfl⟩
          rw [← hE.out] at hP2 ⊢
          have hEn : ((E : Int) == 0) = false := by rw [beq_eq_false_iff_ne]; omega
          go_wp2
          go_roundw
          case rel => exact ⟨j + 1, G, by omega, by omega, by go_num, rfl, hB2, by omega, by omega, hbel2⟩
          case measure => simp [intOf]; omega
    · obtain ⟨S, hS⟩ : ∃ S, Hid (S = puts G) := ⟨_, Lib.hid rfl⟩
      rw [← hS.out] at hpl ⊢
      have hSl : (mkS S).size = S.length := mkS_size S
      have hex : ((j : Int) < (len : Int) ∧ (20 : Int) ≤ (j : Int)) ∨ (len : Int) ≤ (j : Int) := by omega
      have HNlt := Lib.hid hlt
      have hScan := fun W => scan_any (mkS S) (by rw [hSl]; omega) W
      rw [mkS_data] at hScan
      have hsc := scan_puts G hB.ok []
      rw [List.append_nil, scan_nil, ← hS.out] at hsc
      simp only [List.append_nil, Nat.add_zero] at hsc
      rw [hsc] at hScan
      simp only at hScan
      have hSb : S.length ≤ 42000 := by omega
      clear hsc hlt
      rcases hex with ⟨hx1, hx2⟩ | hx1
      all_goals
        go_upto_region 17 with (go_at_call 28; refine (hScan _).mono ?_; rintro y w2 ⟨v3, rfl, ho3, hv3, hb3⟩)
        have hB2 := hB.keep hb3
        have hbel2 := below_tr hbel hb3
        obtain ⟨a3, c3, rfl, g3⟩ := own_src ho3
        obtain ⟨a7, c7, rfl, g7⟩ := own_src hB2.ov
        have SM := same_any w2 a3 a7 c3 c7 G g3 g7 (by omega)
        clear g3 g7 ho3 hv3 hb3 hB
        go_upto_region 19 with (go_at_call 30; refine SM.mono ?_; rintro y w3 ⟨rfl, hb3⟩)
        have hB3 := hB2.keep hb3
        have hbel3 := below_tr hbel2 hb3
        clear hB2 hbel2 hb3 SM
        by_cases hS0 : S = []
        · have hG0 : G = [] := by
            cases hGc : G with
            | nil => rfl
            | cons y r =>
              have h1 := putx_pos y (hB3.ok y (by rw [hGc]; simp))
              rw [hS.out, hGc, puts_cons] at hS0
              have := congrArg List.length hS0
              rw [List.length_append, List.length_nil] at this; omega
          subst hS0
          subst hG0
          have hem : (mkS []).toList.isEmpty = true := isEmpty_true (mkS_data [])
          have hem2 : mkS [] = { data := #[] } := rfl
          go_wp2
          go_ret
          exact ⟨rfl, hbel3⟩
        · have hSp : 0 < S.length := List.length_pos_iff.mpr hS0
          have hSpi : (0 : Int) < (S.length : Int) := by omega
          have hSbi : (S.length : Int) ≤ 42000 := by omega
          obtain ⟨K, hK1, hK2⟩ := umod_k at0 (S.length : Int) hSpi (by omega)
          have hKS : K < S.length := by omega
          have hGp : 0 < G.length := by
            rcases Nat.eq_zero_or_pos G.length with h | h
            · have : G = [] := List.length_eq_zero_iff.mp h
              subst this
              exact absurd hS.out hS0
            · exact h
          have hem : (mkS S).toList.isEmpty = false := isEmpty_false (by rw [hSl]; exact hSp)
          go_upto_block 2 with (fail)
          rw [hK1]
          clear hK1 hem
          obtain ⟨ae, ce, rfl⟩ := owns_sliceF hB3.oe
          have hoe := hB3.oe
          obtain ⟨ge, cape, hfe, _, _⟩ := World.ownsRow.form hoe hGp
          simp only [Value.slice.injEq, true_and] at hfe
          obtain ⟨rfl, rfl⟩ := hfe
          obtain ⟨g7, cap7, hf7, _, _⟩ := World.ownsRow.form hB3.ov hGp
          simp only [Value.slice.injEq, true_and] at hf7
          obtain ⟨rfl, rfl⟩ := hf7
          obtain ⟨n, hn⟩ : ∃ n, Hid (n = G.length) := ⟨_, Lib.hid rfl⟩
          have hGi : (G.length : Int) ≤ 20 := by omega
          have hendb : ∀ t, endAt G t ≤ 42000 := fun t => by
            rcases Nat.le_total t G.length with h | h
            · have := endAt_mono G t _ h; rw [endAt_all, ← hS.out] at this; omega
            · unfold endAt; rw [List.take_of_length_le h, ← hS.out]; omega
          have Hendb := Lib.hid hendb
          clear hendb
          go_cut [15, 16, 17] from 104 to 121 (fun a b _ wc => ∃ p : Nat, p < G.length ∧ a = .int .i64 (p : Nat) ∧ b = .int .i64 (endAt G p : Nat) ∧ Hid (endAt G p ≤ K) ∧ Hid (K < endAt G (p + 1)) ∧ w3 = wc)
          case first =>
            go_wp2
            go_loopw [15, 16, 17] (fun a b i wr => ∃ (p q : Nat), p ≤ q ∧ q ≤ G.length ∧ i = .int .i64 (q : Nat) ∧ a = .int .i64 (p : Nat) ∧ b = .int .i64 (endAt G p : Nat) ∧ Hid (∀ t, t < p → endAt G (t + 1) ≤ K) ∧ Hid (∀ t, p ≤ t → t < q → K < endAt G (t + 1)) ∧ w3 = wr) (fun _ _ i _ => 20 - (intOf i).toNat)
            case atStart => exact ⟨0, 0, by omega, by omega, rfl, rfl, by rw [endAt_zero]; rfl, Lib.hid (fun t h => by omega), Lib.hid (fun t _ h => by omega), rfl⟩
            case round =>
              obtain ⟨p, q, hpq, hqG, rfl, rfl, rfl, ht1, ht2, rfl⟩ := hrel
              by_cases hq : q < G.length
              · have hqi : (q : Int) < (G.length : Int) := by omega
                have hce := hoe.cellAt q (by omega)
                have hge : (encE G)[q]? = some (.int .i64 (endAt G (q + 1) : Nat)) := by simp [encE, hq]
                rw [hge] at hce
                obtain ⟨E, hE⟩ : ∃ E, Hid (E = endAt G (q + 1)) := ⟨_, Lib.hid rfl⟩
                rw [← hE.out] at hce
                have hEb : E ≤ 42000 := by rw [hE.out]; exact Hendb.out _
                have hpb : endAt G p ≤ 42000 := Hendb.out _
                clear hge
                by_cases hEK : E ≤ K
                · have hEKi : (E : Int) ≤ (K : Int) := by omega
                  have hpq2 : p = q := by
                    apply Classical.byContradiction
                    intro hne
                    have h1 := ht2.out p (Nat.le_refl _) (by omega)
                    have h2 := endAt_mono G (p + 1) (q + 1) (by omega)
                    rw [← hE.out] at h2; omega
                  subst hpq2
                  go_wp2
                  go_roundw
                  case rel =>
                    refine ⟨p + 1, p + 1, by omega, by omega, by go_num, by go_num, by rw [hE.out], Lib.hid (fun t h => ?_), Lib.hid (fun t h h2 => by omega), (by first | rfl | trivial)⟩
                    rcases (by omega : t < p ∨ t = p) with h9 | rfl
                    · exact ht1.out t h9
                    · rw [← hE.out]; exact hEK
                  case measure => simp [intOf]; omega
                · have hEKi : ¬ (E : Int) ≤ (K : Int) := by omega
                  go_wp2
                  go_roundw
                  case rel =>
                    refine ⟨p, q + 1, by omega, by omega, by go_num, rfl, rfl, ht1, Lib.hid (fun t h h2 => ?_), (by first | rfl | trivial)⟩
                    rcases (by omega : t < q ∨ t = q) with h9 | rfl
                    · exact ht2.out t h h9
                    · rw [← hE.out]; omega
                  case measure => simp [intOf]; omega
              · obtain rfl : q = G.length := by omega
                have hall := endAt_all G
                rw [← hS.out] at hall
                have hpG : p < G.length := by
                  apply Classical.byContradiction
                  intro hne
                  obtain rfl : p = G.length := by omega
                  have := ht1.out (G.length - 1) (by omega)
                  rw [Nat.sub_add_cancel hGp] at this
                  omega
                have h1 := ht2.out p (Nat.le_refl _) hpG
                have h0 : endAt G p ≤ K := by
                  rcases Nat.eq_zero_or_pos p with h | h
                  · rw [h, endAt_zero]; omega
                  · have := ht1.out (p - 1) (by omega)
                    rw [Nat.sub_add_cancel h] at this; exact this
                have H1 := Lib.hid h1
                have H0 := Lib.hid h0
                clear h1 h0 hall
                go_wp2
                go_meet
                case rel => exact ⟨p, hpG, rfl, rfl, H0, H1, rfl⟩
          case rest =>
            obtain ⟨p, hpG, rfl, rfl, h0, h1, rfl⟩ := hcut
            have hcut := scan_cut G hB3.ok p K hpG h0.out h1.out
            rw [← hS.out] at hcut
            have hKn : K ≤ S.length := by omega
            have hKi0 : (0 : Int) ≤ (K : Int) := by omega
            have hKsz : (K : Int) ≤ ((mkS S).size : Int) := by rw [hSl]; omega
            have hexK : (mkS S).extract 0 K = mkS (S.take K) := by
              have := extract_mkS (mkS S) 0 K
              rw [Nat.zero_add, mkS_data] at this
              rw [this]; rfl
            have hScan2 := fun W => scan_any (mkS (S.take K)) (by rw [mkS_size, List.length_take]; omega) W
            rw [mkS_data] at hScan2
            rw [hcut] at hScan2
            simp only at hScan2
            have hpb : endAt G p ≤ 42000 := Hendb.out _
            obtain ⟨T, hT⟩ : ∃ T, Hid (T = endAt G p) := ⟨_, Lib.hid rfl⟩
            rw [← hT.out] at hScan2 hpb ⊢
            have hTl : (G.take p).length = p := by rw [List.length_take]; omega
            rw [hTl] at hScan2
            have hov := hB3.ov
            have hpc : (p : Int) ≤ (c7 : Int) := by
              rcases hov.2 with ⟨h9, _⟩ | ⟨g', cap', cur, h9, _, _, h8, _⟩
              · simp at h9
              · simp only [Value.slice.injEq, true_and] at h9
                have := h9.2; omega
            have hsrcp : Src w3 2 (some ⟨g7, 0, none⟩) (G.take p).length c7 (encF (G.take p)) := by
              refine ⟨encF_len _, .inr ⟨_, rfl, fun i u hu => ?_⟩⟩
              have hpre : (encF G)[i]? = some u := by
                have e9 : encF G = encF (G.take p) ++ encF (G.drop p) := by
                  unfold encF; rw [← List.flatten_append, ← List.map_append, List.take_append_drop]
                have hil : i < (encF (G.take p)).length := by
                  rcases Nat.lt_or_ge i (encF (G.take p)).length with h | h
                  · exact h
                  · rw [List.getElem?_eq_none h] at hu; cases hu
                rw [e9, List.getElem?_append_left hil]; exact hu
              exact hov.cells rfl i u hpre
            rw [hTl] at hsrcp
            have HTl := Lib.hid hTl
            have hpi : (p : Int) ≤ 20 := by omega
            clear hcut
            go_upto_region 31 with (go_at_call 28; refine (hScan2 _).mono ?_; rintro y w4 ⟨v5, rfl, ho5, hv5, hb5⟩)
            have hbel5 := below_tr hbel3 hb5
            have hsrc5 := Src.keep (F := fun _ => False) hsrcp (Chg.of_below _ hb5) (fun _ _ x => x)
            obtain ⟨a5, c5, rfl, g5⟩ := own_src ho5
            have SM2 := same_any w4 a5 (some ⟨g7, 0, none⟩) c5 c7 (G.take p) (by rw [HTl.out]; exact g5) (by rw [HTl.out]; exact hsrc5) (by rw [HTl.out]; omega)
            rw [HTl.out] at SM2
            have hp0 : (0 : Int) ≤ (p : Int) := by omega
            have hadd0 : (⟨g7, 0, none⟩ : Addr).add 0 = ⟨g7, 0, none⟩ := rfl
            clear g5 hsrc5 ho5 hsrcp hv5 hb5 hScan2 hov
            by_cases hKT : K = T
            · have hKTi : (K : Int) = (T : Int) := by omega
              rw [if_pos hKT]
              go_wp2_with (go_at_call 30; refine SM2.mono ?_; rintro y w5 ⟨rfl, hb6⟩)
              go_ret
              exact ⟨rfl, below_tr hbel5 hb6⟩
            · have hKTi : ((K : Int) == (T : Int)) = false := by rw [beq_eq_false_iff_ne]; omega
              rw [if_neg hKT]
              go_wp2_with (go_at_call 30; refine SM2.mono ?_; rintro y w5 ⟨rfl, hb6⟩)
              go_ret
              exact ⟨rfl, below_tr hbel5 hb6⟩
end Go.Proofs.Ytmaebileagfdaaa
