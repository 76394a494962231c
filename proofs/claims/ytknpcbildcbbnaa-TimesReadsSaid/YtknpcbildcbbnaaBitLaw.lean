/- The laws of the writers of bits. -/
import Derived.Test.YtknpcbildcbbnaaBitG
import Derived.Test.YtknpcbildcbbnaaSlice
import Derived.Test.YtknpcbildcbbnaaDet
import Derived.StillTailTactics
namespace Go.Proofs.Ytknpcbildcbbnaa
open Go.RowKit Bit

theorem owns_lt {w : World} {base : Nat} {e : TypeId} {size : Nat} {v : Value} {n : Nat} {xs : List Value} (h : w.ownsRow base e size v n xs) {g : Nat} (hg : v.ownBlock = some g) : g < w.heap.size := by
  rcases h.2 with ⟨rfl, _⟩ | ⟨g', cap, cur, rfl, _, hgg, _⟩
  · simp [Value.ownBlock] at hg
  · have e : g' = g := by simpa [Value.ownBlock] using hg
    subst e
    rcases Nat.lt_or_ge g' w.heap.size with h' | h'
    · exact h'
    · simp [Array.getElem?_eq_none h'] at hgg

/-- Both writers, apart from each other, above a line. -/
structure Both (w : World) (B p q : Nat) (v u : Value) (L : List Bool) : Prop where
  w1 : WInv w p v (pack L) L.length
  w2 : RInv w q u L
  bp : B ≤ p
  bq : B ≤ q
  pq : p ≠ q
  bv : ∀ g, v.ownBlock = some g → B ≤ g ∧ g ≠ q ∧ u.ownBlock ≠ some g
  bu : ∀ g, u.ownBlock = some g → B ≤ g ∧ g ≠ p ∧ v.ownBlock ≠ some g

theorem Both.keep {w w' : World} {B p q : Nat} {v u : Value} {L : List Bool} {F : Nat → Prop} (h : Both w B p q v u L) (hc : Chg F w w') (hf : ∀ k, F k → k < B) : Both w' B p q v u L := by
  refine ⟨h.w1.keep hc ?_, h.w2.keep hc ?_, h.bp, h.bq, h.pq, h.bv, h.bu⟩
  · rintro k (rfl | hk) hF
    · have := hf _ hF; have := h.bp; omega
    · have := hf _ hF; have := (h.bv k hk).1; omega
  · rintro k (rfl | hk) hF
    · have := hf _ hF; have := h.bq; omega
    · have := hf _ hF; have := (h.bu k hk).1; omega

theorem Both.mid {w w' : World} {B p q : Nat} {v u : Value} {L : List Bool} (h : Both w B p q v u L) (hc : Chg (fpW p v) w w') : RInv w' q u L := by
  refine h.w2.keep hc ?_
  rintro k (rfl | hk) (hF | hF)
  · exact h.pq hF.symm
  · exact (h.bv _ hF).2.1 rfl
  · exact (h.bu k hk).2.1 hF
  · exact (h.bv k hF).2.2 hk

theorem Both.notp {w : World} {B p q : Nat} {v u : Value} {L : List Bool} (h : Both w B p q v u L) (k : Nat) (hk : k < B) : ¬ fpW p v k := by
  rintro (rfl | hf)
  · have := h.bp; omega
  · have := (h.bv k hf).1; omega
theorem Both.notq {w : World} {B p q : Nat} {v u : Value} {L : List Bool} (h : Both w B p q v u L) (k : Nat) (hk : k < B) : ¬ fpW q u k := by
  rintro (rfl | hf)
  · have := h.bq; omega
  · have := (h.bu k hf).1; omega

theorem Both.step {w w1 w2 : World} {B p q : Nat} {v u v1 u2 : Value} {L L1 : List Bool} (h : Both w B p q v u L) (hw1 : WInv w1 p v1 (pack L1) L1.length) (hv1 : ∀ g, v1.ownBlock = some g → v.ownBlock = some g ∨ w.heap.size ≤ g) (hc1 : Chg (fpW p v) w w1)
    (hw2 : RInv w2 q u2 L1) (hu2 : ∀ g, u2.ownBlock = some g → u.ownBlock = some g ∨ w1.heap.size ≤ g) (hc2 : Chg (fpW q u) w1 w2) : Both w2 B p q v1 u2 L1 := by
  have hp : p < w.heap.size := World.block_lt_of_cell? w _ h.w1.c0
  have hq : q < w.heap.size := World.block_lt_of_cell? w _ h.w2.c0
  have hs := hc1.size
  have hu : ∀ g, u.ownBlock = some g → g < w.heap.size := fun g hg => owns_lt h.w2.own hg
  have hv : ∀ g, v1.ownBlock = some g → g < w1.heap.size := fun g hg => owns_lt hw1.own hg
  have key : ∀ g, v1.ownBlock = some g → g ≠ q ∧ u.ownBlock ≠ some g := by
    intro g hg
    rcases hv1 g hg with h1 | h1
    · exact ⟨(h.bv g h1).2.1, (h.bv g h1).2.2⟩
    · exact ⟨by omega, fun h2 => by have := hu g h2; omega⟩
  refine ⟨hw1.keep hc2 ?_, hw2, h.bp, h.bq, h.pq, ?_, ?_⟩
  · rintro k (rfl | hk) (hF | hF)
    · exact h.pq hF
    · exact (h.bu _ hF).2.1 rfl
    · exact (key k hk).1 hF
    · exact (key k hk).2 hF
  · intro g hg
    refine ⟨?_, (key g hg).1, fun h2 => ?_⟩
    · rcases hv1 g hg with h1 | h1
      · exact (h.bv g h1).1
      · have := h.bp; omega
    · rcases hu2 g h2 with h3 | h3
      · exact (key g hg).2 h3
      · have := hv g hg; omega
  · intro g hg
    rcases hu2 g hg with h3 | h3
    · refine ⟨(h.bu g h3).1, (h.bu g h3).2.1, fun h4 => (key g h4).2 h3⟩
    · refine ⟨by have := h.bp; omega, by omega, fun h4 => by have := hv g h4; omega⟩

set_option maxRecDepth 100000 in
set_option maxHeartbeats 2000000 in
theorem bitsWrites_walk (a : Option Addr) (len cap : Nat) (zs : List (Int × Int)) (hz : zs.length = len) (_hs : len * 16 ≤ 140737488351232) (w : World) (hr : RowP .u64 .i64 w a zs) :
    Calls Try.prog 3 #[.slice a len cap] w fun e w' => e = .returned (.bool true) ∧ Below w.heap.size w w' := by
  go_enter Try.func3, Try.ntmps3
  go_wp2_with (go_at_call 12; refine (newwriter_any _).mono ?_; rintro e w1 ⟨rfl, hw1, hb1⟩)
  go_loopw [5] (fun i wr => ∃ (j : Nat) (v u : Value) (L : List Bool), j ≤ 60 ∧ i = .int .i64 j ∧ Both wr w.heap.size w.heap.size w1.heap.size v u L ∧ L.length ≤ 64 * j ∧ Below w.heap.size w wr) (fun i _ => 60 - (intOf i).toNat)
  case atStart =>
    have hlt := World.block_lt_of_cell? w1 _ hw1.c0
    have hlt2 : w.heap.size < w1.heap.size := hlt
    refine ⟨0, .slice none 0 0, .slice none 0 0, [], by omega, rfl, ⟨?_, ⟨by simp, by simp, World.ownsRow_nil _ _ _ _, by simp [Value.ownBlock]⟩, Nat.le_refl _, hb1.size, Nat.ne_of_lt hlt2, ?_, ?_⟩, by simp, hb1.alloc hb1.size _⟩
    · exact hw1.keep (Chg.alloc (fun _ => False) _ _) (fun _ _ x => x)
    · intro g hg; simp [Value.ownBlock] at hg
    · intro g hg; simp [Value.ownBlock] at hg
  case round =>
    obtain ⟨j, v, u, L, hj, rfl, hB, hL, hbel⟩ := hrel
    by_cases hlt : j < len
    · by_cases h60 : j < 60
      · have hb2 := hbel
        have hr2 := hr.below hbel
        rcases hr2.row with h0 | ⟨x, rfl, hc⟩
        · rw [h0] at hz; simp at hz; omega
        · have hzj := List.getElem?_eq_getElem (l := zs) (i := j) (by omega)
          obtain ⟨⟨V, N⟩, hVN⟩ : ∃ z, Hid (zs[j]'(by omega) = z) := ⟨_, Lib.hid rfl⟩
          rw [hVN.out] at hzj
          obtain ⟨hc0, hc1⟩ := hc j _ hzj
          have hwf := hr.wf (V, N) (List.mem_of_getElem? hzj)
          have hV := wf_u64 hwf.1
          have hN := wf_i64 hwf.2
          obtain ⟨V', rfl⟩ := Int.eq_ofNat_of_zero_le hV.1
          have HN := Lib.hid hN
          have HV := Lib.hid hV
          clear hN hV hwf hzj hc
          have hjl : (j : Int) < (len : Int) := by omega
          have hj6 : (j : Int) < 60 := by omega
          go_upto_region 7 with (fail)
          go_still_tail 11, (by kernel_rfl)
          change wpList _ _ _ _ _ wr.drew
          have hB1 : Both wr.drew w.heap.size w.heap.size w1.heap.size v u L := hB.keep (Chg.drew (fun _ => False) wr) (fun _ x => x.elim)
          have hbd : Below w.heap.size w wr.drew := hbel.drew
          have hcd0 : wr.drew.cell? (x.add (j * 2)) = some (.int .u64 (V' : Int)) := hc0
          have hcd1 : wr.drew.cell? ⟨(x.add (j * 2)).block, (x.add (j * 2)).off + 1, none⟩ = some (.int .i64 N) := hc1
          generalize wr.drew = w2 at hB1 hbd hcd0 hcd1 ⊢
          go_wp2_with (go_at_call 13; refine (put_any w2 _ _ L V' N (by have := HV.out; omega) hB1.w1 (by omega) HN.out.1 HN.out.2).mono ?_; rintro e w3 ⟨rfl, v2, hw3, hv2, hch3⟩)
          obtain ⟨L1, hLe⟩ : ∃ L1, Hid (L1 = L ++ bitsOf V' (max (min N 64) 0).toNat) := ⟨_, Lib.hid rfl⟩
          have hLl : L1.length = L.length + (max (min N 64) 0).toNat := by rw [hLe.out, List.length_append, bitsOf_length]
          rw [← hLe.out, ← hLl] at hw3
          have hl1 : L1.length ≤ 64 * (j + 1) := by rw [hLl]; omega
          clear hLl
          have hw3' : WInv w3.drew w.heap.size v2 (pack L1) L1.length := hw3.keep (Chg.drew (fun _ => False) _) (fun _ _ x => x)
          have hch3' : Chg (fpW w.heap.size v) w2 w3.drew := hch3.trans (Chg.drew (fun _ => False) _) (fun _ _ x => x.elim)
          have hR3 := hB1.mid hch3'
          have hbd3 : Below w.heap.size w w3.drew := hbd.trans (hch3'.below hbd.size (fun k hk hf => hB1.notp k hk hf))
          have hc2 := (hr.below hbd3)
          rcases hc2.row with h0 | ⟨x', hx', hc2⟩
          · rw [h0] at hz; simp at hz; omega
          obtain rfl := Option.some.inj hx'
          have hzj := List.getElem?_eq_getElem (l := zs) (i := j) (by omega)
          rw [hVN.out] at hzj
          obtain ⟨hce0, hce1⟩ := hc2 j _ hzj
          clear hzj hc2
          go_upto_region 8 with (fail)
          go_still_tail 11, (by kernel_rfl)
          change wpList _ _ _ _ _ w3.drew
          generalize w3.drew = w4 at hw3' hch3' hR3 hbd3 hce0 hce1 ⊢
          go_wp2_with (go_at_call 14; refine (refput_any w4 _ _ L V' N (by have := HV.out; omega) hR3 (by omega) HN.out.1 HN.out.2).mono ?_; rintro e w5 ⟨rfl, u2, hw5, hu2, hch5⟩)
          rw [← hLe.out] at hw5
          have hB5 : Both w5 w.heap.size w.heap.size w1.heap.size v2 u2 L1 := hB1.step hw3' hv2 hch3' hw5 hu2 hch5
          have hbd5 : Below w.heap.size w w5 := hbd3.trans (hch5.below hbd3.size (fun k hk hf => hB1.notq k hk hf))
          clear hw5 hch5 hu2 hw3' hch3' hR3 hbd3 hce0 hce1 hw3 hch3 hv2 hB1 hbd hcd0 hcd1 hc0 hc1 hB
          go_upto_region 9 with (fail)
          obtain ⟨ua, ucap, rfl⟩ := owns_slice hB5.w2.own
          have hl2 : L1.length ≤ 4000 := by omega
          have Hl1 := Lib.hid hl1
          clear hl1 hL HN HV
          refine wp_region_det_list (by kernel_rfl) (by kernel_rfl) (SL [eqv (.pointer (some ⟨w.heap.size, 0, none⟩)), eqv (.int .i64 (L1.length : Nat)), eqv (.pointer (some ⟨w1.heap.size, 0, none⟩)), eqv (.pointer (some ⟨w1.heap.size, 0, none⟩)), eqv (.pointer (some ⟨w1.heap.size, 0, none⟩)), eqv (.slice ua L1.length ucap), eqv (.int .i64 (L1.length : Nat)), eqv (.bool false), eqv (.bool false), eqv (.pointer (some ⟨w.heap.size, 0, none⟩)), eqv (.string (mkS (pack L1))), eqv (.pointer (some ⟨w1.heap.size, 0, none⟩)), eqv (.string (mkS (pack L1))), eqv (.bool false), eqv (.bool false)]) (fun W => Below w5.heap.size w5 W) Grow ?hJ ?hX ?hop ?hend
          case hJ => exact (Below.refl w5.heap.size w5).drew
          case hX => exact SL_mono _ ⟨mono_eqv _, mono_eqv _, mono_eqv _, mono_eqv _, mono_eqv _, mono_eqv _, mono_eqv _, mono_eqv _, mono_eqv _, mono_eqv _, mono_eqv _, mono_eqv _, mono_eqv _, mono_eqv _, mono_eqv _, trivial⟩
          case hop =>
            refine ⟨fun vals W hJ hS => ?_, fun vals W hJ hS => ?_, fun vals W hJ hS => ?_, fun vals W hJ hS => ?_, fun vals W hJ hS => ?_, fun vals W hJ hS => ?_, fun vals W hJ hS => ?_, fun vals W hJ hS => ?_, fun vals W hJ hS => ?_, fun vals W hJ hS => ?_, fun vals W hJ hS => ?_, fun vals W hJ hS => ?_, fun vals W hJ hS => ?_, fun vals W hJ hS => ?_, fun vals W hJ hS => ?_, trivial⟩
            · clear hS
              simp only [fillTo]
              go_wp2
              exact ⟨rfl, SL_eq rfl rfl, hJ, Below.refl _ _⟩
            · have h0 := SL_val rfl (hS 0 (by kernel_rfl))
              clear hS
              simp only [fillTo]
              go_simp
              generalize vals 0 = v0 at h0 ⊢
              subst h0
              go_wp2_with (go_at_call 15; refine (len_any W _ _ _ _ (hB5.w1.keep (Chg.of_below (fun _ => False) hJ) (fun _ _ x => x))).mono ?_; rintro e w' ⟨rfl, rfl⟩; have hb := Below.refl W.heap.size W)
              exact ⟨rfl, SL_eq rfl rfl, hJ.trans (hb.mono hJ.size), hb⟩
            · clear hS
              simp only [fillTo]
              go_simp
              go_wp2
              exact ⟨rfl, SL_eq rfl rfl, hJ, Below.refl _ _⟩
            · have h2 := SL_val rfl (hS 2 (by kernel_rfl))
              clear hS
              simp only [fillTo]
              go_simp
              generalize vals 2 = v2 at h2 ⊢
              subst h2
              go_wp2
              exact ⟨rfl, SL_eq rfl rfl, hJ, Below.refl _ _⟩
            · have h3 := SL_val rfl (hS 3 (by kernel_rfl))
              clear hS
              simp only [fillTo]
              go_simp
              generalize vals 3 = v3 at h3 ⊢
              subst h3
              go_wp2
              exact ⟨rfl, SL_eq rfl rfl, hJ, Below.refl _ _⟩
            · have h4 := SL_val rfl (hS 4 (by kernel_rfl))
              have hkc := (hB5.w2.keep (Chg.of_below (fun _ => False) hJ) (fun _ _ x => x)).c0
              clear hS
              simp only [fillTo]
              go_simp
              generalize vals 4 = v4 at h4 ⊢
              subst h4
              go_wp2
              exact ⟨rfl, SL_eq rfl rfl, hJ, Below.refl _ _⟩
            · have h5 := SL_val rfl (hS 5 (by kernel_rfl))
              clear hS
              simp only [fillTo]
              go_simp
              generalize vals 5 = v5 at h5 ⊢
              subst h5
              go_wp2
              exact ⟨rfl, SL_eq rfl rfl, hJ, Below.refl _ _⟩
            · have h1 := SL_val rfl (hS 1 (by kernel_rfl))
              have h6 := SL_val rfl (hS 6 (by kernel_rfl))
              clear hS
              simp only [fillTo]
              go_simp
              generalize vals 1 = v1 at h1 ⊢
              subst h1
              generalize vals 6 = v6 at h6 ⊢
              subst h6
              go_wp2
              exact ⟨rfl, SL_eq rfl rfl, hJ, Below.refl _ _⟩
            · have h7 := SL_val rfl (hS 7 (by kernel_rfl))
              clear hS
              simp only [fillTo]
              go_simp
              generalize vals 7 = v7 at h7 ⊢
              subst h7
              go_wp2
              exact ⟨rfl, SL_eq rfl rfl, hJ, Below.refl _ _⟩
            · have h8 := SL_val rfl (hS 8 (by kernel_rfl))
              clear hS
              simp only [fillTo]
              go_simp
              generalize vals 8 = v8 at h8 ⊢
              subst h8
              go_wp2
              exact ⟨rfl, SL_eq rfl rfl, hJ, Below.refl _ _⟩
            · have h8 := SL_val rfl (hS 8 (by kernel_rfl))
              have h9 := SL_val rfl (hS 9 (by kernel_rfl))
              clear hS
              simp only [fillTo]
              go_simp
              generalize vals 8 = v8 at h8 ⊢
              subst h8
              generalize vals 9 = v9 at h9 ⊢
              subst h9
              go_wp2_with (go_at_call 16; refine (text_any W _ _ _ _ (hB5.w1.keep (Chg.of_below (fun _ => False) hJ) (fun _ _ x => x))).mono ?_; rintro e w' ⟨rfl, rfl⟩; have hb := Below.refl W.heap.size W)
              exact ⟨rfl, SL_eq rfl rfl, hJ.trans (hb.mono hJ.size), hb⟩
            · have h8 := SL_val rfl (hS 8 (by kernel_rfl))
              clear hS
              simp only [fillTo]
              go_simp
              generalize vals 8 = v8 at h8 ⊢
              subst h8
              go_wp2
              exact ⟨rfl, SL_eq rfl rfl, hJ, Below.refl _ _⟩
            · have h8 := SL_val rfl (hS 8 (by kernel_rfl))
              have h11 := SL_val rfl (hS 11 (by kernel_rfl))
              clear hS
              simp only [fillTo]
              go_simp
              generalize vals 8 = v8 at h8 ⊢
              subst h8
              generalize vals 11 = v11 at h11 ⊢
              subst h11
              go_wp2_with (go_at_call 17; refine (rreftext_any W _ _ _ (hB5.w2.keep (Chg.of_below (fun _ => False) hJ) (fun _ _ x => x)) (by omega)).mono ?_; rintro e w' ⟨rfl, hb⟩)
              exact ⟨rfl, SL_eq rfl rfl, hJ.trans (hb.mono hJ.size), hb⟩
            · have h8 := SL_val rfl (hS 8 (by kernel_rfl))
              have h10 := SL_val rfl (hS 10 (by kernel_rfl))
              have h12 := SL_val rfl (hS 12 (by kernel_rfl))
              clear hS
              simp only [fillTo]
              go_simp
              generalize vals 8 = v8 at h8 ⊢
              subst h8
              generalize vals 10 = v10 at h10 ⊢
              subst h10
              generalize vals 12 = v12 at h12 ⊢
              subst h12
              go_wp2
              exact ⟨rfl, SL_eq rfl rfl, hJ, Below.refl _ _⟩
            · have h8 := SL_val rfl (hS 8 (by kernel_rfl))
              have h13 := SL_val rfl (hS 13 (by kernel_rfl))
              clear hS
              simp only [fillTo]
              go_simp
              generalize vals 8 = v8 at h8 ⊢
              subst h8
              generalize vals 13 = v13 at h13 ⊢
              subst h13
              go_wp2
              exact ⟨rfl, SL_eq rfl rfl, hJ, Below.refl _ _⟩
          case hend =>
            intro vals W hJ hS
            have h14 := SL_val rfl (hS 14 (by decide))
            clear hS
            simp only [List.size_toArray, List.length_cons, List.length_nil, Nat.reduceAdd, fillTo]
            go_simp
            generalize vals 14 = v14 at h14 ⊢
            subst h14
            go_wp2
            go_roundw
            case rel =>
              exact ⟨j + 1, v2, _, L1, by omega, by go_num, hB5.keep (Chg.of_below (fun _ => False) hJ) (fun _ x => x.elim), Hl1.out, hbd5.trans (hJ.mono hbd5.size)⟩
            case measure => simp [intOf]; omega
      · go_wp2
        go_ret
        exact ⟨rfl, hbel⟩
    · go_wp2
      go_ret
      exact ⟨rfl, hbel⟩
end Go.Proofs.Ytknpcbildcbbnaa
