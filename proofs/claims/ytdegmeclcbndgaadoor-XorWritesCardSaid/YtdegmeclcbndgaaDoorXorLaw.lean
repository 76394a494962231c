/- The law XorWrites. -/
import Derived.Test.YtdegmeclcbndgaaDoorXorR
import Derived.Test.YtdegmeclcbndgaaDoorSlice
import Derived.Test.YtdegmeclcbndgaaDoorDet
namespace Go.Proofs.YtdegmeclcbndgaaDoor
open Go.RowKit Bit Tim Xo

/-- Both coders and writers, apart from each other, above a line. -/
structure FourX (w : World) (B c r p q : Nat) (s : XS) (v u : Value) (L : List Bool) : Prop where
  cw : KW w c p s v L
  cr : KR w r q s u L
  hB : B ≤ c ∧ B ≤ r ∧ B ≤ p ∧ B ≤ q
  ap : c ≠ r ∧ c ≠ q ∧ r ≠ p ∧ p ≠ q
  bv : ∀ g, v.ownBlock = some g → B ≤ g ∧ g ≠ r ∧ g ≠ q ∧ u.ownBlock ≠ some g
  bu : ∀ g, u.ownBlock = some g → B ≤ g ∧ g ≠ c ∧ g ≠ p ∧ v.ownBlock ≠ some g

theorem FourX.keep {w w' : World} {B c r p q : Nat} {s : XS} {v u : Value} {L : List Bool} (h : FourX w B c r p q s v u L) (hb : Below w.heap.size w w') : FourX w' B c r p q s v u L :=
  ⟨h.cw.below hb, ⟨h.cr.cw.keep (Chg.of_below (fun _ => False) hb) (fun x => x), h.cr.ww.keep (Chg.of_below (fun _ => False) hb) (fun _ _ x => x), h.cr.ne, h.cr.nv⟩, h.hB, h.ap, h.bv, h.bu⟩

theorem FourX.mid {w w' : World} {B c r p q : Nat} {s : XS} {v u : Value} {L : List Bool} (h : FourX w B c r p q s v u L) (hc : Chg (fun k => fpW p v k ∨ k = c) w w') : KR w' r q s u L := by
  obtain ⟨a1, a2, a3, a4⟩ := h.ap
  refine ⟨h.cr.cw.keep hc ?_, h.cr.ww.keep hc ?_, h.cr.ne, h.cr.nv⟩
  · rintro ((e | e) | e)
    · exact a3 e
    · exact (h.bv _ e).2.1 rfl
    · exact a1 e.symm
  · rintro k (rfl | hk) ((e | e) | e)
    · exact a4 e.symm
    · exact (h.bv _ e).2.2.1 rfl
    · exact a2 e.symm
    · exact (h.bu k hk).2.2.1 e
    · exact (h.bv k e).2.2.2 hk
    · exact (h.bu k hk).2.1 e

theorem FourX.step {w w1 w2 : World} {B c r p q : Nat} {s s1 : XS} {v u v1 u2 : Value} {L L1 : List Bool} (h : FourX w B c r p q s v u L) (h1 : KInv w1 c s1) (hS : WStep w w1 p c v v1 L L1) (h2 : KR w2 r q s1 u2 L1) (hR : RStep w1 w2 q r u u2 L L1) :
    FourX w2 B c r p q s1 v1 u2 L1 := by
  obtain ⟨a1, a2, a3, a4⟩ := h.ap
  obtain ⟨b1, b2, b3, b4⟩ := h.hB
  have hp : p < w.heap.size := World.block_lt_of_cell? w _ h.cw.ww.c0
  have hq : q < w.heap.size := World.block_lt_of_cell? w _ h.cr.ww.c0
  have hcl : c < w.heap.size := h.cw.cw.lt
  have hrl : r < w.heap.size := h.cr.cw.lt
  have hs := hS.chg.size
  have hu : ∀ g, u.ownBlock = some g → g < w.heap.size := fun g hg => owns_lt h.cr.ww.own hg
  have hv : ∀ g, v1.ownBlock = some g → g < w1.heap.size := fun g hg => owns_lt hS.inv.own hg
  have key : ∀ g, v1.ownBlock = some g → B ≤ g ∧ g ≠ r ∧ g ≠ q ∧ g ≠ c ∧ u.ownBlock ≠ some g := by
    intro g hg
    rcases hS.own g hg with e | e
    · have := h.bv g e
      exact ⟨this.1, this.2.1, this.2.2.1, fun e2 => h.cw.nv (by rw [← e2]; exact e), this.2.2.2⟩
    · exact ⟨by omega, by omega, by omega, by omega, fun e2 => by have := hu g e2; omega⟩
  refine ⟨⟨h1.keep hR.chg ?_, hS.inv.keep hR.chg ?_, h.cw.ne, fun e => (key c e).2.2.2.1 rfl⟩, h2, h.hB, h.ap, ?_, ?_⟩
  · rintro ((e | e) | e)
    · exact a2 e
    · exact (h.bu _ e).2.1 rfl
    · exact a1 e
  · rintro k (rfl | hk) ((e | e) | e)
    · exact a4 e
    · exact (h.bu _ e).2.2.1 rfl
    · exact a3 e.symm
    · exact (key k hk).2.2.1 e
    · exact (key k hk).2.2.2.2 e
    · exact (key k hk).2.1 e
  · intro g hg
    have := key g hg
    refine ⟨this.1, this.2.1, this.2.2.1, fun e => ?_⟩
    rcases hR.own g e with e2 | e2
    · exact this.2.2.2.2 e2
    · have := hv g hg; omega
  · intro g hg
    rcases hR.own g hg with e | e
    · exact ⟨(h.bu g e).1, (h.bu g e).2.1, (h.bu g e).2.2.1, fun e2 => (key g e2).2.2.2.2 e⟩
    · exact ⟨by omega, by omega, by omega, fun e2 => by have := hv g e2; omega⟩

theorem FourX.notp {w : World} {B c r p q : Nat} {s : XS} {v u : Value} {L : List Bool} (h : FourX w B c r p q s v u L) (k : Nat) (hk : k < B) : ¬ (fpW p v k ∨ k = c) := by
  have := h.hB
  rintro ((e | e) | e)
  · omega
  · have := (h.bv k e).1; omega
  · omega
theorem FourX.notq {w : World} {B c r p q : Nat} {s : XS} {v u : Value} {L : List Bool} (h : FourX w B c r p q s v u L) (k : Nat) (hk : k < B) : ¬ (fpW q u k ∨ k = r) := by
  have := h.hB
  rintro ((e | e) | e)
  · omega
  · have := (h.bu k e).1; omega
  · omega

set_option maxRecDepth 100000 in
set_option maxHeartbeats 2000000 in
theorem xorWrites_walk (a : Option Addr) (len cap : Nat) (zs : List Int) (hz : zs.length = len) (_hl : len * 8 ≤ 140737488351232) (w : World) (hT : Tab w) (hr : RowI .u64 w a zs) :
    Calls Tryd.prog 3 #[.slice a len cap] w fun e w' => e = .returned (.bool true) ∧ Below w.heap.size w w' := by
  go_enter Tryd.func3, Tryd.ntmps3
  go_wp2_with (first
    | (go_at_call 12; refine (xornew_any _).mono ?_; rintro e w1 ⟨rfl, hc1, hb1⟩)
    | (go_at_call 13; refine (newwriter_any _).mono ?_; rintro e w2 ⟨rfl, hw2, hb2⟩))
  have hcl : w.heap.size < w1.heap.size := hc1.lt
  obtain ⟨wa, hwa⟩ : ∃ wa, Hid (wa = w1.alloc (.cells #[.bool false, .int .u64 0, .bool false, .int .i64 0, .int .i64 0] 28)) := ⟨_, Lib.hid rfl⟩
  have hba : Below w1.heap.size w1 wa := by rw [hwa.out]; exact (Below.refl _ _).alloc (Nat.le_refl _) _
  have hca : JInv wa w1.heap.size XS.zero := by rw [hwa.out]; exact ⟨RowV.new w1 _ _, XOk.zero⟩
  have hsa : wa.heap.size = w1.heap.size + 1 := by rw [hwa.out]; simp
  rw [← hwa.out] at hw2 hb2
  have hpl : wa.heap.size < w2.heap.size := World.block_lt_of_cell? w2 _ hw2.c0
  have hbz : Below w2.heap.size w2 (w2.alloc (.cells #[.slice none 0 0] 34)) := (Below.refl _ _).alloc (Nat.le_refl _) _
  have hF : FourX (w2.alloc (.cells #[.slice none 0 0] 34)) w.heap.size w.heap.size w1.heap.size wa.heap.size w2.heap.size XS.zero (.slice none 0 0) (.slice none 0 0) [] := by
    refine ⟨⟨?_, hw2.keep (Chg.of_below (fun _ => False) hbz) (fun _ _ x => x), by omega, by simp [Value.ownBlock]⟩, ⟨?_, ⟨by simp, by simp, World.ownsRow_nil _ _ _ _, by simp [Value.ownBlock]⟩, by omega, by simp [Value.ownBlock]⟩, ⟨by omega, by omega, by omega, by omega⟩, ⟨by omega, by omega, by omega, by omega⟩, fun g hg => by simp [Value.ownBlock] at hg, fun g hg => by simp [Value.ownBlock] at hg⟩
    · exact ((hc1.keep (Chg.of_below (fun _ => False) hba) (fun x => x)).keep (Chg.of_below (fun _ => False) hb2) (fun x => x)).keep (Chg.of_below (fun _ => False) hbz) (fun x => x)
    · exact (hca.keep (Chg.of_below (fun _ => False) hb2) (fun x => x)).keep (Chg.of_below (fun _ => False) hbz) (fun x => x)
  have hbel0 : Below w.heap.size w (w2.alloc (.cells #[.slice none 0 0] 34)) := below_tr (below_tr (below_tr hb1 hba) hb2) hbz
  obtain ⟨r, hrr⟩ : ∃ r, Hid (r = w1.heap.size) := ⟨_, Lib.hid rfl⟩
  obtain ⟨p, hpp⟩ : ∃ p, Hid (p = w1.heap.size + 1) := ⟨_, Lib.hid rfl⟩
  obtain ⟨q, hqq⟩ : ∃ q, Hid (q = w2.heap.size) := ⟨_, Lib.hid rfl⟩
  rw [hsa, ← hpp.out, ← hrr.out, ← hqq.out] at hF
  rw [← hpp.out, ← hrr.out, ← hqq.out]
  go_loopw [7] (fun i wr => ∃ (j : Nat) (s : XS) (v u : Value) (L : List Bool), j ≤ 60 ∧ i = .int .i64 j ∧ FourX wr w.heap.size w.heap.size r p q s v u L ∧ L.length ≤ 77 * j ∧ Below w.heap.size w wr) (fun i _ => 60 - (intOf i).toNat)
  case atStart => exact ⟨0, _, _, _, [], by omega, rfl, hF, by simp, hbel0⟩
  case round =>
    obtain ⟨j, s, v, u, L, hj, rfl, hB, hL, hbel⟩ := hrel
    clear hF hbel0 hbz
    by_cases hlt : j < len
    · by_cases h60 : j < 60
      · have hr2 := hr.below hbel
        rcases hr2.row with h0 | ⟨x, rfl, hc⟩
        · rw [h0] at hz; simp at hz; omega
        · have hzj := List.getElem?_eq_getElem (l := zs) (i := j) (by omega)
          obtain ⟨t0, hVN⟩ : ∃ z, Hid (zs[j]'(by omega) = z) := ⟨_, Lib.hid rfl⟩
          rw [hVN.out] at hzj
          have hwf := wf_u64 (hr.wf t0 (List.mem_of_getElem? hzj))
          obtain ⟨t, rfl⟩ : ∃ t : Nat, t0 = (t : Int) := ⟨t0.toNat, by omega⟩
          have htb : t < 18446744073709551616 := by omega
          have hTr := hT.below hbel hT.pos
          have hc0 := hc j _ hzj
          have Hz := Lib.hid hzj
          clear hzj hc
          have hjl : (j : Int) < (len : Int) := by omega
          have hj6 : (j : Int) < 60 := by omega
          have hLe := encV_len s t
          clear hwf
          go_upto_region 9 with (go_at_call 14; refine (vput_any wr _ p s v L t htb hTr (by have := hT.pos; omega) hB.cw (by omega)).mono ?_; rintro e w3 ⟨rfl, v2, hc3, hS3⟩)
          have hR3 := hB.mid hS3.chg
          have hbd3 : Below w.heap.size w w3 := hbel.trans (hS3.chg.below hbel.size hB.notp)
          have hr3 := hr.below hbd3
          rcases hr3.row with h0 | ⟨x', hx', hc3'⟩
          · rw [h0] at hz; simp at hz; omega
          obtain rfl := Option.some.inj hx'
          have hce0 := hc3' j _ Hz.out
          clear hc3'
          go_upto_region 10 with (go_at_call 15; refine (vrput_any w3 r q s u L t htb hR3 (by omega)).mono ?_; rintro e w5 ⟨rfl, u2, hc5, hS5⟩)
          have hbd5 : Below w.heap.size w w5 := hbd3.trans (hS5.chg.below hbd3.size hB.notq)
          have hB5 := hB.step hc3 hS3 hc5 hS5
          obtain ⟨L1, hLe1⟩ : ∃ L1, Hid (L1 = L ++ encV s t) := ⟨_, Lib.hid rfl⟩
          have hl1 : L1.length ≤ 77 * (j + 1) := by rw [hLe1.out, List.length_append]; omega
          rw [← hLe1.out] at hB5
          clear hc3 hS3 hc5 hS5 hR3 hB hbd3
          obtain ⟨ua, ucap, rfl⟩ := owns_slice hB5.cr.ww.own
          have hl2 : L1.length ≤ 5000 := by omega
          have Hl1 := Lib.hid hl1
          clear hl1 hL hLe
          refine wp_region_det_list (by kernel_rfl) (by kernel_rfl) (SL [eqv (.pointer (some ⟨p, 0, none⟩)), eqv (.int .i64 (L1.length : Nat)), eqv (.pointer (some ⟨q, 0, none⟩)), eqv (.pointer (some ⟨q, 0, none⟩)), eqv (.pointer (some ⟨q, 0, none⟩)), eqv (.slice ua L1.length ucap), eqv (.int .i64 (L1.length : Nat)), eqv (.bool false), eqv (.bool false), eqv (.pointer (some ⟨p, 0, none⟩)), eqv (.string (mkS (pack L1))), eqv (.pointer (some ⟨q, 0, none⟩)), eqv (.string (mkS (pack L1))), eqv (.bool false), eqv (.bool false)]) (fun W => Below w5.heap.size w5 W) Grow ?hJ ?hX ?hop ?hend
          case hJ => exact (Below.refl w5.heap.size w5).drew
          case hX => exact SL_mono _ ⟨mono_eqv _, mono_eqv _, mono_eqv _, mono_eqv _, mono_eqv _, mono_eqv _, mono_eqv _, mono_eqv _, mono_eqv _, mono_eqv _, mono_eqv _, mono_eqv _, mono_eqv _, mono_eqv _, mono_eqv _, trivial⟩
          case hop =>
            refine ⟨fun vals W hJ hS => ?_, fun vals W hJ hS => ?_, fun vals W hJ hS => ?_, fun vals W hJ hS => ?_, fun vals W hJ hS => ?_, fun vals W hJ hS => ?_, fun vals W hJ hS => ?_, fun vals W hJ hS => ?_, fun vals W hJ hS => ?_, fun vals W hJ hS => ?_, fun vals W hJ hS => ?_, fun vals W hJ hS => ?_, fun vals W hJ hS => ?_, fun vals W hJ hS => ?_, fun vals W hJ hS => ?_, trivial⟩
            · clear hS
              simp only [fillTo]
              go_wp2
              exact ⟨rfl, SL_eq rfl rfl, hJ, Below.refl _ _⟩
            · have h0 := SL_val rfl (hS 0 (by kernel_rfl))
              clear hS
              simp only [fillTo]
              go_simp
              generalize vals 0 = v0 at h0 ⊢
              subst h0
              go_wp2_with (go_at_call 16; refine (len_any W _ _ _ _ (hB5.cw.ww.keep (Chg.of_below (fun _ => False) hJ) (fun _ _ x => x))).mono ?_; rintro e w' ⟨rfl, rfl⟩; have hb := Below.refl W.heap.size W)
              exact ⟨rfl, SL_eq rfl rfl, hJ.trans (hb.mono hJ.size), hb⟩
            · clear hS
              simp only [fillTo]
              go_simp
              go_wp2
              exact ⟨rfl, SL_eq rfl rfl, hJ, Below.refl _ _⟩
            · have h2 := SL_val rfl (hS 2 (by kernel_rfl))
              clear hS
              simp only [fillTo]
              go_simp
              generalize vals 2 = v2 at h2 ⊢
              subst h2
              go_wp2
              exact ⟨rfl, SL_eq rfl rfl, hJ, Below.refl _ _⟩
            · have h3 := SL_val rfl (hS 3 (by kernel_rfl))
              clear hS
              simp only [fillTo]
              go_simp
              generalize vals 3 = v3 at h3 ⊢
              subst h3
              go_wp2
              exact ⟨rfl, SL_eq rfl rfl, hJ, Below.refl _ _⟩
            · have h4 := SL_val rfl (hS 4 (by kernel_rfl))
              have hkc := (hB5.cr.ww.keep (Chg.of_below (fun _ => False) hJ) (fun _ _ x => x)).c0
              clear hS
              simp only [fillTo]
              go_simp
              generalize vals 4 = v4 at h4 ⊢
              subst h4
              go_wp2
              exact ⟨rfl, SL_eq rfl rfl, hJ, Below.refl _ _⟩
            · have h5 := SL_val rfl (hS 5 (by kernel_rfl))
              clear hS
              simp only [fillTo]
              go_simp
              generalize vals 5 = v5 at h5 ⊢
              subst h5
              go_wp2
              exact ⟨rfl, SL_eq rfl rfl, hJ, Below.refl _ _⟩
            · have h1 := SL_val rfl (hS 1 (by kernel_rfl))
              have h6 := SL_val rfl (hS 6 (by kernel_rfl))
              clear hS
              simp only [fillTo]
              go_simp
              generalize vals 1 = v1 at h1 ⊢
              subst h1
              generalize vals 6 = v6 at h6 ⊢
              subst h6
              go_wp2
              exact ⟨rfl, SL_eq rfl rfl, hJ, Below.refl _ _⟩
            · have h7 := SL_val rfl (hS 7 (by kernel_rfl))
              clear hS
              simp only [fillTo]
              go_simp
              generalize vals 7 = v7 at h7 ⊢
              subst h7
              go_wp2
              exact ⟨rfl, SL_eq rfl rfl, hJ, Below.refl _ _⟩
            · have h8 := SL_val rfl (hS 8 (by kernel_rfl))
              clear hS
              simp only [fillTo]
              go_simp
              generalize vals 8 = v8 at h8 ⊢
              subst h8
              go_wp2
              exact ⟨rfl, SL_eq rfl rfl, hJ, Below.refl _ _⟩
            · have h8 := SL_val rfl (hS 8 (by kernel_rfl))
              have h9 := SL_val rfl (hS 9 (by kernel_rfl))
              clear hS
              simp only [fillTo]
              go_simp
              generalize vals 8 = v8 at h8 ⊢
              subst h8
              generalize vals 9 = v9 at h9 ⊢
              subst h9
              go_wp2_with (go_at_call 17; refine (text_any W _ _ _ _ (hB5.cw.ww.keep (Chg.of_below (fun _ => False) hJ) (fun _ _ x => x))).mono ?_; rintro e w' ⟨rfl, rfl⟩; have hb := Below.refl W.heap.size W)
              exact ⟨rfl, SL_eq rfl rfl, hJ.trans (hb.mono hJ.size), hb⟩
            · have h8 := SL_val rfl (hS 8 (by kernel_rfl))
              clear hS
              simp only [fillTo]
              go_simp
              generalize vals 8 = v8 at h8 ⊢
              subst h8
              go_wp2
              exact ⟨rfl, SL_eq rfl rfl, hJ, Below.refl _ _⟩
            · have h8 := SL_val rfl (hS 8 (by kernel_rfl))
              have h11 := SL_val rfl (hS 11 (by kernel_rfl))
              clear hS
              simp only [fillTo]
              go_simp
              generalize vals 8 = v8 at h8 ⊢
              subst h8
              generalize vals 11 = v11 at h11 ⊢
              subst h11
              go_wp2_with (go_at_call 18; refine (rreftext_any W _ _ _ (hB5.cr.ww.keep (Chg.of_below (fun _ => False) hJ) (fun _ _ x => x)) (by omega)).mono ?_; rintro e w' ⟨rfl, hb⟩)
              exact ⟨rfl, SL_eq rfl rfl, hJ.trans (hb.mono hJ.size), hb⟩
            · have h8 := SL_val rfl (hS 8 (by kernel_rfl))
              have h10 := SL_val rfl (hS 10 (by kernel_rfl))
              have h12 := SL_val rfl (hS 12 (by kernel_rfl))
              clear hS
              simp only [fillTo]
              go_simp
              generalize vals 8 = v8 at h8 ⊢
              subst h8
              generalize vals 10 = v10 at h10 ⊢
              subst h10
              generalize vals 12 = v12 at h12 ⊢
              subst h12
              go_wp2
              exact ⟨rfl, SL_eq rfl rfl, hJ, Below.refl _ _⟩
            · have h8 := SL_val rfl (hS 8 (by kernel_rfl))
              have h13 := SL_val rfl (hS 13 (by kernel_rfl))
              clear hS
              simp only [fillTo]
              go_simp
              generalize vals 8 = v8 at h8 ⊢
              subst h8
              generalize vals 13 = v13 at h13 ⊢
              subst h13
              go_wp2
              exact ⟨rfl, SL_eq rfl rfl, hJ, Below.refl _ _⟩
          case hend =>
            intro vals W hJ hS
            have h14 := SL_val rfl (hS 14 (by decide))
            clear hS
            simp only [List.size_toArray, List.length_cons, List.length_nil, Nat.reduceAdd, fillTo]
            go_simp
            generalize vals 14 = v14 at h14 ⊢
            subst h14
            go_wp2
            go_roundw
            case rel =>
              exact ⟨j + 1, _, v2, _, L1, by omega, by go_num, hB5.keep hJ, Hl1.out, hbd5.trans (hJ.mono hbd5.size)⟩
            case measure => simp [intOf]; omega
      · go_wp2
        go_ret
        exact ⟨rfl, hbel⟩
    · go_wp2
      go_ret
      exact ⟨rfl, hbel⟩
end Go.Proofs.YtdegmeclcbndgaaDoor
