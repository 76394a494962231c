/- Records compared. -/
import Derived.Test.YtjmcpdhfefcdgaaDoorRb
import Derived.Test.YtjmcpdhfefcdgaaDoorMj
import Derived.Test.YtjmcpdhfefcdgaaDoorDetI
import Derived.Test.YtjmcpdhfefcdgaaDoorLReadsW
namespace Go.Proofs.YtjmcpdhfefcdgaaDoor
open Go.RowKit Lb Dig

theorem three {ys : List Value} (h : ys.length = 3) : ∃ y0 y1 y2, ys = [y0, y1, y2] :=
  match ys, h with
  | [y0, y1, y2], _ => ⟨y0, y1, y2, rfl⟩
theorem or_of {i j : Nat} {b : Bool} (h : (j == i || b) = true) (hn : j ≠ i) : b = true := by
  have : (j == i) = false := by simpa using hn
  rw [this, Bool.false_or] at h; exact h
/-- Where a region stands that reads two samples into new variables: reads 0 to 9, new variables 10 and 11, stores 12 and 13. -/
structure InvT (w4 : World) (vs : List Value) (L : Nat → List Value) (D : Nat → Bool) (vals : Nat → Value) (W : World) : Prop where
  bel : Below w4.heap.size w4 W
  lds : ∀ i, i < 10 → D i = true → vals i = vs.getD i undef
  all : ∃ g : Nat → Nat, (∀ i, 10 ≤ i → i < 12 → D i = true → vals i = .pointer (some ⟨g i, 0, none⟩) ∧ w4.heap.size ≤ g i ∧ g i < W.heap.size ∧ ∃ ys : List Value, ys.length = 3 ∧ RowV W (g i) ys ∧ (D (i + 2) = true → ys = L i)) ∧ (D 10 = true → D 11 = true → g 10 ≠ g 11)
theorem InvT.load {w4 : World} {vs : List Value} {L : Nat → List Value} {D : Nat → Bool} {vals : Nat → Value} {W : World} (h : InvT w4 vs L D vals W) (i : Nat) (hi : i < 10) : InvT w4 vs L (fun j => j == i || D j) (upd vals i (vs.getD i undef)) W := by
  obtain ⟨g, h1, h2⟩ := h.all
  refine ⟨h.bel, fun j hj hd => ?_, g, fun j h4 h8 hd => ?_, fun e f => h2 (or_of e (by omega)) (or_of f (by omega))⟩
  · unfold upd
    split
    · rename_i hj; subst hj; rfl
    · rename_i hn; exact h.lds j hj (or_of hd hn)
  · obtain ⟨a1, a2, a3, ys, a4, a5, a6⟩ := h1 j h4 h8 (or_of hd (by omega))
    refine ⟨by unfold upd; rw [if_neg (by omega)]; exact a1, a2, a3, ys, a4, a5, fun hx => a6 (or_of hx (by omega))⟩
theorem InvT.alloc {w4 : World} {vs : List Value} {L : Nat → List Value} {D : Nat → Bool} {vals : Nat → Value} {W : World} (h : InvT w4 vs L D vals W) (i : Nat) (h4 : 10 ≤ i) (h8 : i < 12) (hn : D (i + 2) = false) (xs : List Value) (hx : xs.length = 3) (t : TypeId) :
    InvT w4 vs L (fun j => j == i || D j) (upd vals i (.pointer (some ⟨W.heap.size, 0, none⟩))) (W.alloc (.cells xs.toArray t)) := by
  obtain ⟨g, h1, h2⟩ := h.all
  have hs : (W.alloc (.cells xs.toArray t)).heap.size = W.heap.size + 1 := by simp
  have hb : Below W.heap.size W (W.alloc (.cells xs.toArray t)) := (Below.refl _ _).alloc (Nat.le_refl _) _
  refine ⟨below_tr h.bel hb, fun j hj hd => ?_, fun j => if j = i then W.heap.size else g j, fun j k4 k8 hd => ?_, fun e f => ?_⟩
  · unfold upd; rw [if_neg (by omega)]; exact h.lds j hj (or_of hd (by omega))
  · by_cases hji : j = i
    · subst hji
      refine ⟨by simp [upd], ?_, ?_, xs, hx, ?_, fun hq => ?_⟩
      · simp only [if_pos]; exact h.bel.size
      · simp only [if_pos]; rw [hs]; omega
      · simp only [if_pos]; exact RowV.new W xs t
      · have := or_of hq (by omega); rw [hn] at this; cases this
    · obtain ⟨a1, a2, a3, ys, a4, a5, a6⟩ := h1 j k4 k8 (or_of hd hji)
      simp only [if_neg hji]
      refine ⟨by unfold upd; rw [if_neg hji]; exact a1, a2, by rw [hs]; omega, ys, a4, a5.below hb, fun hq => a6 (or_of hq (by omega))⟩
  · rcases (by omega : i = 10 ∨ i = 11) with rfl | rfl
    · have := (h1 11 (by omega) (by omega) (or_of f (by omega))).2.2.1
      simp; omega
    · have := (h1 10 (by omega) (by omega) (or_of e (by omega))).2.2.1
      simp; omega
theorem InvT.store {w4 : World} {vs : List Value} {L : Nat → List Value} {D : Nat → Bool} {vals : Nat → Value} {W W9 : World} (h : InvT w4 vs L D vals W) (i : Nat) (h4 : 10 ≤ i) (h8 : i < 12) (hd : D i = true) (G : Nat) (hv : vals i = .pointer (some ⟨G, 0, none⟩))
    (hL : (L i).length = 3) (hr : RowV W9 G (L i)) (hc : Chg (fun k => k = G) W W9) (v : Value) : InvT w4 vs L (fun j => j == i + 2 || D j) (upd vals (i + 2) v) W9 := by
  obtain ⟨g, h1, h2⟩ := h.all
  have hG := h1 i h4 h8 hd
  have hgG : g i = G := by have := hG.1; rw [hv] at this; simpa using this.symm
  refine ⟨Chg.below_tr h.bel hc (fun k hk e => by have := hG.2.1; omega), fun j hj hd => ?_, g, fun j k4 k8 hdj => ?_, fun e f => h2 (or_of e (by omega)) (or_of f (by omega))⟩
  · unfold upd; rw [if_neg (by omega)]; exact h.lds j hj (or_of hd (by omega))
  · have hdj' := or_of hdj (by omega)
    obtain ⟨a1, a2, a3, ys, a4, a5, a6⟩ := h1 j k4 k8 hdj'
    have hs := hc.size
    by_cases hji : j = i
    · subst hji
      rw [hgG]
      exact ⟨by unfold upd; rw [if_neg (by omega)]; exact hv, by omega, by omega, L j, hL, hr, fun _ => rfl⟩
    · refine ⟨by unfold upd; rw [if_neg (by omega)]; exact a1, a2, by omega, ys, a4, a5.keep hc ?_, fun hq => a6 (or_of hq (by omega))⟩
      rcases (by omega : (i = 10 ∧ j = 11) ∨ (i = 11 ∧ j = 10)) with ⟨rfl, rfl⟩ | ⟨rfl, rfl⟩
      · have := h2 hd hdj'; omega
      · have := h2 hdj' hd; omega
theorem InvT.at_ {w4 : World} {vs : List Value} {L : Nat → List Value} {D : Nat → Bool} {vals : Nat → Value} {W : World} (h : InvT w4 vs L D vals W) (i : Nat) (h4 : 10 ≤ i) (h8 : i < 12) (hd : D i = true) : ∃ G, vals i = .pointer (some ⟨G, 0, none⟩) ∧ ∃ ys : List Value, ys.length = 3 ∧ RowV W G ys := by
  obtain ⟨g, h1, _⟩ := h.all
  obtain ⟨a1, a2, a3, ys, a4, a5, a6⟩ := h1 i h4 h8 hd
  exact ⟨_, a1, ys, a4, a5⟩
theorem InvT.fin {w4 : World} {vs : List Value} {L : Nat → List Value} {D : Nat → Bool} {vals : Nat → Value} {W : World} (h : InvT w4 vs L D vals W) (i : Nat) (h4 : 10 ≤ i) (h8 : i < 12) (hd : D i = true) : ∃ G, vals i = .pointer (some ⟨G, 0, none⟩) ∧ ∃ ys : List Value, ys.length = 3 ∧ RowV W G ys ∧ (D (i + 2) = true → ys = L i) := by
  obtain ⟨g, h1, _⟩ := h.all
  obtain ⟨a1, a2, a3, ys, a4, a5, a6⟩ := h1 i h4 h8 hd
  exact ⟨_, a1, ys, a4, a5, a6⟩

set_option maxRecDepth 100000 in
set_option maxHeartbeats 8000000 in
theorem rsame_eq (k : Int) (sm : List Smp) (ms : List Mt) (fr tt : Int) (a : Option Addr) (n c : Nat) (b : Option Addr) (m d : Nat) (a' : Option Addr) (n' c' : Nat) (b' : Option Addr) (m' d' : Nat) (w : World) (hr : RecIn w k sm ms fr tt a n c b m d) (hr' : RecIn w k sm ms fr tt a' n' c' b' m' d') :
    Calls Tryd.prog 16 #[.agg #[.int .i64 k, .slice a n c, .slice b m d, .int .i64 fr, .int .i64 tt], .agg #[.int .i64 k, .slice a' n' c', .slice b' m' d', .int .i64 fr, .int .i64 tt]] w fun e w' => e = .returned (.bool true) ∧ Below w.heap.size w w' := by
  have hn := hr.len
  have hm := hr.len'
  have hle := hr.le
  have hle' := hr.le'
  obtain rfl : n = n' := by have := hr'.len; omega
  obtain rfl : m = m' := by have := hr'.len'; omega
  have hC := CkAt.new w [.int .i64 k, .slice a n c, .slice b m d, .int .i64 fr, .int .i64 tt] (.int .i64 0) 25 28
  have SM := fun W h h' => rmsame_any ms ms b b' m d m d' hm hm (by omega) (by omega) W h h'
  simp only [decide_true] at SM
  have R0 := RowV.new w [.int .i64 k, .slice a n c, .slice b m d, .int .i64 fr, .int .i64 tt] 25
  have B0 : Below w.heap.size w (w.alloc (.cells #[.int .i64 k, .slice a n c, .slice b m d, .int .i64 fr, .int .i64 tt] 25)) := (Below.refl _ _).alloc (Nat.le_refl _) _
  have hsz0 : (w.alloc (.cells #[.int .i64 k, .slice a n c, .slice b m d, .int .i64 fr, .int .i64 tt] 25)).heap.size = w.heap.size + 1 := by simp
  have R1 := RowV.new (w.alloc (.cells #[.int .i64 k, .slice a n c, .slice b m d, .int .i64 fr, .int .i64 tt] 25)) [.int .i64 k, .slice a' n c', .slice b' m d', .int .i64 fr, .int .i64 tt] 25
  rw [hsz0] at R1
  have B1 : Below (w.alloc (.cells #[.int .i64 k, .slice a n c, .slice b m d, .int .i64 fr, .int .i64 tt] 25)).heap.size (w.alloc (.cells #[.int .i64 k, .slice a n c, .slice b m d, .int .i64 fr, .int .i64 tt] 25)) ((w.alloc (.cells #[.int .i64 k, .slice a n c, .slice b m d, .int .i64 fr, .int .i64 tt] 25)).alloc (.cells #[.int .i64 k, .slice a' n c', .slice b' m d', .int .i64 fr, .int .i64 tt] 25)) := (Below.refl _ _).alloc (Nat.le_refl _) _
  have R0' := R0.below B1
  have B01 := below_tr B0 B1
  clear R0 B0 B1 hsz0 hC
  go_enter Tryd.func16, Tryd.ntmps16
  go_upto_region 1 with (fail)
  change RowV ((w.alloc (.cells #[.int .i64 k, .slice a n c, .slice b m d, .int .i64 fr, .int .i64 tt] 25)).alloc (.cells #[.int .i64 k, .slice a' n c', .slice b' m d', .int .i64 fr, .int .i64 tt] 25)) _ _ at R1
  generalize (w.alloc (.cells #[.int .i64 k, .slice a n c, .slice b m d, .int .i64 fr, .int .i64 tt] 25)).alloc (.cells #[.int .i64 k, .slice a' n c', .slice b' m d', .int .i64 fr, .int .i64 tt] 25) = w1 at R0' R1 B01 ⊢
  generalize w.heap.size + 1 = p' at R1 ⊢
  generalize w.heap.size = p at R0' ⊢
  have h1 := hr.below B01
  have h1' := hr'.below B01
  have k0 := (R0' 0 _ rfl).1
  have k1 := (R0' 1 _ rfl).1
  have k2 := (R0' 2 _ rfl).1
  have k3 := (R0' 3 _ rfl).1
  have k4 := (R0' 4 _ rfl).1
  have q0 := (R1 0 _ rfl).1
  have q1 := (R1 1 _ rfl).1
  have q2 := (R1 2 _ rfl).1
  have q3 := (R1 3 _ rfl).1
  have q4 := (R1 4 _ rfl).1
  go_upto_region 4 with (go_at_call 38; refine (SM _ h1.mat h1'.mat).mono ?_; rintro y w2 ⟨rfl, hb2⟩; have Ra := R0'.below hb2; have Rb := R1.below hb2; have k1 := (Ra 1 _ rfl).1; have q1 := (Rb 1 _ rfl).1; clear SM)
  have h2 := h1.below hb2
  have h2' := h1'.below hb2
  have B02 := below_tr B01 hb2
  clear R0' R1 h1 h1' hb2 B01 hr hr'
  go_loopw [5] (fun v5 wr => ∃ (j : Nat), j ≤ n ∧ v5 = .int .i64 j ∧ Below w2.heap.size w2 wr) (fun v5 _ => n - (intOf v5).toNat)
  case atStart => exact ⟨0, by omega, rfl, Below.refl _ _⟩
  case round =>
    clear k0 k1 k2 k3 k4 q0 q1 q2 q3 q4
    obtain ⟨j, hj, rfl, hbw⟩ := hrel
    have k1 := (Ra.below hbw 1 _ rfl).1
    have q1 := (Rb.below hbw 1 _ rfl).1
    by_cases hlt : j < n
    · have hji : (j : Int) < (n : Int) := by omega
      obtain ⟨⟨ls, t, v⟩, hp⟩ : ∃ p, sm[j]? = some p := ⟨_, List.getElem?_eq_getElem (by omega)⟩
      have s1 := (h2.below hbw).sam
      have s2 := (h2'.below hbw).sam
      obtain ⟨x, rfl⟩ := RowG.some_ s1 hp
      obtain ⟨x', rfl⟩ := RowG.some_ s2 hp
      obtain ⟨la, ln, lc, c0, c1, c2, hq, hln, _, hb32, _, _, _⟩ := RowSm.at3 s1 hp
      obtain ⟨la', ln', lc', d0, d1, d2, hq', hln', _, hb32', _, _, _⟩ := RowSm.at3 s2 hp
      simp only at c1 c2 hq hln d1 d2 hq' hln'
      have LS := fun W h h' => rlsame_any ls ls la la' ln lc ln' lc' hln hln' (by omega) (by omega) W h h'
      rw [cmpL_self] at LS
      clear hp s1 s2
      go_upto_region 6 with (fail)
      refine wp_region_inv_list (by kernel_rfl) (by kernel_rfl) (InvT wr [.pointer (some ⟨p, 1, none⟩), .slice (some x) n c, .int .i64 j, .pointer (some (x.add (j * 3))), .agg #[.slice la ln lc, .int .i64 t, .int .u64 (v : Nat)], .pointer (some ⟨p', 1, none⟩), .slice (some x') n c', .int .i64 j, .pointer (some (x'.add (j * 3))), .agg #[.slice la' ln' lc', .int .i64 t, .int .u64 (v : Nat)]] (fun i => if i = 10 then [.slice la ln lc, .int .i64 t, .int .u64 (v : Nat)] else [.slice la' ln' lc', .int .i64 t, .int .u64 (v : Nat)])) ?h0 ?hop ?hend
      case h0 => exact ⟨⟨rfl, rfl, rfl, Nat.le_refl _, fun _ _ => rfl⟩, (fun i _ h => by cases h), ⟨fun _ => 0, (fun i _ _ h => by cases h), (fun h _ => by cases h)⟩⟩
      case hop =>
        refine ⟨fun D vals W hI hD hd hc => ?_, fun D vals W hI hD hd hc => ?_, fun D vals W hI hD hd hc => ?_, fun D vals W hI hD hd hc => ?_, fun D vals W hI hD hd hc => ?_, fun D vals W hI hD hd hc => ?_, fun D vals W hI hD hd hc => ?_, fun D vals W hI hD hd hc => ?_, fun D vals W hI hD hd hc => ?_, fun D vals W hI hD hd hc => ?_, fun D vals W hI hD hd hc => ?_, fun D vals W hI hD hd hc => ?_, fun D vals W hI hD hd hc => ?_, fun D vals W hI hD hd hc => ?_, trivial⟩
        · have Hst := Lib.hid (hI.load 0 (by decide))
          clear hd hc hI
          simp only [fillTo]
          go_simp
          go_wp2
          exact ⟨rfl, Hst.out, trivial, trivial⟩
        · have hv0 : vals 0 = .pointer (some ⟨p, 1, none⟩) := hI.lds 0 (by show (0 : Nat) < 10; decide) (hd 0 (by kernel_rfl))
          have k1' := (Chg.of_below (fun _ => False) hI.bel).cell k1 (fun x => x)
          have Hst := Lib.hid (hI.load 1 (by decide))
          clear hd hc hI
          simp only [fillTo]
          go_simp
          go_wp2
          exact ⟨rfl, Hst.out, trivial, trivial⟩
        · have Hst := Lib.hid (hI.load 2 (by decide))
          clear hd hc hI
          simp only [fillTo]
          go_simp
          go_wp2
          exact ⟨rfl, Hst.out, trivial, trivial⟩
        · have hv1 : vals 1 = .slice (some x) n c := hI.lds 1 (by show (1 : Nat) < 10; decide) (hd 1 (by kernel_rfl))
          have hv2 : vals 2 = .int .i64 j := hI.lds 2 (by show (2 : Nat) < 10; decide) (hd 2 (by kernel_rfl))
          have Hst := Lib.hid (hI.load 3 (by decide))
          clear hd hc hI
          simp only [fillTo]
          go_simp
          go_wp2
          exact ⟨rfl, Hst.out, trivial, trivial⟩
        · have hv3 : vals 3 = .pointer (some (x.add (j * 3))) := hI.lds 3 (by show (3 : Nat) < 10; decide) (hd 3 (by kernel_rfl))
          have c0' := (Chg.of_below (fun _ => False) hI.bel).cell c0 (fun x => x)
          have c1' := (Chg.of_below (fun _ => False) hI.bel).cell c1 (fun x => x)
          have c2' := (Chg.of_below (fun _ => False) hI.bel).cell c2 (fun x => x)
          have Hst := Lib.hid (hI.load 4 (by decide))
          clear hd hc hI
          simp only [fillTo]
          go_simp
          go_wp2
          exact ⟨rfl, Hst.out, trivial, trivial⟩
        · have Hst := Lib.hid (hI.load 5 (by decide))
          clear hd hc hI
          simp only [fillTo]
          go_simp
          go_wp2
          exact ⟨rfl, Hst.out, trivial, trivial⟩
        · have hv5 : vals 5 = .pointer (some ⟨p', 1, none⟩) := hI.lds 5 (by show (5 : Nat) < 10; decide) (hd 5 (by kernel_rfl))
          have q1' := (Chg.of_below (fun _ => False) hI.bel).cell q1 (fun x => x)
          have Hst := Lib.hid (hI.load 6 (by decide))
          clear hd hc hI
          simp only [fillTo]
          go_simp
          go_wp2
          exact ⟨rfl, Hst.out, trivial, trivial⟩
        · have Hst := Lib.hid (hI.load 7 (by decide))
          clear hd hc hI
          simp only [fillTo]
          go_simp
          go_wp2
          exact ⟨rfl, Hst.out, trivial, trivial⟩
        · have hv6 : vals 6 = .slice (some x') n c' := hI.lds 6 (by show (6 : Nat) < 10; decide) (hd 6 (by kernel_rfl))
          have hv7 : vals 7 = .int .i64 j := hI.lds 7 (by show (7 : Nat) < 10; decide) (hd 7 (by kernel_rfl))
          have Hst := Lib.hid (hI.load 8 (by decide))
          clear hd hc hI
          simp only [fillTo]
          go_simp
          go_wp2
          exact ⟨rfl, Hst.out, trivial, trivial⟩
        · have hv8 : vals 8 = .pointer (some (x'.add (j * 3))) := hI.lds 8 (by show (8 : Nat) < 10; decide) (hd 8 (by kernel_rfl))
          have d0' := (Chg.of_below (fun _ => False) hI.bel).cell d0 (fun x => x)
          have d1' := (Chg.of_below (fun _ => False) hI.bel).cell d1 (fun x => x)
          have d2' := (Chg.of_below (fun _ => False) hI.bel).cell d2 (fun x => x)
          have Hst := Lib.hid (hI.load 9 (by decide))
          clear hd hc hI
          simp only [fillTo]
          go_simp
          go_wp2
          exact ⟨rfl, Hst.out, trivial, trivial⟩
        · have hn : D 12 = false := by
            cases h : D 12 with
            | false => rfl
            | true => have := hc 12 10 h (by kernel_rfl); rw [hD] at this; cases this
          have Hst := Lib.hid (hI.alloc 10 (by decide) (by decide) hn [.slice none 0 0, .int .i64 0, .int .u64 0] rfl 43)
          clear hd hc hI
          simp only [fillTo]
          go_simp
          go_wp2
          exact ⟨rfl, Hst.out, trivial, trivial⟩
        · have hn : D 13 = false := by
            cases h : D 13 with
            | false => rfl
            | true => have := hc 13 11 h (by kernel_rfl); rw [hD] at this; cases this
          have Hst := Lib.hid (hI.alloc 11 (by decide) (by decide) hn [.slice none 0 0, .int .i64 0, .int .u64 0] rfl 43)
          clear hd hc hI
          simp only [fillTo]
          go_simp
          go_wp2
          exact ⟨rfl, Hst.out, trivial, trivial⟩
        · have hvs : vals 4 = .agg #[.slice la ln lc, .int .i64 t, .int .u64 (v : Nat)] := hI.lds 4 (by show (4 : Nat) < 10; decide) (hd 4 (by kernel_rfl))
          have hda := hd 10 (by kernel_rfl)
          obtain ⟨G, hvG, ys, hy, ry⟩ := hI.at_ 10 (by decide) (by decide) hda
          obtain ⟨y0, y1, y2, rfl⟩ := three hy
          have e0 := (ry 0 _ rfl).1
          have e1 := (ry 1 _ rfl).1
          have e2 := (ry 2 _ rfl).1
          have z0 := (ry 0 _ rfl).2
          have z1 := (ry 1 _ rfl).2
          have z2 := (ry 2 _ rfl).2
          have Hst := Lib.hid (fun W9 hr hcg v => hI.store (W9 := W9) 10 (by decide) (by decide) hda G hvG rfl hr hcg v)
          have Hry := Lib.hid ry
          clear hd hc hI ry
          simp only [fillTo]
          go_simp
          go_wp2
          generalize hW9 : (((W.setCell ⟨G, 0, none⟩ _).setCell ⟨G, 1, none⟩ _).setCell ⟨G, 2, none⟩ _) = W9
          obtain ⟨r9, c9⟩ := Hry.out.set3 rfl _ _ _ W9 hW9.symm
          exact ⟨rfl, Hst.out W9 r9 c9 _, trivial, trivial⟩
        · have hvs : vals 9 = .agg #[.slice la' ln' lc', .int .i64 t, .int .u64 (v : Nat)] := hI.lds 9 (by show (9 : Nat) < 10; decide) (hd 9 (by kernel_rfl))
          have hda := hd 11 (by kernel_rfl)
          obtain ⟨G, hvG, ys, hy, ry⟩ := hI.at_ 11 (by decide) (by decide) hda
          obtain ⟨y0, y1, y2, rfl⟩ := three hy
          have e0 := (ry 0 _ rfl).1
          have e1 := (ry 1 _ rfl).1
          have e2 := (ry 2 _ rfl).1
          have z0 := (ry 0 _ rfl).2
          have z1 := (ry 1 _ rfl).2
          have z2 := (ry 2 _ rfl).2
          have Hst := Lib.hid (fun W9 hr hcg v => hI.store (W9 := W9) 11 (by decide) (by decide) hda G hvG rfl hr hcg v)
          have Hry := Lib.hid ry
          clear hd hc hI ry
          simp only [fillTo]
          go_simp
          go_wp2
          generalize hW9 : (((W.setCell ⟨G, 0, none⟩ _).setCell ⟨G, 1, none⟩ _).setCell ⟨G, 2, none⟩ _) = W9
          obtain ⟨r9, c9⟩ := Hry.out.set3 rfl _ _ _ W9 hW9.symm
          exact ⟨rfl, Hst.out W9 r9 c9 _, trivial, trivial⟩
      case hend =>
        intro vals W hI
        obtain ⟨P, hvP, ysP, _, rP, eP⟩ := hI.fin 10 (by decide) (by decide) rfl
        obtain ⟨Q, hvQ, ysQ, _, rQ, eQ⟩ := hI.fin 11 (by decide) (by decide) rfl
        rw [eP rfl] at rP
        rw [eQ rfl] at rQ
        have hbW := hI.bel
        clear hI eP eQ
        simp only [List.size_toArray, List.length_cons, List.length_nil, Nat.reduceAdd, fillTo]
        go_simp
        have bW := below_tr hbw hbW
        have l1 := hq.below hbW
        have l2 := hq'.below hbW
        have e0 := (rP 0 _ rfl).1
        have e1 := (rP 1 _ rfl).1
        have e2 := (rP 2 _ rfl).1
        have f0 := (rQ 0 _ rfl).1
        have f1 := (rQ 1 _ rfl).1
        have f2 := (rQ 2 _ rfl).1
        clear hvP hvQ rP rQ
        go_wp2_with (go_at_call 39; refine (LS _ l1 l2).mono ?_; rintro y w9 ⟨rfl, hb9⟩)
        go_roundw
        case rel => exact ⟨j + 1, by omega, by go_num, below_tr bW hb9⟩
        case measure => simp [intOf]; omega
    · obtain rfl : j = n := by omega
      have hji : ¬ (j : Int) < (j : Int) := by omega
      go_wp2
      go_ret
      exact ⟨rfl, below_tr B02 hbw⟩
end Go.Proofs.YtjmcpdhfefcdgaaDoor
