/- What the laws of messages call: whether a message is great, a copy of its own, that encoder and decoder work. -/
import Derived.Test.YtmaebileagfdaaaWrE
import Derived.Test.YtmaebileagfdaaaWrD
import Derived.Test.YtmaebileagfdaaaFrameB
import Derived.BigRegion
import Derived.Deep.CutBlock
namespace Go.Proofs.Ytmaebileagfdaaa
open Go.RowKit Dig Wr

structure BoolOut (w : World) (y : Ending) (w' : World) : Prop where
  ex : (∃ b : Bool, y = .returned (.bool b)) ∧ Below w.heap.size w w'

set_option maxRecDepth 100000 in
set_option maxHeartbeats 4000000 in
theorem great_any (m : Msg) (a : Option Addr) (n c : Nat) (hn : m.rs.length = n) (hb : n ≤ 4611686018427387904) (w : World) (hr : RowS w a m.rs) :
    Calls Try.prog 36 #[msgV m a n c] w (BoolOut w) := by
  obtain ⟨k, e, b1, l, la, ap, su, rs, tx⟩ := m
  simp only at hn hr
  have h0 := RowV.new w [.int .i64 k, .int .i64 e, .int .i64 b1, .int .i64 l, .int .i64 la, .int .i64 ap, .int .u32 (su : Nat), .slice a n c, .string tx] 80
  have hb0 : Below w.heap.size w (w.alloc (.cells #[.int .i64 k, .int .i64 e, .int .i64 b1, .int .i64 l, .int .i64 la, .int .i64 ap, .int .u32 (su : Nat), .slice a n c, .string tx] 80)) := (Below.refl _ _).alloc (Nat.le_refl _) _
  unfold msgV
  simp only
  go_enter Try.func36, Try.ntmps36
  go_upto_region 1 with (fail)
  obtain ⟨W1, hW1⟩ : ∃ W1, Hid (W1 = w.alloc (.cells #[.int .i64 k, .int .i64 e, .int .i64 b1, .int .i64 l, .int .i64 la, .int .i64 ap, .int .u32 (su : Nat), .slice a n c, .string tx] 80)) := ⟨_, Lib.hid rfl⟩
  obtain ⟨p, hp⟩ : ∃ p, Hid (p = w.heap.size) := ⟨_, Lib.hid rfl⟩
  have hx1 : RowV W1 p [.int .i64 k, .int .i64 e, .int .i64 b1, .int .i64 l, .int .i64 la, .int .i64 ap, .int .u32 (su : Nat), .slice a n c, .string tx] := by rw [hW1.out, hp.out]; exact h0
  have hb1 : Below w.heap.size w W1 := by rw [hW1.out]; exact hb0
  rw [← hW1.out, ← hp.out]
  have hr1 := hr.below hb1
  have pb7 := (hx1 7 _ rfl).1
  have pb8 := (hx1 8 _ rfl).1
  clear h0 hb0 hx1
  go_upto_region 3 with (fail)
  go_loop [3, 4] (fun v3 v4 => ∃ (z : Int) (j : Nat), j ≤ n ∧ v3 = .int .i64 z ∧ v4 = .int .i64 j) (fun _ v4 => n - (intOf v4).toNat)
  case atStart => exact ⟨_, 0, by omega, rfl, rfl⟩
  case round =>
    obtain ⟨z, j, hj, rfl, rfl⟩ := hrel
    by_cases hlt : j < n
    · have hji : (j : Int) < (n : Int) := by omega
      by_cases hz : z < 200000
      · obtain ⟨r, hza⟩ : ∃ r, rs[j]? = some r := ⟨_, List.getElem?_eq_getElem (by omega)⟩
        rcases hr1.row with h0 | ⟨x, rfl, hc⟩
        · rw [h0] at hza; simp at hza
        have c0 := hc j _ hza
        clear hc hza
        go_wp2
        go_round
        case rel => exact ⟨_, j + 1, by omega, rfl, by go_num⟩
        case measure => simp [intOf]; omega
      · go_wp2
        go_ret
        exact ⟨⟨_, rfl⟩, hb1⟩
    · have hji : ¬ (j : Int) < (n : Int) := by omega
      go_wp2
      go_ret
      exact ⟨⟨_, rfl⟩, hb1⟩

structure OwnOut (w : World) (m : Msg) (y : Ending) (w' : World) : Prop where
  ex : ∃ a c, y = .returned (msgV m a m.rs.length c) ∧ RowS w' a m.rs ∧ Below w.heap.size w w'
theorem src_of_rowS {w : World} {a : Option Addr} {n c : Nat} {rs : List ByteArray} (hr : RowS w a rs) (hn : rs.length = n) (hs : a = none → n = 0 ∧ c = 0) : Src w 1 a n c (rs.map Value.string) := by
  refine ⟨by simp [hn], ?_⟩
  cases a with
  | none =>
    obtain ⟨h1, h2⟩ := hs rfl
    exact .inl ⟨rfl, h1, h2⟩
  | some ad =>
    refine .inr ⟨ad, rfl, fun j u hu => ?_⟩
    rcases hr.row with h0 | ⟨x, hx, hc⟩
    · rw [h0] at hu; simp at hu
    · cases hx
      rw [List.getElem?_map] at hu
      cases h : rs[j]? with
      | none => rw [h] at hu; cases hu
      | some r => rw [h] at hu; simp at hu; subst hu; exact hc j r h

set_option maxRecDepth 100000 in
set_option maxHeartbeats 4000000 in
theorem own_any (m : Msg) (a : Option Addr) (n c : Nat) (hn : m.rs.length = n) (hb : n * 16 ≤ 140737488351232) (hs : a = none → n = 0 ∧ c = 0) (w : World) (hr : RowS w a m.rs) :
    Calls Try.prog 38 #[msgV m a n c] w (OwnOut w m) := by
  obtain ⟨k, e, b1, l, la, ap, su, rs, tx⟩ := m
  simp only at hn hr
  have h0 := RowV.new w [.int .i64 k, .int .i64 e, .int .i64 b1, .int .i64 l, .int .i64 la, .int .i64 ap, .int .u32 (su : Nat), .slice a n c, .string tx] 80
  have hb0 : Below w.heap.size w (w.alloc (.cells #[.int .i64 k, .int .i64 e, .int .i64 b1, .int .i64 l, .int .i64 la, .int .i64 ap, .int .u32 (su : Nat), .slice a n c, .string tx] 80)) := (Below.refl _ _).alloc (Nat.le_refl _) _
  unfold msgV
  simp only
  go_enter Try.func38, Try.ntmps38
  have h1 := h0.below ((Below.refl _ _).alloc (Nat.le_refl _) (.cells (hd9 [] (.slice none 0 0) (.string ByteArray.empty)).toArray 80))
  have hq := RowV.new (w.alloc (.cells #[.int .i64 k, .int .i64 e, .int .i64 b1, .int .i64 l, .int .i64 la, .int .i64 ap, .int .u32 (su : Nat), .slice a n c, .string tx] 80)) (hd9 [] (.slice none 0 0) (.string ByteArray.empty)) 80
  have hs1 : (w.alloc (.cells #[.int .i64 k, .int .i64 e, .int .i64 b1, .int .i64 l, .int .i64 la, .int .i64 ap, .int .u32 (su : Nat), .slice a n c, .string tx] 80)).heap.size = w.heap.size + 1 := by simp
  have hba : Below w.heap.size w ((w.alloc (.cells #[.int .i64 k, .int .i64 e, .int .i64 b1, .int .i64 l, .int .i64 la, .int .i64 ap, .int .u32 (su : Nat), .slice a n c, .string tx] 80)).alloc (.cells (hd9 [] (.slice none 0 0) (.string ByteArray.empty)).toArray 80)) := below_tr hb0 ((Below.refl _ _).alloc (Nat.le_refl _) _)
  obtain ⟨W2, hW2⟩ : ∃ W2, Hid (W2 = (w.alloc (.cells #[.int .i64 k, .int .i64 e, .int .i64 b1, .int .i64 l, .int .i64 la, .int .i64 ap, .int .u32 (su : Nat), .slice a n c, .string tx] 80)).alloc (.cells (hd9 [] (.slice none 0 0) (.string ByteArray.empty)).toArray 80)) := ⟨_, Lib.hid rfl⟩
  obtain ⟨p, hp⟩ : ∃ p, Hid (p = w.heap.size) := ⟨_, Lib.hid rfl⟩
  obtain ⟨q, hqq⟩ : ∃ q, Hid (q = w.heap.size + 1) := ⟨_, Lib.hid rfl⟩
  go_upto_region 1 with (fail)
  show Code.wp _ _ _ _ ((w.alloc (.cells #[.int .i64 k, .int .i64 e, .int .i64 b1, .int .i64 l, .int .i64 la, .int .i64 ap, .int .u32 (su : Nat), .slice a n c, .string tx] 80)).alloc (.cells (hd9 [] (.slice none 0 0) (.string ByteArray.empty)).toArray 80))
  rw [hs1] at hq
  rw [← hW2.out] at h1 hq hba ⊢
  rw [← hqq.out] at hq ⊢
  rw [← hp.out] at h1 ⊢
  have hpq : p < q := by rw [hp.out, hqq.out]; omega
  have hpw : w.heap.size ≤ p := by rw [hp.out]; exact Nat.le_refl _
  have hr2 := hr.below hba
  have hsrc := src_of_rowS (c := c) hr2 hn hs
  have hone : ∀ u ∈ rs.map Value.string, u.oneCell' = true := by
    intro u hu; simp at hu; obtain ⟨r, _, rfl⟩ := hu; rfl
  obtain ⟨ti, hi, hz0, hz1, hz2⟩ := info_parts strinfo
  have Hone := Lib.hid hone
  have pb7 := (h1 7 _ rfl).1
  have pb7a : (W2.alloc (.cells #[] 9)).cell? ⟨p, 7, none⟩ = some (.slice a n c) := (Chg.alloc (fun _ => False) W2 _).cell pb7 (fun x => x)
  have hp2 : p < W2.heap.size := h1.lt (by simp)
  have hq2 : q < W2.heap.size := hq.lt (by simp [hd9])
  have ML : ∀ W p v0 v1 v2 v3 v4 v5 v6 v7 v8, RowV W p [v0, v1, v2, v3, v4, v5, v6, v7, v8] → (loadVar 80 ⟨p, 0, none⟩).run Try.prog W = .ok (.agg #[v0, v1, v2, v3, v4, v5, v6, v7, v8]) W := fun W p v0 v1 v2 v3 v4 v5 v6 v7 v8 h => h.load _ _ Try.underlying80 rfl (by kernel_rfl)
  clear hone h0 hb0 hs1
  go_upto_region 2 with (at_builtin; refine wpList_copy_new (w0 := W2) rfl _ _ 78 rfl 9 rfl ti (.string ⟨#[]⟩) 1 16 Try.underlying78 hi hz0 hz1 hz2 rfl (by decide) rfl a n c (rs.map Value.string) rfl hsrc Hone.out (by unfold maxLen; omega) (by omega) ?_; intro v' w3 ho hb3 hfr; have hfm := ownslice_form ho; obtain ⟨va, vc, rfl⟩ := hfm; have h3 := h1.below hb3; have pb7' := (h3 7 _ rfl).1; have pz7' := (h3 7 _ rfl).2)
  have hcs := Chg.setCell w3 ⟨p, 7, none⟩ (.slice va n vc)
  have h4 : RowV (w3.setCell ⟨p, 7, none⟩ (.slice va n vc)) p [.int .i64 k, .int .i64 e, .int .i64 b1, .int .i64 l, .int .i64 la, .int .i64 ap, .int .u32 (su : Nat), .slice va n vc, .string tx] := h3.set 7 (by simp) (.slice va n vc)
  have hq4 := (hq.below hb3).keep hcs (by simp only; omega)
  have ho4 := hcs.owns ho (fun g hg e => by have := hfr g hg; simp only at e; omega)
  have hb4 : Below w.heap.size w (w3.setCell ⟨p, 7, none⟩ (.slice va n vc)) := Chg.below_tr (below_tr hba hb3) hcs (fun k hk e => by simp only at e; omega)
  obtain ⟨W4, hW4⟩ : ∃ W4, Hid (W4 = w3.setCell ⟨p, 7, none⟩ (.slice va n vc)) := ⟨_, Lib.hid rfl⟩
  rw [← hW4.out] at h4 hq4 ho4 hb4 ⊢
  have Hfr := Lib.hid hfr
  clear hcs ho hb3 hfr h1 hq hba hr2 hsrc pb7 pb7a h3 pb7' pz7' hW4
  have mb0 := (h4 0 _ rfl).1
  have mb1 := (h4 1 _ rfl).1
  have mb2 := (h4 2 _ rfl).1
  have mb3 := (h4 3 _ rfl).1
  have mb4 := (h4 4 _ rfl).1
  have mb5 := (h4 5 _ rfl).1
  have mb6 := (h4 6 _ rfl).1
  have mb7 := (h4 7 _ rfl).1
  have mb8 := (h4 8 _ rfl).1
  have qb0 := (hq4 0 _ rfl).1
  have qz0 := (hq4 0 _ rfl).2
  have qb1 := (hq4 1 _ rfl).1
  have qz1 := (hq4 1 _ rfl).2
  have qb2 := (hq4 2 _ rfl).1
  have qz2 := (hq4 2 _ rfl).2
  have qb3 := (hq4 3 _ rfl).1
  have qz3 := (hq4 3 _ rfl).2
  have qb4 := (hq4 4 _ rfl).1
  have qz4 := (hq4 4 _ rfl).2
  have qb5 := (hq4 5 _ rfl).1
  have qz5 := (hq4 5 _ rfl).2
  have qb6 := (hq4 6 _ rfl).1
  have qz6 := (hq4 6 _ rfl).2
  have qb7 := (hq4 7 _ rfl).1
  have qz7 := (hq4 7 _ rfl).2
  have qb8 := (hq4 8 _ rfl).1
  have qz8 := (hq4 8 _ rfl).2
  go_wp2
  generalize hW9 : (((((((((W4.setCell ⟨q, 0, none⟩ _).setCell ⟨q, 1, none⟩ _).setCell ⟨q, 2, none⟩ _).setCell ⟨q, 3, none⟩ _).setCell ⟨q, 4, none⟩ _).setCell ⟨q, 5, none⟩ _).setCell ⟨q, 6, none⟩ _).setCell ⟨q, 7, none⟩ _).setCell ⟨q, 8, none⟩ _) = W9
  obtain ⟨r9, c9, _⟩ := hq4.set9 rfl _ _ _ _ _ _ _ _ _ W9 hW9.symm
  refine bodyPost_ret (results_cell_tmp1 rfl _ _ q _ rfl (ML W9 _ _ _ _ _ _ _ _ _ _ r9)) rfl ?_
  have ho9 := c9.owns ho4 (fun g hg e => by have := Hfr.out g hg; omega)
  exact ⟨va, vc, by rw [hn]; rfl, (rowS_own ho9).1, Chg.below_tr hb4 c9 (fun k hk e => by omega)⟩

def S18 : List UInt8 := [7, 1, 11, 1, 1, 1, 1, 0, 0, 0, 0, 0, 0, 0, 211, 148, 95, 157]

set_option maxRecDepth 100000 in
set_option maxHeartbeats 4000000 in
theorem wworks_any (w : World) : Calls Try.prog 35 #[] w fun e w' => e = .returned (.bool true) ∧ Below w.heap.size w w' := by
  have he1 : encW ⟨1, 1, 0, 0, 0, 0, 0, [], ByteArray.empty⟩ = (S18, 0) := by decide +kernel
  have he2 : encW ⟨2, 1, 0, 0, 0, 0, 0, [], ByteArray.empty⟩ = ([], 3) := by decide +kernel
  have hd1 : (decW S18).1 = 0 := by decide +kernel
  have hd2 : (decW S18).2.k = 1 := by decide +kernel
  have E1 : ∀ W, Calls Try.prog 37 #[.agg #[.int .i64 1, .int .i64 1, .int .i64 0, .int .i64 0, .int .i64 0, .int .i64 0, .int .u32 0, .slice none 0 0, .string { data := #[] }]] W fun e w' => e = .returned (.tuple #[.string { data := #[7, 1, 11, 1, 1, 1, 1, 0, 0, 0, 0, 0, 0, 0, 211, 148, 95, 157] }, .int .i64 0]) ∧ Below W.heap.size W w' := fun W => by
    have := encode_any ⟨1, 1, 0, 0, 0, 0, 0, [], ByteArray.empty⟩ ⟨by decide, by decide, by decide, by decide, by decide, by decide⟩ (by decide) none 0 0 rfl (by omega) W ⟨.inl rfl⟩
    rw [he1] at this
    exact this
  have E2 : ∀ W, Calls Try.prog 37 #[.agg #[.int .i64 2, .int .i64 1, .int .i64 0, .int .i64 0, .int .i64 0, .int .i64 0, .int .u32 0, .slice none 0 0, .string { data := #[] }]] W fun e w' => e = .returned (.tuple #[.string { data := #[] }, .int .i64 3]) ∧ Below W.heap.size W w' := fun W => by
    have := encode_any ⟨2, 1, 0, 0, 0, 0, 0, [], ByteArray.empty⟩ ⟨by decide, by decide, by decide, by decide, by decide, by decide⟩ (by decide) none 0 0 rfl (by omega) W ⟨.inl rfl⟩
    rw [he2] at this
    exact this
  have D1 : ∀ W, Calls Try.prog 32 #[.string { data := #[7, 1, 11, 1, 1, 1, 1, 0, 0, 0, 0, 0, 0, 0, 211, 148, 95, 157] }] W (DeOut W (decW S18)) := fun W => wdecode_any { data := #[7, 1, 11, 1, 1, 1, 1, 0, 0, 0, 0, 0, 0, 0, 211, 148, 95, 157] } (by show (18 : Nat) ≤ _; omega) W
  obtain ⟨e, m, hd⟩ : ∃ e m, Hid (decW S18 = (e, m)) := ⟨_, _, Lib.hid rfl⟩
  rw [hd.out] at hd1 hd2 D1
  simp only at hd1 hd2
  subst hd1
  go_enter Try.func35, Try.ntmps35
  go_upto_region 2 with (go_at_call 37; refine (E1 _).mono ?_; rintro y w1 ⟨rfl, hb1⟩)
  go_upto_region 3 with (go_at_call 32; refine (D1 _).mono ?_; rintro y w2 ⟨hb2, a, n, c, hn, rfl, ho⟩; unfold msgV)
  have hx := RowV.new w2 [.int .i64 1, .int .i64 m.e, .int .i64 m.b, .int .i64 m.l, .int .i64 m.la, .int .i64 m.ap, .int .u32 (m.su : Nat), .slice a n c, .string m.tx] 80
  have hba : Below w2.heap.size w2 (w2.alloc (.cells #[.int .i64 1, .int .i64 m.e, .int .i64 m.b, .int .i64 m.l, .int .i64 m.la, .int .i64 m.ap, .int .u32 (m.su : Nat), .slice a n c, .string m.tx] 80)) := (Below.refl _ _).alloc (Nat.le_refl _) _
  obtain ⟨W3, hW3⟩ : ∃ W3, Hid (W3 = w2.alloc (.cells #[.int .i64 1, .int .i64 m.e, .int .i64 m.b, .int .i64 m.l, .int .i64 m.la, .int .i64 m.ap, .int .u32 (m.su : Nat), .slice a n c, .string m.tx] 80)) := ⟨_, Lib.hid rfl⟩
  obtain ⟨p, hp⟩ : ∃ p, Hid (p = w2.heap.size) := ⟨_, Lib.hid rfl⟩
  have hx3 : RowV W3 p [.int .i64 1, .int .i64 m.e, .int .i64 m.b, .int .i64 m.l, .int .i64 m.la, .int .i64 m.ap, .int .u32 (m.su : Nat), .slice a n c, .string m.tx] := by rw [hW3.out, hp.out]; exact hx
  rw [← hW3.out] at hba ⊢
  rw [← hp.out]
  have hb3 := below_tr (below_tr hb1 hb2) hba
  clear hx hW3 E1 D1 ho hn he1 he2
  go_upto_region 4 with (go_at_call 37; refine (E2 _).mono ?_; rintro y w4 ⟨rfl, hb4⟩)
  have c0 := ((hx3.below hb4) 0 _ rfl).1
  have hsl : ({ data := #[7, 1, 11, 1, 1, 1, 1, 0, 0, 0, 0, 0, 0, 0, 211, 148, 95, 157] } : ByteArray).extract 0 13 = { data := #[7, 1, 11, 1, 1, 1, 1, 0, 0, 0, 0, 0, 0] } := by decide +kernel
  have hz : ({ data := #[7, 1, 11, 1, 1, 1, 1, 0, 0, 0, 0, 0, 0, 0, 211, 148, 95, 157] } : ByteArray).size = 18 := rfl
  clear E2
  go_wp2
  go_ret
  exact ⟨rfl, below_tr hb3 hb4⟩
end Go.Proofs.Ytmaebileagfdaaa
