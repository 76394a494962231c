/- Contracts of the readers of bits, of the program and of the document. -/
import Derived.Test.YtdegmeclcbndgaaDoorBitR
import Derived.BigQuiet
import Derived.Lib.EndianBits
import Derived.Deep.QuietTactic
namespace Go.Proofs.YtdegmeclcbndgaaDoor
open Go.RowKit Bit

/-- The program's reader: a text, where it is, where it ends. -/
structure DInv (w : World) (p : Nat) (s : ByteArray) (a e : Nat) : Prop where
  c0 : w.cell? ⟨p, 0, none⟩ = some (.string s)
  c1 : w.cell? ⟨p, 1, none⟩ = some (.int .i64 (a : Nat))
  c2 : w.cell? ⟨p, 2, none⟩ = some (.int .i64 (e : Nat))
  f1 : w.frozen? ⟨p, 1, none⟩ = false

theorem DInv.keep {F : Nat → Prop} {w w' : World} {p : Nat} {s : ByteArray} {a e : Nat} (h : DInv w p s a e) (hc : Chg F w w') (hp : ¬ F p) : DInv w' p s a e := by
  have hlt := World.block_lt_of_cell? w _ h.c0
  exact ⟨hc.cell h.c0 hp, hc.cell h.c1 hp, hc.cell h.c2 hp, by rw [hc.frozen (a := ⟨p, 1, none⟩) hlt hp]; exact h.f1⟩

theorem valB_lt (l : List Bool) : valB l < 2 ^ l.length := by
  have key : ∀ n (l : List Bool), l.length = n → valB l < 2 ^ n := by
    intro n
    induction n with
    | zero => intro l hl; rw [List.length_eq_zero_iff.mp hl]; simp [valB]
    | succ n ih =>
      intro l hl
      have hne : l ≠ [] := fun e => by rw [e] at hl; simp at hl
      rw [← List.dropLast_concat_getLast hne, valB_snoc, Nat.pow_succ]
      have := ih l.dropLast (by simp [hl])
      split <;> omega
  exact key _ l rfl

theorem rd_bit (V r : Nat) (x : UInt8) (hV : V < 9223372036854775808) : bits .or .u64 ((V : Int) * 2) (IntKind.u64.wrap (bits .and .u8 ((x.toNat : Int) / 2 ^ r) 1)) = ((2 * V + (if x.toNat.testBit r then 1 else 0) : Nat) : Int) := by
  have hx := x.toNat_lt
  have e : (x.toNat : Int) / 2 ^ r = (x.toNat : Int) / 2 ^ r % 256 := by
    have h1 : (x.toNat : Int) / 2 ^ r = ((x.toNat / 2 ^ r : Nat) : Int) := by simp
    have h2 : x.toNat / 2 ^ r ≤ x.toNat := Nat.div_le_self _ _
    rw [h1]
    generalize x.toNat / 2 ^ r = y at h2 ⊢
    omega
  rw [e, bit_val]
  obtain ⟨t, ht, ht1⟩ : ∃ t : Nat, (if x.toNat.testBit r then (1 : Nat) else 0) = t ∧ t ≤ 1 := ⟨_, rfl, by split <;> omega⟩
  have ht2 : (if x.toNat.testBit r then (1 : Int) else 0) = (t : Int) := by rw [← ht]; split <;> rfl
  rw [ht, ht2, wraps_u64 _ (by omega) (by omega)]
  rw [bits_join .u64 64 (by decide) wraps_u64 1 ((V : Int) * 2) (t : Int) (by omega) (by omega) (by omega) (by omega) (by omega) (by omega)]
  omega

theorem newreader_any (w : World) (s : ByteArray) (n : Int) (e : Nat) (hs : s.size ≤ 140737488351232) (he : (e : Int) = min (max n 0) (8 * s.size)) :
    Calls Tryd.prog 19 #[.string s, .int .i64 n] w fun x w' => x = .returned (.pointer (some ⟨w.heap.size, 0, none⟩)) ∧ DInv w' w.heap.size s 0 e ∧ Below w.heap.size w w' := by
  have Hs := Lib.hid he
  clear he
  go_enter Tryd.func19, Tryd.ntmps19
  go_wp2
  all_goals
    go_ret
    refine ⟨rfl, ⟨by simp, by simp, by simp; have := Hs.out; omega, by simp⟩, (Below.refl _ _).alloc (Nat.le_refl _) _⟩

theorem left_any (w : World) (p : Nat) (s : ByteArray) (a e : Nat) (h : DInv w p s a e) (ha : a ≤ e) (he : e ≤ 1125899906842624) :
    Calls Tryd.prog 24 #[.pointer (some ⟨p, 0, none⟩)] w fun x w' => x = .returned (.int .i64 ((e : Int) - a)) ∧ ∃ m, w' = w.drewN m := by
  obtain ⟨c0, c1, c2, f1⟩ := h
  go_enter Tryd.func24, Tryd.ntmps24
  go_wp2
  go_quiet (fail)
  go_wp2
  go_ret
  exact ⟨rfl, _, rfl⟩

theorem rget_none (w : World) (p : Nat) (s : ByteArray) (a e : Nat) (n : Int) (h : DInv w p s a e) (ha : a ≤ e) (he : e ≤ 1125899906842624) (hn : n < 0 ∨ 64 < n ∨ (e : Int) < a + n) :
    Calls Tryd.prog 40 #[.pointer (some ⟨p, 0, none⟩), .int .i64 n] w fun x w' => x = .returned (.tuple #[.int .u64 0, .bool false]) ∧ ∃ m, w' = w.drewN m := by
  have hl := left_any w p s a e h ha he
  go_enter Tryd.func40, Tryd.ntmps40
  by_cases h1 : n < 0
  · go_wp2
    go_ret2
    exact ⟨rfl, 0, rfl⟩
  · by_cases h2 : 64 < n
    · go_wp2
      go_ret2
      exact ⟨rfl, 0, rfl⟩
    · have h3 : (e : Int) - a < n := by omega
      go_wp2_with (go_at_call 24; refine hl.mono ?_; rintro x w' ⟨rfl, m, rfl⟩)
      go_ret2
      exact ⟨rfl, m, rfl⟩

set_option maxRecDepth 100000 in
set_option maxHeartbeats 2000000 in
theorem rget_some (w : World) (p : Nat) (s : ByteArray) (a e : Nat) (n : Nat) (h : DInv w p s a e) (ha : a ≤ e) (he : e ≤ 8 * s.size) (hs : s.size ≤ 140737488351232) (hn : n ≤ 64) (hna : a + n ≤ e) :
    Calls Tryd.prog 40 #[.pointer (some ⟨p, 0, none⟩), .int .i64 n] w fun x w' => x = .returned (.tuple #[.int .u64 (valB (((bitsT s.data.toList).drop a).take n) : Nat), .bool true]) ∧ DInv w' p s (a + n) e ∧ Chg (fun k => k = p) w w' := by
  have hl := left_any w p s a e h ha (by omega)
  have h3 : (n : Int) ≤ (e : Int) - a := by omega
  obtain ⟨L, hL⟩ : ∃ L, Hid (L = (bitsT s.data.toList).drop a) := ⟨_, Lib.hid rfl⟩
  rw [← hL.out]
  have Hna := Lib.hid hna
  have Hae := Lib.hid ha
  have hLb : ∀ j, j < n → ∃ b, L[j]? = some b ∧ b = ((s.data.toList.getD ((a + j) / 8) 0).toNat).testBit (7 - (a + j) % 8) := by
    intro j hj
    have h9 := Hna.out
    refine ⟨_, ?_, rfl⟩
    rw [hL.out, List.getElem?_drop, bitsT_get _ _ (by rw [← size_toList]; omega)]
  have hLb := Lib.hid hLb
  have hLn : n ≤ L.length := by rw [hL.out, List.length_drop, bitsT_length, ← size_toList]; have := Hna.out; omega
  clear hna ha
  go_enter Tryd.func40, Tryd.ntmps40
  go_wp2_with (go_at_call 24; refine hl.mono ?_; rintro x w' ⟨rfl, m, rfl⟩)
  go_loopw [6, 20] (fun v i wr => ∃ j : Nat, j ≤ n ∧ i = .int .i64 j ∧ v = .int .u64 (valB (L.take j) : Nat) ∧ DInv wr p s (a + j) e ∧ Chg (fun k => k = p) w wr) (fun v i _ => n - (intOf i).toNat)
  case atStart =>
    exact ⟨0, by omega, rfl, rfl, h.keep (Chg.drewN (fun _ => False) _ _) (fun x => x), Chg.drewN _ _ _⟩
  case round =>
    obtain ⟨j, hj, rfl, rfl, hw, hch⟩ := hrel
    by_cases hlt : j < n
    · obtain ⟨b, hLj, hb⟩ := hLb.out j hlt
      obtain ⟨V, hV⟩ : ∃ V, Hid (V = valB (L.take j)) := ⟨_, Lib.hid rfl⟩
      have hVb : V < 9223372036854775808 := by
        have h1 := valB_lt (L.take j)
        have h2 : (L.take j).length = j := by rw [List.length_take]; omega
        rw [h2, ← hV.out] at h1
        have h4 : 2 ^ j ≤ 2 ^ 63 := Nat.pow_le_pow_right (by decide) (by omega)
        have h5 : (2 : Nat) ^ 63 = 9223372036854775808 := by decide
        omega
      rw [← hV.out]
      obtain ⟨c0, c1, c2, f1⟩ := hw
      obtain ⟨A, hA⟩ : ∃ A, Hid (A = a + j) := ⟨_, Lib.hid rfl⟩
      rw [← hA.out] at c1 hb
      have hAs : A / 8 < s.size := by have := Hna.out; rw [hA.out]; omega
      have hAb : A ≤ 1125899906842624 := by have := Hna.out; rw [hA.out]; omega
      obtain ⟨q, hq⟩ : ∃ q, Hid (q = A / 8) := ⟨_, Lib.hid rfl⟩
      have hqi : (A : Int) / 8 = (q : Int) := by rw [hq.out]; omega
      obtain ⟨r, hrr⟩ : ∃ r, Hid (r = A % 8) := ⟨_, Lib.hid rfl⟩
      have hri : (A : Int) % 8 = (r : Int) := by rw [hrr.out]; omega
      have hr8 : r < 8 := by rw [hrr.out]; omega
      rw [← hq.out] at hAs hb
      rw [← hrr.out] at hb
      have Hb := Lib.hid hb
      clear hb
      have hql : (q : Int) < (s.size : Int) := by omega
      go_upto_region 6 with (fail)
      go_quiet (fail)
      go_wp2
      go_roundw
      case rel =>
        have htk : L.take (j + 1) = L.take j ++ [b] := by rw [List.take_add_one, hLj]; rfl
        have hgd : s.data.toList.getD q 0 = s[q] := by
          have hq2 : q < s.data.toList.length := by rw [← size_toList]; exact hAs
          rw [List.getD_eq_getElem?_getD, List.getElem?_eq_getElem hq2]; rfl
        refine ⟨j + 1, by omega, by go_num, ?_, ?_, ?_⟩
        · rw [rd_bit _ _ _ hVb, htk, valB_snoc, ← hV.out, Hb.out, hgd]
        · have hc0 : (wr.drewN nq).cell? ⟨p, 1, none⟩ = some (.int .i64 (A : Nat)) := c1
          refine ⟨?_, ?_, ?_, ?_⟩
          · rw [World.cell?_setCell_other]
            · exact c0
            · intro e2; have := congrArg Addr.off e2; simp at this
          · rw [World.cell?_setCell_same _ _ _ hc0, hA.out]; congr 2
          · rw [World.cell?_setCell_other]
            · exact c2
            · intro e2; have := congrArg Addr.off e2; simp at this
          · rw [World.frozen?_setCell]; exact f1
        · exact (hch.trans (Chg.drewN (fun _ => False) _ nq) (fun _ _ x => x.elim)).trans (Chg.setCell _ _ _) (fun _ _ x => x)
      case measure => simp [intOf]; omega
    · obtain rfl : j = n := by omega
      go_wp2
      go_ret2
      exact ⟨rfl, hw, hch⟩

/-- The document's reader: the bits that are left, somewhere in a row. -/
structure XInv (w : World) (p : Nat) (v : Value) (L : List Bool) : Prop where
  c0 : w.cell? ⟨p, 0, none⟩ = some v
  f0 : w.frozen? ⟨p, 0, none⟩ = false
  sl : (L = [] ∧ v = .slice none 0 0) ∨ (∃ g o cap, v = .slice (some ⟨g, o, none⟩) L.length cap ∧ L.length ≤ cap ∧ cap ≤ maxLen ∧ (∀ j b, L[j]? = some b → w.cell? ⟨g, o + j, none⟩ = some (.bool b)))
  ne : v.ownBlock ≠ some p

set_option maxRecDepth 100000 in
set_option maxHeartbeats 2000000 in
theorem refnewreader_any (w : World) (s : ByteArray) (n : Int) (hn : -9223372036854775808 ≤ n) (hn1 : n < 9223372036854775808) (e : Nat) (hs : s.size ≤ 1099511627776) (he : (e : Int) = min (max n 0) (8 * s.size)) :
    Calls Tryd.prog 20 #[.string s, .int .i64 n] w fun x w' => x = .returned (.pointer (some ⟨w.heap.size, 0, none⟩)) ∧ ∃ v, RInv w' w.heap.size v ((bitsT s.data.toList).take e) ∧ (∀ g, v.ownBlock = some g → w.heap.size ≤ g) ∧ Below w.heap.size w w' := by
  have Hs := Lib.hid he
  clear he
  obtain ⟨B, hB⟩ : ∃ B, Hid (B = bitsT s.data.toList) := ⟨_, Lib.hid rfl⟩
  rw [← hB.out]
  have hBg : ∀ j, j < e → B[j]? = some (((s.data.toList.getD (j / 8) 0).toNat).testBit (7 - j % 8)) := by
    intro j hj
    rw [hB.out, bitsT_get _ _ (by rw [← size_toList]; have := Hs.out; omega)]
  have HBg := Lib.hid hBg
  clear hBg
  go_enter Tryd.func20, Tryd.ntmps20
  go_wp2
  go_loopw [6] (fun i wr => ∃ (j : Nat) (v1 : Value), j ≤ e ∧ i = .int .i64 j ∧ RInv wr w.heap.size v1 (B.take j) ∧ Hid (∀ g, v1.ownBlock = some g → w.heap.size ≤ g) ∧ Below w.heap.size w wr) (fun i _ => e - (intOf i).toNat)
  case atStart =>
    refine ⟨0, .slice none 0 0, by omega, rfl, ?_, Lib.hid (fun g hg => by simp [Value.ownBlock] at hg), (Below.refl _ _).alloc (Nat.le_refl _) _⟩
    rw [List.take_zero]
    exact ⟨by simp, by simp, World.ownsRow_nil _ _ _ _, by simp [Value.ownBlock]⟩
  case round =>
    obtain ⟨j, v1, hj, rfl, hw, hv1, hch⟩ := hrel
    by_cases hlt : j < e
    · have h1 : (j : Int) < 8 * (s.size : Int) := by have := Hs.out; omega
      have h2 : (j : Int) < n := by have := Hs.out; omega
      obtain ⟨L', hL'⟩ : ∃ L', Hid (L' = B.take j) := ⟨_, Lib.hid rfl⟩
      rw [← hL'.out] at hw
      have hBl : j < B.length := by rw [hB.out, bitsT_length, ← size_toList]; omega
      have hlen : L'.length = j := by rw [hL'.out, List.length_take]; omega
      have hLb : L'.length ≤ 8796093022208 := by rw [hlen]; omega
      have Hlen := Lib.hid hlen
      have HBl := Lib.hid hBl
      clear hlen hBl
      have hw2 := hw
      obtain ⟨c0, f0, own, ne⟩ := hw2
      obtain ⟨i0, hi, hz0, hz1, hz2⟩ := info_parts boolinfo
      obtain ⟨q, hq⟩ : ∃ q, Hid (q = j / 8) := ⟨_, Lib.hid rfl⟩
      have hqi : (j : Int) / 8 = (q : Int) := by rw [hq.out]; omega
      obtain ⟨r, hrr⟩ : ∃ r, Hid (r = j % 8) := ⟨_, Lib.hid rfl⟩
      have hri : (j : Int) % 8 = (r : Int) := by rw [hrr.out]; omega
      have hr8 : r < 8 := by rw [hrr.out]; omega
      have hAs : q < s.size := by rw [hq.out]; omega
      have hql : (q : Int) < (s.size : Int) := by omega
      obtain ⟨b, hb⟩ : ∃ b, Hid (b = ((s.data.toList.getD (j / 8) 0).toNat).testBit (7 - j % 8)) := ⟨_, Lib.hid rfl⟩
      have hbg := HBg.out j hlt
      rw [← hb.out] at hbg
      have hgd : s.data.toList.getD q 0 = s[q] := by
        have hq2 : q < s.data.toList.length := by rw [← size_toList]; exact hAs
        rw [List.getD_eq_getElem?_getD, List.getElem?_eq_getElem hq2]; rfl
      have hbit : (((s[q].toNat : Int) / 2 ^ (7 - r)).tmod 2 == 1) = b := by
        have h2 : s[q].toNat.testBit (7 - r) = decide (s[q].toNat / 2 ^ (7 - r) % 2 = 1) := Nat.testBit_eq_decide_div_mod_eq
        have e9 : (s[q].toNat : Int) / 2 ^ (7 - r) % 2 = ((s[q].toNat / 2 ^ (7 - r) % 2 : Nat) : Int) := by simp
        rw [Int.tmod_eq_emod_of_nonneg (Int.ediv_nonneg (Int.natCast_nonneg _) (Int.pow_nonneg (by decide))), e9, hb.out, ← hq.out, ← hrr.out, hgd, h2]
        generalize s[q].toNat / 2 ^ (7 - r) % 2 = y
        by_cases h : y = 1
        · subst h; rfl
        · have h3 : ¬ ((y : Int) = 1) := by omega
          rw [decide_eq_false h, beq_eq_false_iff_ne.mpr h3]
      have hpw : w.heap.size < wr.heap.size := World.block_lt_of_cell? wr _ c0
      have hpw2 : w.heap.size ≠ wr.heap.size := Nat.ne_of_lt hpw
      have h63 : L'.length + 1 ≤ maxLen := by unfold maxLen; omega
      have hby : (L'.length + 1) * 1 ≤ 140737488355328 := by omega
      have hnews : ∀ W : World, ∀ i u, ([Value.bool b] : List Value)[i]? = some u → (W.alloc (.cells #[.bool b] 4)).cell? (Addr.add ⟨W.heap.size, 0, none⟩ i) = some u := by
        intro W i u hu
        match i, hu with
        | 0, hu => simp at hu; subst hu; simp [Addr.add]
        | i + 1, hu => simp at hu
      have Hnews := Lib.hid hnews
      have H63 := Lib.hid h63
      have Hby := Lib.hid hby
      have Hbg := Lib.hid hbg
      clear hnews h63 hby hbg hgd
      have hwq : IntKind.i64.wrap (q : Int) = (q : Int) := by rw [IntKind.wrap_i64]; omega
      have htm : (j : Int).tmod 8 = (r : Int) := by rw [Int.tmod_eq_emod_of_nonneg (by omega)]; exact hri
      have hw7 : IntKind.i64.wrap (7 - (r : Int)) = 7 - (r : Int) := by rw [IntKind.wrap_i64]; omega
      have hn7 : (7 - (r : Int)).toNat = 7 - r := by omega
      have hqb : (0 : Int) ≤ (q : Int) := by omega
      have h70 : (0 : Int) ≤ 7 - (r : Int) := by omega
      have hwu : IntKind.u8.wrap ((s[q].toNat : Int) / 2 ^ (7 - r)) = (s[q].toNat : Int) / 2 ^ (7 - r) := by
        have hx := s[q].toNat_lt
        have h1 : (s[q].toNat : Int) / 2 ^ (7 - r) = ((s[q].toNat / 2 ^ (7 - r) : Nat) : Int) := by simp
        have h2 : s[q].toNat / 2 ^ (7 - r) ≤ s[q].toNat := Nat.div_le_self _ _
        rw [h1]
        generalize s[q].toNat / 2 ^ (7 - r) = y at h2 ⊢
        simp only [IntKind.wrap, IntKind.bits, IntKind.signed]; simp; omega
      go_upto_region 5 with (fail)
      go_region_law (refine step_append_fp rfl (.tmp 25) (.tmp 36) 32 rfl 0 4 i0 (.bool false) 1 1 Tryd.underlying32 hi hz0 hz1 hz2 rfl (by decide) v1 L'.length (encL L') (by simp [Act.eval]) (own.alloc _) ⟨wr.heap.size, 0, none⟩ 1 1 [.bool b] (by simp [Act.eval]) rfl (Hnews.out wr) (by simp [Value.oneCell']) H63.out Hby.out (Nat.zero_le _) ?_; intro v2 w1 ho hg _ hbk; obtain ⟨g2, cap2, rfl, _, _⟩ := World.ownsRow.form ho (Nat.succ_pos _); obtain ⟨h1, h2, h3, h4, h5⟩ := hw.appended (.inl rfl) hg ho hbk)
      all_goals
        go_wp2
        go_roundw
        case rel =>
          have hL2 : B.take (j + 1) = L' ++ [b] := by rw [List.take_add_one, Hbg.out, hL'.out]; rfl
          have h3h := Lib.hid h3
          refine ⟨j + 1, _, by omega, by go_num, by rw [hL2]; exact h1, Lib.hid ?_, hch.trans (h2.below hch.size ?_)⟩
          · intro g hgg
            rcases h3h.out g hgg with h6 | h6
            · exact hv1.out g h6
            · have := hch.size; omega
          · intro k hk hb2
            rcases hb2 with h6 | h6
            · omega
            · have := hv1.out k h6; omega
        case measure => simp [intOf]; omega
    · obtain rfl : j = e := by omega
      by_cases h1 : (j : Int) < 8 * (s.size : Int)
      · have h2 : n ≤ (j : Int) := by have := Hs.out; omega
        go_wp2
        go_ret
        exact ⟨rfl, v1, hw, hv1.out, hch⟩
      · go_wp2
        go_ret
        exact ⟨rfl, v1, hw, hv1.out, hch⟩

theorem XInv.keep {F : Nat → Prop} {w w' : World} {p : Nat} {v : Value} {L : List Bool} (h : XInv w p v L) (hc : Chg F w w') (hf : ∀ k, fpW p v k → ¬ F k) : XInv w' p v L := by
  have hp : ¬ F p := hf p (.inl rfl)
  have hlt := World.block_lt_of_cell? w _ h.c0
  refine ⟨hc.cell h.c0 hp, by rw [hc.frozen (a := ⟨p, 0, none⟩) hlt hp]; exact h.f0, ?_, h.ne⟩
  rcases h.sl with h1 | ⟨g, o, cap, hv, h1, h2, h3⟩
  · exact .inl h1
  · exact .inr ⟨g, o, cap, hv, h1, h2, fun j b hj => hc.cell (h3 j b hj) (hf g (.inr (by rw [hv]; rfl)))⟩

theorem XInv.of {w : World} {p : Nat} {v : Value} {L : List Bool} (h : RInv w p v L) : XInv w p v L := by
  refine ⟨h.c0, h.f0, ?_, h.ne⟩
  rcases h.own.2 with ⟨rfl, hn⟩ | ⟨g, cap, cur, hv, hb, hg, hnc, hcm, hcs, ht⟩
  · exact .inl ⟨List.length_eq_zero_iff.mp hn, rfl⟩
  · refine .inr ⟨g, 0, cap, hv, hnc, ?_, ?_⟩
    · exact hcm
    · intro j b hj
      have hlt : j < L.length := by
        rcases Nat.lt_or_ge j L.length with h | h
        · exact h
        · rw [List.getElem?_eq_none h] at hj; cases hj
      have h9 := h.own
      rw [hv] at h9
      rw [Nat.zero_add, h9.cellAt j (by omega)]
      simp [encL, hj]

theorem XInv.stored {w : World} {p : Nat} {v : Value} {L L' : List Bool} {v' : Value} (h : XInv w p v L) (hb : v'.ownBlock = v.ownBlock)
    (hs : (L' = [] ∧ v' = .slice none 0 0) ∨ (∃ g o cap, v' = .slice (some ⟨g, o, none⟩) L'.length cap ∧ L'.length ≤ cap ∧ cap ≤ maxLen ∧ (∀ j b, L'[j]? = some b → w.cell? ⟨g, o + j, none⟩ = some (.bool b)))) :
    XInv (w.setCell ⟨p, 0, none⟩ v') p v' L' := by
  refine ⟨World.cell?_setCell_same _ _ _ h.c0, by rw [World.frozen?_setCell]; exact h.f0, ?_, by rw [hb]; exact h.ne⟩
  rcases hs with h1 | ⟨g, o, cap, hv, h1, h2, h3⟩
  · exact .inl h1
  · refine .inr ⟨g, o, cap, hv, h1, h2, fun j b hj => ?_⟩
    have hc : Chg (fun k => k = p) w (w.setCell ⟨p, 0, none⟩ v') := Chg.setCell w ⟨p, 0, none⟩ v'
    refine hc.cell (h3 j b hj) (fun e => ?_)
    have e2 : g = p := e
    apply h.ne
    rw [← hb, hv, ← e2]; rfl

set_option maxRecDepth 100000 in
theorem refget_none (w : World) (p : Nat) (v : Value) (L : List Bool) (n : Int) (h : XInv w p v L) (hn : n < 0 ∨ 64 < n ∨ (L.length : Int) < n) :
    Calls Tryd.prog 53 #[.pointer (some ⟨p, 0, none⟩), .int .i64 n] w fun x w' => x = .returned (.tuple #[.int .u64 0, .bool false]) ∧ w' = w := by
  obtain ⟨a, cap, hv⟩ : ∃ a cap, v = .slice a L.length cap := by
    rcases h.sl with ⟨rfl, rfl⟩ | ⟨g, o, cap, hv, _⟩
    · exact ⟨none, 0, rfl⟩
    · exact ⟨_, _, hv⟩
  subst hv
  have c0 := h.c0
  go_enter Tryd.func53, Tryd.ntmps53
  by_cases h1 : n < 0
  · go_wp2
    go_ret2
    exact ⟨rfl, rfl⟩
  · by_cases h2 : 64 < n
    · go_wp2
      go_ret2
      exact ⟨rfl, rfl⟩
    · have h3 : (L.length : Int) < n := by omega
      go_wp2
      go_ret2
      exact ⟨rfl, rfl⟩

set_option maxRecDepth 100000 in
set_option maxHeartbeats 2000000 in
theorem refget_some (w : World) (p : Nat) (v : Value) (L : List Bool) (n : Nat) (hX : XInv w p v L) (hn : n ≤ 64) (hnl : n ≤ L.length) :
    Calls Tryd.prog 53 #[.pointer (some ⟨p, 0, none⟩), .int .i64 n] w fun x w' => x = .returned (.tuple #[.int .u64 (valB (L.take n) : Nat), .bool true]) ∧
      (∃ v', XInv w' p v' (L.drop n) ∧ v'.ownBlock = v.ownBlock) ∧ Chg (fun k => k = p) w w' := by
  have c0 := hX.c0
  have f0 := hX.f0
  rcases hX.sl with ⟨rfl, rfl⟩ | ⟨g, o, cap, rfl, hcap, hcb, hcl⟩
  · obtain rfl : n = 0 := by simpa using hnl
    go_enter Tryd.func53, Tryd.ntmps53
    go_wp2
    go_loopw [6, 7] (fun v i wr => v = .int .u64 0 ∧ i = .int .i64 0 ∧ w = wr) (fun v i _ => 0)
    case atStart => exact ⟨rfl, rfl, rfl⟩
    case round =>
      obtain ⟨rfl, rfl, rfl⟩ := hrel
      go_wp2
      go_ret2
      exact ⟨rfl, ⟨.slice none 0 0, hX.stored (by rfl) (.inl ⟨rfl, rfl⟩), rfl⟩, Chg.setCell w ⟨p, 0, none⟩ _⟩
  · go_enter Tryd.func53, Tryd.ntmps53
    have hnl2 : (n : Int) ≤ (L.length : Int) := by omega
    go_wp2
    go_loopw [6, 7] (fun v i wr => ∃ j : Nat, j ≤ n ∧ i = .int .i64 j ∧ v = .int .u64 (valB (L.take j) : Nat) ∧ w = wr) (fun v i _ => n - (intOf i).toNat)
    case atStart => exact ⟨0, by omega, rfl, rfl, rfl⟩
    case round =>
      obtain ⟨j, hj, rfl, rfl, rfl⟩ := hrel
      by_cases hlt : j < n
      · obtain ⟨b, hb⟩ : ∃ b, Hid (L[j]? = some b) := ⟨L[j], Lib.hid (by rw [List.getElem?_eq_getElem])⟩
        have hcj := hcl j b hb.out
        obtain ⟨V, hV⟩ : ∃ V, Hid (V = valB (L.take j)) := ⟨_, Lib.hid rfl⟩
        have hVb : V < 9223372036854775808 := by
          have h1 := valB_lt (L.take j)
          have h2 : (L.take j).length = j := by rw [List.length_take]; omega
          rw [h2, ← hV.out] at h1
          have h4 : 2 ^ j ≤ 2 ^ 63 := Nat.pow_le_pow_right (by decide) (by omega)
          have h5 : (2 : Nat) ^ 63 = 9223372036854775808 := by decide
          omega
        rw [← hV.out]
        have htk : L.take (j + 1) = L.take j ++ [b] := by rw [List.take_add_one, hb.out]; rfl
        have Htk := Lib.hid htk
        clear htk
        have hjl : (j : Int) < (L.length : Int) := by omega
        go_wp2
        · go_roundw
          case rel =>
            have e4 : b = true := ‹b = true›
            refine ⟨j + 1, by omega, by go_num, ?_, trivial⟩
            rw [Htk.out, valB_snoc, ← hV.out, e4]; congr 1
          case measure => simp [intOf]; omega
        · go_roundw
          case rel =>
            have e4 : b = false := ‹b = false›
            refine ⟨j + 1, by omega, by go_num, ?_, trivial⟩
            rw [Htk.out, valB_snoc, ← hV.out, e4]; congr 1
          case measure => simp [intOf]; omega
      · obtain rfl : j = n := by omega
        have hlen : (L.drop j).length = L.length - j := List.length_drop
        go_wp2
        · go_ret2
          have hc : cap = j := ‹cap = j›
          refine ⟨rfl, ⟨_, hX.stored (by rfl) (.inr ⟨g, o, 0, by rw [hlen], by omega, by unfold maxLen; omega, fun i b hi => ?_⟩), rfl⟩, Chg.setCell w ⟨p, 0, none⟩ _⟩
          have : L.drop j = [] := List.drop_eq_nil_of_le (by omega)
          rw [this] at hi; cases hi
        · go_ret2
          refine ⟨rfl, ⟨_, hX.stored (by rfl) (.inr ⟨g, o + j, cap - j, by rw [hlen], by omega, by omega, fun i b hi => ?_⟩), rfl⟩, Chg.setCell w ⟨p, 0, none⟩ _⟩
          rw [List.getElem?_drop] at hi
          have h9 := hcl _ _ hi
          rw [show o + j + i = o + (j + i) from by omega]; exact h9
end Go.Proofs.YtdegmeclcbndgaaDoor
