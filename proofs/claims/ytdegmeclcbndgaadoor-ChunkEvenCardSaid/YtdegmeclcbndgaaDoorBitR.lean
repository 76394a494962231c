/- Contracts of the document's writer of bits. -/
import Derived.Test.YtdegmeclcbndgaaDoorBitW
import Derived.Deep.RegionLaw
namespace Go.Proofs.YtdegmeclcbndgaaDoor
open Go.RowKit Bit

def encL (l : List Bool) : List Value := l.map Value.bool

/-- The document's writer: a list of bits. -/
structure RInv (w : World) (p : Nat) (v : Value) (L : List Bool) : Prop where
  c0 : w.cell? ⟨p, 0, none⟩ = some v
  f0 : w.frozen? ⟨p, 0, none⟩ = false
  own : w.ownsRow 0 4 1 v L.length (encL L)
  ne : v.ownBlock ≠ some p

theorem RInv.keep {F : Nat → Prop} {w w' : World} {p : Nat} {v : Value} {L : List Bool} (h : RInv w p v L) (hc : Chg F w w') (hf : ∀ k, fpW p v k → ¬ F k) : RInv w' p v L := by
  have hp : ¬ F p := hf p (.inl rfl)
  have hlt := World.block_lt_of_cell? w _ h.c0
  exact ⟨hc.cell h.c0 hp, by rw [hc.frozen (a := ⟨p, 0, none⟩) hlt hp]; exact h.f0, hc.owns h.own (fun g hg => hf g (.inr hg)), h.ne⟩

theorem encL_snoc (l : List Bool) (b : Bool) : encL (l ++ [b]) = encL l ++ [.bool b] := by simp [encL]
theorem boolinfo : (Tryd.prog.info? 4).map (fun i => (i.zero, i.size, i.bytes)) = some (some (.bool false), 1, 1) := by kernel_rfl

/-- Behind the append of one bit and the store of the new slice. -/
theorem RInv.appended {wr w0 w1 : World} {p : Nat} {v1 v2 : Value} {L : List Bool} {b : Bool} {o : Obj} (h : RInv wr p v1 L) (hw0 : w0 = (wr.alloc o).drew ∨ w0 = wr.drew.alloc o)
    (hg : w0.grownBy w1 v1.ownBlock) (ho : w1.ownsRow 0 4 1 v2 (L.length + 1) (encL L ++ [.bool b])) (hb : v2.ownBlock = v1.ownBlock ∨ v2.ownBlock = some w0.heap.size) :
    RInv (w1.setCell ⟨p, 0, none⟩ v2) p v2 (L ++ [b]) ∧ Chg (fpW p v1) wr (w1.setCell ⟨p, 0, none⟩ v2) ∧ (∀ g, v2.ownBlock = some g → v1.ownBlock = some g ∨ wr.heap.size ≤ g) ∧ w1.cell? ⟨p, 0, none⟩ = some v1 ∧ w1.frozen? ⟨p, 0, none⟩ = false := by
  have hp : p < wr.heap.size := World.block_lt_of_cell? wr _ h.c0
  have hw0c : Chg (fun k => v1.ownBlock = some k) wr w0 := by
    rcases hw0 with rfl | rfl
    · exact (Chg.alloc _ wr o).trans (Chg.drew (fun _ => False) _) (fun _ _ h => h.elim)
    · exact (Chg.drew _ wr).trans (Chg.alloc (fun _ => False) _ o) (fun _ _ h => h.elim)
  have hsz : wr.heap.size + 1 = w0.heap.size := by rcases hw0 with rfl | rfl <;> simp
  have hc1 : Chg (fun k => v1.ownBlock = some k) wr w1 := hw0c.trans (Chg.grown hg) (fun b _ hb => hb.symm)
  have h0 := hc1.cell h.c0 h.ne
  have z0 : w1.frozen? ⟨p, 0, none⟩ = false := by rw [hc1.frozen (a := ⟨p, 0, none⟩) hp h.ne]; exact h.f0
  have hfresh : ∀ g, v2.ownBlock = some g → v1.ownBlock = some g ∨ wr.heap.size ≤ g := by
    intro g hgg
    rcases hb with hb | hb
    · exact .inl (by rw [← hb]; exact hgg)
    · rw [hb] at hgg; right
      have h9 := Option.some.inj hgg
      omega
  have hne : v2.ownBlock ≠ some p := by
    intro e
    rcases hb with hb | hb
    · exact h.ne (by rw [← hb]; exact e)
    · rw [hb] at e
      have h9 := Option.some.inj e
      omega
  have hs : Chg (fun k => k = p) w1 (w1.setCell ⟨p, 0, none⟩ v2) := Chg.setCell w1 ⟨p, 0, none⟩ v2
  refine ⟨⟨World.cell?_setCell_same _ _ _ h0, by rw [World.frozen?_setCell]; exact z0, ?_, hne⟩, ?_, hfresh, h0, z0⟩
  · rw [encL_snoc, List.length_append]
    exact hs.owns ho (fun g hgg e => hne (by rw [hgg, e]))
  · exact (hc1.mono (fun b _ hb => .inr hb)).trans hs (fun b _ hb => .inl hb)

set_option maxRecDepth 100000 in
set_option maxHeartbeats 2000000 in
theorem refput_any (w : World) (p : Nat) (v : Value) (L : List Bool) (x : Nat) (n : Int) (_hx : x < 18446744073709551616) (h : RInv w p v L) (hL : L.length ≤ 1099511627776) (hn : -9223372036854775808 ≤ n) (hn1 : n < 9223372036854775808) :
    Calls Tryd.prog 37 #[.pointer (some ⟨p, 0, none⟩), .int .u64 x, .int .i64 n] w fun e w' => e = .returned (.tuple #[]) ∧
      ∃ v', RInv w' p v' (L ++ bitsOf x (max (min n 64) 0).toNat) ∧ (∀ g, v'.ownBlock = some g → v.ownBlock = some g ∨ w.heap.size ≤ g) ∧ Chg (fpW p v) w w' := by
  obtain ⟨k, hk⟩ : ∃ k : Nat, Hid ((max (min n 64) 0).toNat = k) := ⟨_, Lib.hid rfl⟩
  rw [hk.out]
  have hk64 : k ≤ 64 := by have := hk.out; omega
  go_enter Tryd.func37, Tryd.ntmps37
  go_upto_region 0 with (fail)
  go_cut [6] from 7 to 10 (fun a wc => a = .int .i64 ((k : Int) - 1) ∧ w = wc)
  case first =>
    go_wp2
    all_goals
      go_meet
      case rel => exact ⟨by have := hk.out; congr 1; omega, rfl⟩
  case rest =>
    obtain ⟨rfl, rfl⟩ := hcut
    have hpl := World.block_lt_of_cell? w _ h.c0
    have Hsplit : Hid (bitsOf x k = (bitsOf x k).take k) := Lib.hid (by rw [List.take_of_length_le (by rw [bitsOf_length]; omega)])
    go_wp2
    go_loopw [6] (fun i wr => ∃ (j : Nat) (v1 : Value), j ≤ k ∧ i = .int .i64 ((k : Int) - 1 - j) ∧ RInv wr p v1 (L ++ (bitsOf x k).take j) ∧ Hid (∀ g, v1.ownBlock = some g → v.ownBlock = some g ∨ w.heap.size ≤ g) ∧ Chg (fpW p v) w wr) (fun i _ => (intOf i + 1).toNat)
    case atStart =>
      refine ⟨0, v, by omega, by congr 1; omega, by simpa using h, Lib.hid (fun g hg => .inl hg), Chg.refl _ _⟩
    case round =>
      obtain ⟨j, v1, hj, rfl, hw, hv1, hch⟩ := hrel
      by_cases hlt : j < k
      · obtain ⟨L', hL'⟩ : ∃ L', Hid (L' = L ++ (bitsOf x k).take j) := ⟨_, Lib.hid rfl⟩
        rw [← hL'.out] at hw
        have hlen : L'.length = L.length + j := by rw [hL'.out, List.length_append, List.length_take, bitsOf_length]; omega
        have hLb : L'.length ≤ 1099511627840 := by omega
        have Hlen := Lib.hid hlen
        clear hlen
        have hw2 := hw
        obtain ⟨c0, f0, own, ne⟩ := hw2
        obtain ⟨i0, hi, hz0, hz1, hz2⟩ := info_parts boolinfo
        obtain ⟨b, hb⟩ : ∃ b, Hid (b = x.testBit (k - 1 - j)) := ⟨_, Lib.hid rfl⟩
        have hs0 : 0 ≤ (k : Int) - 1 - j := by omega
        have hpw : p < wr.heap.size := World.block_lt_of_cell? wr _ c0
        have hpw2 : p ≠ wr.heap.size := Nat.ne_of_lt hpw
        have hbit : (((x : Int) / 2 ^ (k - 1 - j)).tmod 2 == 1) = b := by
          have h2 : x.testBit (k - 1 - j) = decide (x / 2 ^ (k - 1 - j) % 2 = 1) := Nat.testBit_eq_decide_div_mod_eq
          have e : (x : Int) / 2 ^ (k - 1 - j) % 2 = ((x / 2 ^ (k - 1 - j) % 2 : Nat) : Int) := by simp
          rw [Int.tmod_eq_emod_of_nonneg (Int.ediv_nonneg (Int.natCast_nonneg _) (Int.pow_nonneg (by decide))), e, hb.out, h2]
          generalize x / 2 ^ (k - 1 - j) % 2 = y
          by_cases h : y = 1
          · subst h; rfl
          · have h3 : ¬ ((y : Int) = 1) := by omega
            rw [decide_eq_false h, beq_eq_false_iff_ne.mpr h3]
        have h63 : L'.length + 1 ≤ maxLen := by unfold maxLen; omega
        have hby : (L'.length + 1) * 1 ≤ 140737488355328 := by omega
        have hnews : ∀ W : World, ∀ i u, ([Value.bool b] : List Value)[i]? = some u → (W.alloc (.cells #[.bool b] 4)).cell? (Addr.add ⟨W.heap.size, 0, none⟩ i) = some u := by
          intro W i u hu
          match i, hu with
          | 0, hu => simp at hu; subst hu; simp [Addr.add]
          | i + 1, hu => simp at hu
        have Hnews := Lib.hid hnews
        have H63 := Lib.hid h63
        have Hby := Lib.hid hby
        clear hnews h63 hby
        go_upto_region 3 with (fail)
        go_region_law (refine step_append_fp rfl (.tmp 19) (.tmp 25) 32 rfl 0 4 i0 (.bool false) 1 1 Tryd.underlying32 hi hz0 hz1 hz2 rfl (by decide) v1 L'.length (encL L') (by simp [Act.eval]) (own.alloc _) ⟨wr.heap.size, 0, none⟩ 1 1 [.bool b] (by simp [Act.eval]) rfl (Hnews.out wr) (by simp [Value.oneCell']) H63.out Hby.out (Nat.zero_le _) ?_; intro v2 w1 ho hg _ hbk; obtain ⟨g2, cap2, rfl, _, _⟩ := World.ownsRow.form ho (Nat.succ_pos _); obtain ⟨h1, h2, h3, h4, h5⟩ := hw.appended (.inl rfl) hg ho hbk)
        all_goals
          go_wp2
          go_roundw
          case rel =>
            have htk := bitsOf_take x k j hlt
            rw [← hb.out] at htk
            have hL2 : L ++ (bitsOf x k).take (j + 1) = L' ++ [b] := by rw [htk, hL'.out, List.append_assoc]
            refine ⟨j + 1, _, by omega, by congr 1; omega, by rw [hL2]; exact h1, Lib.hid ?_, hch.trans h2 ?_⟩
            · intro g hgg
              rcases h3 g hgg with h6 | h6
              · exact hv1.out g h6
              · right; have := hch.size; omega
            · intro b' hb' hb2
              rcases hb2 with h6 | h6
              · exact .inl h6
              · rcases hv1.out b' h6 with h7 | h7
                · exact .inr h7
                · omega
          case measure => simp [intOf]; omega
      · obtain rfl : j = k := by omega
        go_wp2
        go_end0
        refine ⟨rfl, v1, ?_, hv1.out, hch⟩
        rw [Hsplit.out]; exact hw

theorem shr128 (i : Nat) (hi : i < 8) : (128 : Int) / 2 ^ i = ((2 ^ (7 - i) : Nat) : Int) := by
  have h := pow_128 i hi
  have e : (128 : Int) / 2 ^ i = ((128 / 2 ^ i : Nat) : Int) := by simp
  rw [e, h]

theorem owns_slice {w : World} {base : Nat} {e : TypeId} {size : Nat} {v : Value} {n : Nat} {xs : List Value} (h : w.ownsRow base e size v n xs) : ∃ a cap, v = .slice a n cap := by
  rcases h.2 with ⟨rfl, rfl⟩ | ⟨g, cap, cur, rfl, _⟩
  · exact ⟨none, 0, rfl⟩
  · exact ⟨_, _, rfl⟩

theorem made_row {w : World} (m : Nat) : RowB (w.alloc (.cells (madeCells (Value.int .u8 0).cells (m * 1)) 5)) w.heap.size (List.replicate m 0) := by
  intro j b hj
  have hlt : j < m := by
    rcases Nat.lt_or_ge j m with h | h
    · exact h
    · rw [List.getElem?_eq_none (by simpa using h)] at hj; cases hj
  rw [List.getElem?_replicate, if_pos hlt] at hj
  cases hj
  refine ⟨?_, by simp⟩
  simp [madeCells, hlt, Value.cells, Nat.mod_one]

theorem packN_nil (m : Nat) : packN m [] = List.replicate m 0 := by
  apply List.ext_getElem?
  intro j
  by_cases h : j < m
  · rw [packN_get _ _ _ h, byteAt_out _ _ (by simp), List.getElem?_replicate, if_pos h]; rfl
  · rw [List.getElem?_eq_none (by rw [packN_length]; omega), List.getElem?_eq_none (by simp; omega)]

set_option maxRecDepth 100000 in
set_option maxHeartbeats 2000000 in
theorem rreftext_pos (w : World) (p : Nat) (v : Value) (L : List Bool) (h : RInv w p v L) (hL : L.length ≤ 1099511627840) (hpos : 0 < L.length) :
    Calls Tryd.prog 18 #[.pointer (some ⟨p, 0, none⟩)] w fun e w' => e = .returned (.string (mkS (pack L))) ∧ Below w.heap.size w w' := by
  obtain ⟨c0, f0, own, ne⟩ := h
  have hpl : p < w.heap.size := World.block_lt_of_cell? w _ c0
  obtain ⟨g, cap, rfl, _, hglt⟩ := own.form hpos
  obtain ⟨i0, hi, hz0, hz1, hz2⟩ := info_parts u8info
  obtain ⟨M, hM⟩ : ∃ M : Nat, Hid (M = (L.length + 7) / 8) := ⟨_, Lib.hid rfl⟩
  have hMi : ((L.length : Int) + 7) / 8 = (M : Int) := by rw [hM.out]; omega
  have hMb : M ≤ 137438953500 := by rw [hM.out]; omega
  have hmk := run_make (P := Tryd.prog) w 70 5 i0 (.int .u8 0) Tryd.underlying70 hi hz0 .i64 .i64 (M : Int) (M : Int) (by omega) (by omega) (by rw [hz2]; omega) (by omega)
  rw [hz1] at hmk
  go_enter Tryd.func18, Tryd.ntmps18
  go_wp2
  have hrow := made_row (w := w) M
  have HB : Below w.heap.size w (w.alloc (.cells (madeCells (Value.int .u8 0).cells (M * 1)) 5)) := (Below.refl _ _).alloc (Nat.le_refl _) _
  go_loopw [4] (fun i wr => ∃ j : Nat, j ≤ L.length ∧ i = .int .i64 j ∧ RowB wr w.heap.size (packN M (L.take j)) ∧ Below w.heap.size w wr) (fun i _ => L.length - (intOf i).toNat)
  case atStart =>
    refine ⟨0, by omega, rfl, ?_, by simpa [Value.cells] using HB⟩
    rw [List.take_zero, packN_nil]; simpa [Value.cells] using hrow
  case round =>
    obtain ⟨j, hj, rfl, hr, hb⟩ := hrel
    have hc0 : wr.cell? ⟨p, 0, none⟩ = some (.slice (some ⟨g, 0, none⟩) L.length cap) := by rw [hb.cell (p := ⟨p, 0, none⟩) hpl]; exact c0
    by_cases hlt : j < L.length
    · obtain ⟨b, hbv⟩ : ∃ b, Hid (L[j]? = some b) := ⟨L[j], Lib.hid (by rw [List.getElem?_eq_getElem hlt])⟩
      have hcell : wr.cell? ⟨g, j, none⟩ = some (.bool b) := by
        rw [hb.cell (p := ⟨g, j, none⟩) hglt, own.cellAt j (by omega)]
        simp [encL, hbv.out]
      have htk : L.take (j + 1) = L.take j ++ [b] := by rw [List.take_add_one, hbv.out]; rfl
      have hlen : (L.take j).length = j := by rw [List.length_take]; omega
      have hqM : j / 8 < M := by rw [hM.out]; omega
      have hgl := hr (j / 8) _ (packN_get M (L.take j) (j / 8) hqM)
      have hblt := byteAt_lt (L.take j) (j / 8)
      have hblow := byteAt_low (L.take j)
      rw [hlen] at hblow
      obtain ⟨q, hq⟩ : ∃ q, Hid (q = j / 8) := ⟨_, Lib.hid rfl⟩
      have hqi : (j : Int) / 8 = (q : Int) := by rw [hq.out]; omega
      obtain ⟨r, hrr⟩ : ∃ r, Hid (r = j % 8) := ⟨_, Lib.hid rfl⟩
      have hri : (j : Int) % 8 = (r : Int) := by rw [hrr.out]; omega
      have hr8 : r < 8 := by rw [hrr.out]; omega
      rw [← hq.out] at hgl hblt hblow hqM
      rw [← hrr.out] at hblow
      obtain ⟨u, hu⟩ : ∃ u, Hid (u = byteAt (L.take j) q) := ⟨_, Lib.hid rfl⟩
      rw [← hu.out] at hgl hblt hblow
      have hu2 : (UInt8.ofNat u).toNat = u := by rw [UInt8.toNat_ofNat']; omega
      rw [hu2] at hgl
      obtain ⟨hc1, hz1'⟩ := hgl
      have hsum : u + 2 ^ (7 - r) < 256 := by
        have h8 : 2 ^ (8 - r) = 2 * 2 ^ (7 - r) := by rw [show 8 - r = (7 - r) + 1 from by omega, Nat.pow_succ]; omega
        have h9 : 2 ^ (8 - r) ∣ 256 := ⟨2 ^ r, by rw [← Nat.pow_add, show 8 - r + r = 8 from by omega]⟩
        obtain ⟨c, hc⟩ := Nat.dvd_of_mod_eq_zero hblow
        obtain ⟨d, hd⟩ := h9
        have hp := Nat.two_pow_pos (7 - r)
        rw [h8] at hc hd
        rw [hc, hd] at hblt
        have hcd : c < d := Nat.lt_of_mul_lt_mul_left hblt
        have h10 : 2 * 2 ^ (7 - r) * (c + 1) ≤ 2 * 2 ^ (7 - r) * d := Nat.mul_le_mul_left _ hcd
        rw [Nat.mul_add, Nat.mul_one] at h10
        omega
      have hshr := shr128 r hr8
      obtain ⟨t, ht⟩ : ∃ t, Hid (t = 2 ^ (7 - r)) := ⟨_, Lib.hid rfl⟩
      rw [← ht.out] at hshr hsum
      have hwr : ((u : Int) + (t : Int)) % 256 = ((u : Int) + (t : Int)) := by omega
      have hsm : (t : Int) % 256 = (t : Int) := by omega
      have hwg := hr
      have hblock : w.heap.size < wr.heap.size := World.block_lt_of_cell? wr _ hc1
      have Hblow := Lib.hid hblow
      have Hhtk := Lib.hid htk
      have Hlen := Lib.hid hlen
      clear hblow htk hlen hu2
      go_upto_region 6 with (fail)
      · go_region
        go_wp2
        go_roundw
        case rel =>
          have hps := packN_snoc M (L.take j) true (by rw [Hlen.out, ← hq.out]; exact hqM) (UInt8.ofNat (u + t)) (by rw [UInt8.toNat_ofNat', Hlen.out, ← hq.out, ← hrr.out, pow_128 r hr8, ← ht.out, ← hu.out]; simp; omega)
          rw [Hlen.out, ← hq.out] at hps
          refine ⟨j + 1, by omega, by go_num, ?_, (below_setCell hb (Nat.le_refl _) _).drew⟩
          have hst := RowB.set hr q (by rw [packN_length]; exact hqM) (UInt8.ofNat (u + t))
          have e3 : (((UInt8.ofNat (u + t)).toNat : Nat) : Int) = (u : Int) + (t : Int) := by rw [UInt8.toNat_ofNat']; omega
          rw [e3] at hst
          have e4 : b = true := ‹b = true›
          rw [Hhtk.out, e4, hps]
          exact hst
        case measure => simp [intOf]; omega
      · go_roundw
        case rel =>
          have hps := packN_snoc M (L.take j) false (by rw [Hlen.out, ← hq.out]; exact hqM) (UInt8.ofNat u) (by rw [UInt8.toNat_ofNat', Hlen.out, ← hq.out, ← hu.out]; simp; omega)
          rw [Hlen.out, ← hq.out] at hps
          refine ⟨j + 1, by omega, by go_num, ?_, hb⟩
          have e4 : b = false := ‹b = false›
          rw [Hhtk.out, e4, hps]
          have e5 : (packN M (L.take j)).set q (UInt8.ofNat u) = packN M (L.take j) := by
            apply List.ext_getElem?
            intro i
            rw [List.getElem?_set]
            by_cases e : q = i
            · subst e
              rw [if_pos rfl, if_pos (by rw [packN_length]; exact hqM), packN_get _ _ _ hqM, ← hu.out]
            · rw [if_neg e]
          rw [e5]; exact hr
        case measure => simp [intOf]; omega
    · obtain rfl : j = L.length := by omega
      rw [List.take_of_length_le (Nat.le_refl _)] at hr
      have hc := run_bytes_string (P := Tryd.prog) wr 70 9 5 ⟨w.heap.size, 0, none⟩ M M (packN M L) (by kernel_rfl) (by kernel_rfl) (by kernel_rfl) (packN_length _ _) hr.bytesAt
      go_wp2
      go_ret
      refine ⟨?_, hb⟩
      rw [hM.out]; rfl

set_option maxRecDepth 100000 in
theorem rreftext_nil (w : World) (p : Nat) (v : Value) (h : RInv w p v []) :
    Calls Tryd.prog 18 #[.pointer (some ⟨p, 0, none⟩)] w fun e w' => e = .returned (.string (mkS (pack []))) ∧ Below w.heap.size w w' := by
  obtain ⟨c0, f0, own, ne⟩ := h
  have hpl : p < w.heap.size := World.block_lt_of_cell? w _ c0
  obtain ⟨a, cap, rfl⟩ := owns_slice own
  simp only [List.length_nil] at c0
  obtain ⟨i0, hi, hz0, hz1, hz2⟩ := info_parts u8info
  have hmk := run_make (P := Tryd.prog) w 70 5 i0 (.int .u8 0) Tryd.underlying70 hi hz0 .i64 .i64 (0 : Int) (0 : Int) (by omega) (by omega) (by rw [hz2]; omega) (by omega)
  rw [hz1] at hmk
  have hc : ∀ W : World, (convert 70 9 (.slice (some ⟨w.heap.size, 0, none⟩) 0 0)).run Tryd.prog W = .ok (.string (mkS [])) W := fun W =>
    run_bytes_string (P := Tryd.prog) W 70 9 5 ⟨w.heap.size, 0, none⟩ 0 0 [] (by kernel_rfl) (by kernel_rfl) (by kernel_rfl) rfl (fun j b hj => by simp at hj)
  have hc0 : ∀ o, (w.alloc o).cell? ⟨p, 0, none⟩ = some (.slice a 0 cap) := fun o => by
    rw [((Below.refl w.heap.size w).alloc (Nat.le_refl _) o).cell (p := ⟨p, 0, none⟩) hpl]; exact c0
  go_enter Tryd.func18, Tryd.ntmps18
  go_wp2
  go_loopw [4] (fun i wr => i = .int .i64 0 ∧ ∃ o, wr = w.alloc o) (fun i _ => 0)
  case atStart => exact ⟨rfl, _, rfl⟩
  case round =>
    obtain ⟨rfl, o, rfl⟩ := hrel
    have hcc := hc0 o
    go_wp2
    go_ret
    exact ⟨rfl, (Below.refl _ _).alloc (Nat.le_refl _) _⟩

theorem rreftext_any (w : World) (p : Nat) (v : Value) (L : List Bool) (h : RInv w p v L) (hL : L.length ≤ 1099511627840) :
    Calls Tryd.prog 18 #[.pointer (some ⟨p, 0, none⟩)] w fun e w' => e = .returned (.string (mkS (pack L))) ∧ Below w.heap.size w w' := by
  cases L with
  | nil => exact rreftext_nil w p v h
  | cons b L => exact rreftext_pos w p v (b :: L) h hL (by simp)

end Go.Proofs.YtdegmeclcbndgaaDoor
