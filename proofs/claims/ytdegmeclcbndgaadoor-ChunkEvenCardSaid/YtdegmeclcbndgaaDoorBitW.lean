/- Contracts of the writers of bits, of the program and of the document. -/
import Derived.Test.YtdegmeclcbndgaaDoorMem
import Derived.Test.YtdegmeclcbndgaaDoorBit
import Derived.Test.YtdegmeclcbndgaaDoorDet
import Derived.BigRegion
import Derived.Deep.AppendLies
namespace Go.Proofs.YtdegmeclcbndgaaDoor
open Go.RowKit Bit

def encB (l : List UInt8) : List Value := l.map fun b => Value.int .u8 (b.toNat : Nat)

/-- The program's writer: bytes and a count of bits. -/
structure WInv (w : World) (p : Nat) (v : Value) (bs : List UInt8) (n : Nat) : Prop where
  c0 : w.cell? ⟨p, 0, none⟩ = some v
  c1 : w.cell? ⟨p, 1, none⟩ = some (.int .i64 (n : Nat))
  f0 : w.frozen? ⟨p, 0, none⟩ = false
  f1 : w.frozen? ⟨p, 1, none⟩ = false
  own : w.ownsRow 0 5 1 v bs.length (encB bs)
  ne : v.ownBlock ≠ some p

def fpW (p : Nat) (v : Value) : Nat → Prop := fun k => k = p ∨ v.ownBlock = some k

theorem WInv.keep {F : Nat → Prop} {w w' : World} {p : Nat} {v : Value} {bs : List UInt8} {n : Nat} (h : WInv w p v bs n) (hc : Chg F w w') (hf : ∀ k, fpW p v k → ¬ F k) : WInv w' p v bs n := by
  have hp : ¬ F p := hf p (.inl rfl)
  have hlt := World.block_lt_of_cell? w _ h.c0
  exact ⟨hc.cell h.c0 hp, hc.cell h.c1 hp, by rw [hc.frozen (a := ⟨p, 0, none⟩) hlt hp]; exact h.f0, by rw [hc.frozen (a := ⟨p, 1, none⟩) hlt hp]; exact h.f1,
    hc.owns h.own (fun g hg => hf g (.inr hg)), h.ne⟩

theorem newwriter_any (w : World) : Calls Tryd.prog 13 #[] w fun e w' => e = .returned (.pointer (some ⟨w.heap.size, 0, none⟩)) ∧ WInv w' w.heap.size (.slice none 0 0) [] 0 ∧ Below w.heap.size w w' := by
  go_enter Tryd.func13, Tryd.ntmps13
  go_wp2
  go_ret
  refine ⟨rfl, ⟨by simp, by simp, by simp, by simp, World.ownsRow_nil _ _ _ _, by simp [Value.ownBlock]⟩, (Below.refl _ _).alloc (Nat.le_refl _) _⟩

theorem len_any (w : World) (p : Nat) (v : Value) (bs : List UInt8) (n : Nat) (h : WInv w p v bs n) : Calls Tryd.prog 16 #[.pointer (some ⟨p, 0, none⟩)] w fun e w' => e = .returned (.int .i64 (n : Nat)) ∧ w = w' := by
  obtain ⟨c0, c1, f0, f1, own, ne⟩ := h
  go_enter Tryd.func16, Tryd.ntmps16
  go_wp2
  go_ret
  exact ⟨rfl, rfl⟩

theorem own_string {P : Program} {w : World} {base n : Nat} {e' src dst e : TypeId} {v : Value} {bs : List UInt8} (hs : P.underlying src = some (.slice e)) (he : P.underlying e = some (.int .u8)) (hd : P.underlying dst = some .string)
    (h : w.ownsRow base e' 1 v n (encB bs)) : (convert src dst v).run P w = .ok (.string (mkS bs)) w := by
  have hl : bs.length = n := by have := h.1; simpa [encB] using this
  rcases h.2 with ⟨rfl, hn⟩ | ⟨g, cap, cur, rfl, _, hg, hnc, _, hcs, htake⟩
  · have : bs = [] := List.length_eq_zero_iff.mp (by omega)
    subst this
    rw [run_convert_bytes_string w src dst e _ _ _ hs he hd]; rfl
  · refine run_bytes_string w src dst e ⟨g, 0, none⟩ n cap bs hs he hd hl ?_
    intro j b hb
    refine h.cells rfl j _ ?_
    simp [encB, hb]

theorem text_any (w : World) (p : Nat) (v : Value) (bs : List UInt8) (n : Nat) (h : WInv w p v bs n) : Calls Tryd.prog 17 #[.pointer (some ⟨p, 0, none⟩)] w fun e w' => e = .returned (.string (mkS bs)) ∧ w = w' := by
  obtain ⟨c0, c1, f0, f1, own, ne⟩ := h
  have hc := own_string (P := Tryd.prog) (src := 70) (dst := 9) (e := 5) (by kernel_rfl) (by kernel_rfl) (by kernel_rfl) own
  go_enter Tryd.func17, Tryd.ntmps17
  go_wp2
  go_ret
  exact ⟨rfl, rfl⟩

theorem encB_snoc (l : List UInt8) (b : UInt8) : encB (l ++ [b]) = encB l ++ [.int .u8 (b.toNat : Nat)] := by simp [encB]

theorem u8info : (Tryd.prog.info? 5).map (fun i => (i.zero, i.size, i.bytes)) = some (some (.int .u8 0), 1, 1) := by kernel_rfl

/-- Behind the append of one byte and the store of the new slice. -/
theorem WInv.appended {wr w1 : World} {p : Nat} {v1 v2 : Value} {bs : List UInt8} {n : Nat} {o : Obj} (h : WInv wr p v1 bs n)
    (hg : (wr.alloc o).grownBy w1 v1.ownBlock) (ho : w1.ownsRow 0 5 1 v2 (bs.length + 1) (encB bs ++ [.int .u8 0])) (hb : v2.ownBlock = v1.ownBlock ∨ v2.ownBlock = some (wr.alloc o).heap.size) :
    WInv (w1.setCell ⟨p, 0, none⟩ v2) p v2 (bs ++ [0]) n ∧ Chg (fpW p v1) wr (w1.setCell ⟨p, 0, none⟩ v2) ∧ (∀ g, v2.ownBlock = some g → v1.ownBlock = some g ∨ wr.heap.size ≤ g) ∧ w1.cell? ⟨p, 0, none⟩ = some v1 ∧ w1.frozen? ⟨p, 0, none⟩ = false := by
  have hp : p < wr.heap.size := World.block_lt_of_cell? wr _ h.c0
  have hp' : p ≠ wr.heap.size := fun e => by rw [← e] at hp; exact Nat.lt_irrefl _ hp
  have hc1 : Chg (fun k => v1.ownBlock = some k) wr w1 := (Chg.alloc (fun k => v1.ownBlock = some k) wr o).trans (Chg.grown hg) (fun b _ hb => hb.symm)
  have h0 := hc1.cell h.c0 h.ne
  have h1 := hc1.cell h.c1 h.ne
  have z0 : w1.frozen? ⟨p, 0, none⟩ = false := by rw [hc1.frozen (a := ⟨p, 0, none⟩) hp h.ne]; exact h.f0
  have z1 : w1.frozen? ⟨p, 1, none⟩ = false := by rw [hc1.frozen (a := ⟨p, 1, none⟩) hp h.ne]; exact h.f1
  have hfresh : ∀ g, v2.ownBlock = some g → v1.ownBlock = some g ∨ wr.heap.size ≤ g := by
    intro g hgg
    rcases hb with hb | hb
    · exact .inl (by rw [← hb]; exact hgg)
    · rw [hb] at hgg; right
      have h9 := Option.some.inj hgg
      have hsz : (wr.alloc o).heap.size = wr.heap.size + 1 := by simp
      rw [hsz] at h9; rw [← h9]; exact Nat.le_succ _
  have hne : v2.ownBlock ≠ some p := by
    intro e
    rcases hb with hb | hb
    · exact h.ne (by rw [← hb]; exact e)
    · rw [hb] at e
      have h9 := Option.some.inj e
      have hsz : (wr.alloc o).heap.size = wr.heap.size + 1 := by simp
      omega
  have hs : Chg (fun k => k = p) w1 (w1.setCell ⟨p, 0, none⟩ v2) := Chg.setCell w1 ⟨p, 0, none⟩ v2
  refine ⟨⟨World.cell?_setCell_same _ _ _ h0, ?_, by rw [World.frozen?_setCell]; exact z0, by rw [World.frozen?_setCell]; exact z1, ?_, hne⟩, ?_, hfresh, h0, z0⟩
  · rw [World.cell?_setCell_other _ _ _ _ (by simp)]; exact h1
  · have e : encB (bs ++ [0]) = encB bs ++ [.int .u8 0] := encB_snoc bs 0
    rw [e, List.length_append]
    exact hs.owns ho (fun g hgg e => hne (by rw [hgg, e]))
  · exact (hc1.mono (fun b _ hb => .inr hb)).trans hs (fun b _ hb => .inl hb)

theorem bit_val (x s : Nat) : bits .and .u8 ((x : Int) / 2 ^ s % 256) 1 = if x.testBit s then 1 else 0 := by
  have e : (x : Int) / 2 ^ s % 256 = ((x / 2 ^ s % 256 : Nat) : Int) := by simp
  rw [e]
  have h2 : x.testBit s = decide (x / 2 ^ s % 2 = 1) := Nat.testBit_eq_decide_div_mod_eq
  rw [h2]
  generalize x / 2 ^ s = y
  have h := bits_mask .u8 8 (by decide) wraps_u8 1 (by decide) ((y % 256 : Nat) : Int) (by omega) (by omega)
  have h3 : ((2 : Int) ^ 1 - 1) = 1 := by decide
  rw [h3] at h
  rw [h]
  by_cases hb : y % 2 = 1
  · simp only [hb, decide_true, if_true]; omega
  · simp only [hb, decide_false, Bool.false_eq_true, if_false]; omega

/-- Behind the store of a byte, and of the count. -/
theorem WInv.stored {wc : World} {p g cap n q : Nat} {bs : List UInt8} (h : WInv wc p (.slice (some ⟨g, 0, none⟩) bs.length cap) bs n) (y : UInt8) (m : Nat) :
    WInv ((wc.setCell ⟨g, q, none⟩ (.int .u8 (y.toNat : Nat))).setCell ⟨p, 1, none⟩ (.int .i64 (m : Nat))).drew p (.slice (some ⟨g, 0, none⟩) bs.length cap) (bs.set q y) m ∧
    Chg (fpW p (.slice (some ⟨g, 0, none⟩) bs.length cap)) wc ((wc.setCell ⟨g, q, none⟩ (.int .u8 (y.toNat : Nat))).setCell ⟨p, 1, none⟩ (.int .i64 (m : Nat))).drew := by
  obtain ⟨c0, c1, f0, f1, own, ne⟩ := h
  have hgp : g ≠ p := fun e => ne (by rw [e]; rfl)
  have hs := own.stored q (.int .u8 (y.toNat : Nat))
  have hch1 : Chg (fun k => k = g) wc (wc.setCell ⟨g, q, none⟩ (.int .u8 (y.toNat : Nat))) := Chg.setCell wc ⟨g, q, none⟩ _
  have hch2 := Chg.setCell (wc.setCell ⟨g, q, none⟩ (.int .u8 (y.toNat : Nat))) ⟨p, 1, none⟩ (.int .i64 (m : Nat))
  have e0 := hch1.cell c0 (fun e => hgp e.symm)
  have e1 := hch1.cell c1 (fun e => hgp e.symm)
  have ee : encB (bs.set q y) = (encB bs).set q (.int .u8 (y.toNat : Nat)) := by simp [encB, List.map_set]
  refine ⟨⟨?_, ?_, ?_, ?_, ?_, ne⟩, ?_⟩
  · show ((wc.setCell ⟨g, q, none⟩ _).setCell ⟨p, 1, none⟩ _).cell? _ = _
    rw [World.cell?_setCell_other _ _ _ _ (by simp)]; exact e0
  · show ((wc.setCell ⟨g, q, none⟩ _).setCell ⟨p, 1, none⟩ _).cell? _ = _
    exact World.cell?_setCell_same _ _ _ e1
  · show ((wc.setCell ⟨g, q, none⟩ _).setCell ⟨p, 1, none⟩ _).frozen? _ = _
    rw [World.frozen?_setCell, World.frozen?_setCell]; exact f0
  · show ((wc.setCell ⟨g, q, none⟩ _).setCell ⟨p, 1, none⟩ _).frozen? _ = _
    rw [World.frozen?_setCell, World.frozen?_setCell]; exact f1
  · have h1 := hch2.owns hs.1 (fun g' hg' e => by cases hg'; exact hgp e)
    rw [ee, List.length_set]
    exact h1
  · exact ((hch1.mono (G := fpW p (.slice (some ⟨g, 0, none⟩) bs.length cap)) (fun b _ hb => .inr (by rw [hb]; rfl))).trans hch2 (fun b _ hb => .inl hb)).trans (Chg.drew (fun _ => False) _) (fun _ _ h => h.elim)

theorem or_bit (a t r : Nat) (ha : a < 256) (hlow : a % 2 ^ (8 - r) = 0) (ht : t ≤ 1) (hr : r < 8) : ∃ y : UInt8, bits .or .u8 (a : Int) ((t : Int) * 2 ^ (7 - r) % 256) = ((y.toNat : Nat) : Int) ∧ y.toNat = a + t * 2 ^ (7 - r) := by
  have hp : 2 ^ (8 - r) = 2 * 2 ^ (7 - r) := by rw [show 8 - r = (7 - r) + 1 from by omega, Nat.pow_succ]; omega
  have hp2 : 2 ^ (7 - r) ≤ 2 ^ 7 := Nat.pow_le_pow_right (by decide) (by omega)
  have hpos := Nat.two_pow_pos (7 - r)
  have hd : a / 2 ^ (8 - r) * 2 ^ (8 - r) = a := Nat.div_mul_cancel (Nat.dvd_of_mod_eq_zero hlow)
  have hq : 2 ^ (8 - r) * 2 ^ r = 256 := by rw [← Nat.pow_add, show 8 - r + r = 8 from by omega]
  have htle : t * 2 ^ (7 - r) ≤ 2 ^ (7 - r) := by
    calc t * 2 ^ (7 - r) ≤ 1 * 2 ^ (7 - r) := Nat.mul_le_mul_right _ ht
      _ = 2 ^ (7 - r) := Nat.one_mul _
  have hsum : a + t * 2 ^ (7 - r) < 256 := by
    have h1 : a / 2 ^ (8 - r) < 2 ^ r := by
      apply Nat.div_lt_of_lt_mul; rw [hq]; exact ha
    have h2 : (a / 2 ^ (8 - r) + 1) * 2 ^ (8 - r) ≤ 2 ^ r * 2 ^ (8 - r) := Nat.mul_le_mul_right _ h1
    rw [Nat.add_mul, Nat.one_mul, hd, Nat.mul_comm (2 ^ r), hq] at h2
    omega
  refine ⟨UInt8.ofNat (a + t * 2 ^ (7 - r)), ?_, by rw [UInt8.toNat_ofNat']; omega⟩
  have e1 : (t : Int) * 2 ^ (7 - r) % 256 = ((t * 2 ^ (7 - r) : Nat) : Int) := by
    have h3 : ((t * 2 ^ (7 - r) : Nat) : Int) = (t : Int) * 2 ^ (7 - r) := by simp
    rw [← h3]; exact Int.emod_eq_of_lt (Int.natCast_nonneg _) (by omega)
  have hc : ((2 : Int) ^ (8 - r)) = ((2 ^ (8 - r) : Nat) : Int) := by simp
  rw [e1, bits_join .u8 8 (by decide) wraps_u8 (8 - r) (a : Int) ((t * 2 ^ (7 - r) : Nat) : Int) (Int.natCast_nonneg _) (by rw [hc]; exact_mod_cast hlow) (by omega) (Int.natCast_nonneg _) (by rw [hc]; omega) (by omega)]
  rw [UInt8.toNat_ofNat']
  omega
theorem pow_128 (r : Nat) (hr : r < 8) : 128 / 2 ^ r = 2 ^ (7 - r) := by
  have : (128 : Nat) = 2 ^ 7 := by decide
  rw [this, Nat.pow_div (by omega) (by decide)]

set_option maxRecDepth 100000 in
set_option maxHeartbeats 2000000 in
theorem put_any (w : World) (p : Nat) (v : Value) (L : List Bool) (x : Nat) (n : Int) (_hx : x < 18446744073709551616) (h : WInv w p v (pack L) L.length) (hL : L.length ≤ 1099511627776) (hn : -9223372036854775808 ≤ n) (hn1 : n < 9223372036854775808) :
    Calls Tryd.prog 33 #[.pointer (some ⟨p, 0, none⟩), .int .u64 x, .int .i64 n] w fun e w' => e = .returned (.tuple #[]) ∧
      ∃ v', WInv w' p v' (pack (L ++ bitsOf x (max (min n 64) 0).toNat)) (L.length + (max (min n 64) 0).toNat) ∧ (∀ g, v'.ownBlock = some g → v.ownBlock = some g ∨ w.heap.size ≤ g) ∧ Chg (fpW p v) w w' := by
  obtain ⟨k, hk⟩ : ∃ k : Nat, Hid ((max (min n 64) 0).toNat = k) := ⟨_, Lib.hid rfl⟩
  rw [hk.out]
  go_enter Tryd.func33, Tryd.ntmps33
  go_upto_region 0 with (fail)
  go_cut [2] from 8 to 9 (fun a wc => a = .int .i64 (min n 64) ∧ w = wc)
  case first =>
    go_wp2
    all_goals
      go_meet
      case rel => exact ⟨by congr 1; omega, rfl⟩
  case rest =>
    obtain ⟨rfl, rfl⟩ := hcut
    obtain ⟨m, hm⟩ : ∃ m : Int, Hid (m = min n 64) := ⟨_, Lib.hid rfl⟩
    rw [← hm.out]
    have hm1 : m ≤ 64 := by have := hm.out; omega
    have hm2 : -9223372036854775808 ≤ m := by have := hm.out; omega
    have hkm : (m : Int) ≤ k := by have := hm.out; have := hk.out; omega
    have hkm2 : 0 < k → m = k := by have := hm.out; have := hk.out; omega
    have hkm3 : m < 0 → k = 0 := by have := hm.out; have := hk.out; omega
    have hk64 : k ≤ 64 := by have := hk.out; omega
    have Hkm2 := Lib.hid hkm2
    have Hkm3 := Lib.hid hkm3
    clear hkm2 hkm3
    go_upto_region 1 with (fail)
    go_cut [11, 12] from 10 to 12 (fun a b wc => a = .int .i64 k ∧ b = .int .i64 0 ∧ w = wc)
    case first =>
      go_wp2
      all_goals
        go_meet
        case rel =>
          have h2 := Hkm2.out
          have h3 := Hkm3.out
          exact ⟨by congr 1; omega, rfl, rfl⟩
    case rest =>
      obtain ⟨rfl, rfl, rfl⟩ := hcut
      have hpl := World.block_lt_of_cell? w _ h.c0
      have Hsplit : Hid (bitsOf x k = (bitsOf x k).take k) := Lib.hid (by rw [List.take_of_length_le (by rw [bitsOf_length]; omega)])
      go_wp2
      go_loopw [12] (fun i wr => ∃ (j : Nat) (v1 : Value), j ≤ k ∧ i = .int .i64 j ∧ WInv wr p v1 (pack (L ++ (bitsOf x k).take j)) (L.length + j) ∧ Hid (∀ g, v1.ownBlock = some g → v.ownBlock = some g ∨ w.heap.size ≤ g) ∧ Chg (fpW p v) w wr) (fun i _ => k - (intOf i).toNat)
      case atStart =>
        refine ⟨0, v, by omega, rfl, by simpa using h, Lib.hid (fun g hg => .inl hg), Chg.refl _ _⟩
      case round =>
        obtain ⟨j, v1, hj, rfl, hw, hv1, hch⟩ := hrel
        by_cases hlt : j < k
        · have hmk := Hkm2.out (by omega)
          subst hmk
          obtain ⟨L', hL'⟩ : ∃ L', Hid (L' = L ++ (bitsOf x k).take j) := ⟨_, Lib.hid rfl⟩
          rw [← hL'.out] at hw
          have hlen : L'.length = L.length + j := by rw [hL'.out, List.length_append, List.length_take, bitsOf_length]; omega
          rw [← hlen] at hw
          have hLb : L'.length ≤ 1099511627840 := by omega
          have Hlen := Lib.hid hlen
          clear hlen
          have hw2 := hw
          obtain ⟨c0, c1, f0, f1, own, ne⟩ := hw2
          obtain ⟨i0, hi, hz0, hz1, hz2⟩ := info_parts u8info
          have hpk : (pack L').length = (L'.length + 7) / 8 := pack_length L'
          have Hpk := Lib.hid hpk
          clear hpk
          go_upto_if 20 with (fail)
          go_cut [] from 20 to 29 (fun wc => ∃ v2, WInv wc p v2 (packN (L'.length / 8 + 1) L') L'.length ∧ Hid (∀ g, v2.ownBlock = some g → v.ownBlock = some g ∨ w.heap.size ≤ g) ∧ Chg (fpW p v) w wc)
          case first =>
            go_wp2_with ((at_builtin; refine wpList_append_fp rfl _ _ 70 rfl 0 5 i0 (.int .u8 0) 1 1 Tryd.underlying70 hi hz0 hz1 hz2 rfl (by decide) _ _ _ rfl (own.alloc _) ⟨wr.heap.size, 0, none⟩ 1 1 [.int .u8 0] rfl rfl ?c1 ?c2 ?c3 ?c4 ?c5 ?_))
            case c2 => rfl
            case c3 => have := Hpk.out; unfold maxLen; omega
            case c4 => have := Hpk.out; omega
            · intro v2 w1 ho hg _ hbk
              obtain ⟨g2, cap2, rfl, _, _⟩ := ho.form (Nat.succ_pos _)
              obtain ⟨h1, h2, h3, h4, h5⟩ := hw.appended hg ho (by simpa using hbk)
              go_wp2
              go_meet
              case rel =>
                have h8 : L'.length % 8 = 0 := by have := beq_iff_eq.mp ‹((L'.length : Int) % 8 == 0) = true›; omega
                refine ⟨_, by rw [packN_more _ h8]; exact h1, Lib.hid ?_, hch.trans h2 ?_⟩
                · intro g hgg
                  rcases h3 g hgg with h6 | h6
                  · exact hv1.out g h6
                  · right; have := hch.size; omega
                · intro b hb hb2
                  rcases hb2 with h6 | h6
                  · exact .inl h6
                  · rcases hv1.out b h6 with h7 | h7
                    · exact .inr h7
                    · omega
            · go_meet
              case rel =>
                have h8 : ¬ L'.length % 8 = 0 := by have := beq_eq_false_iff_ne.mp ‹((L'.length : Int) % 8 == 0) = false›; omega
                have e8 : L'.length / 8 + 1 = (L'.length + 7) / 8 := by omega
                exact ⟨v1, by rw [e8]; exact hw, hv1, hch⟩
          case rest =>
            obtain ⟨v2, hw2, hv2, hch2⟩ := hcut
            have Hw2 := hw2
            obtain ⟨c0, c1, f0, f1, own, ne⟩ := hw2
            rw [packN_length] at own
            obtain ⟨g, cap, rfl, _, hglt⟩ := own.form (Nat.succ_pos _)
            have hgp : g ≠ p := fun e => ne (by rw [e]; rfl)
            have hblt := byteAt_lt L' (L'.length / 8)
            have hblow := byteAt_low L'
            have hcell : wc.cell? ⟨g, L'.length / 8, none⟩ = some (.int .u8 (byteAt L' (L'.length / 8) : Nat)) := by
              rw [own.cellAt _ (by omega)]
              simp only [encB, List.getElem?_map, packN_get _ _ _ (Nat.lt_succ_self _), Option.map_some, UInt8.toNat_ofNat']
              congr 2; omega
            have hfz := own.frozenAt (L'.length / 8)
            obtain ⟨r, hr⟩ : ∃ r, Hid (r = L'.length % 8) := ⟨_, Lib.hid rfl⟩
            have hri : (L'.length : Int) % 8 = (r : Int) := by rw [hr.out]; omega
            have hr8 : r < 8 := by rw [hr.out]; omega
            obtain ⟨q, hq⟩ : ∃ q, Hid (q = L'.length / 8) := ⟨_, Lib.hid rfl⟩
            rw [← hq.out] at hcell hfz hblt hblow own c0 hv2 ne
            rw [← hr.out] at hblow
            have Hblow := Lib.hid hblow
            have hqb : q ≤ 137438953480 := by rw [hq.out]; omega
            obtain ⟨b, hb⟩ : ∃ b, Hid (b = x.testBit (k - 1 - j)) := ⟨_, Lib.hid rfl⟩
            obtain ⟨t, ht, ht1⟩ : ∃ t : Nat, Hid (t = if b then 1 else 0) ∧ t ≤ 1 := ⟨_, Lib.hid rfl, by split <;> omega⟩
            have hbv : bits BinOp.and IntKind.u8 ((x : Int) / 2 ^ (k - 1 - j) % 256) 1 = (t : Int) := by
              rw [bit_val, ← hb.out, ht.out]; split <;> rfl
            obtain ⟨y, hy, hy2⟩ := or_bit (byteAt L' q) t r hblt hblow ht1 hr8
            have Hy2 := Lib.hid hy2
            clear hblow hy2
            have hpg : p ≠ g := fun e => hgp e.symm
            go_upto_region 7 with (fail)
            go_region
            go_wp2
            go_roundw
            case rel =>
              have hst := WInv.stored (q := q) (bs := packN (q + 1) L') (g := g) (cap := cap) (by rw [packN_length, hq.out]; exact Hw2) y (L'.length + 1)
              rw [packN_length] at hst
              have hbt : (if b then 128 / 2 ^ (L'.length % 8) else 0) = t * 2 ^ (7 - r) := by
                rw [ht.out, ← hr.out, pow_128 r hr8]
                cases b <;> simp
              have hps := packN_snoc (q + 1) L' b (by rw [← hq.out]; omega) y (by rw [← hq.out, hbt]; exact Hy2.out)
              rw [← hq.out] at hps
              have htk := bitsOf_take x k j hlt
              rw [← hb.out] at htk
              have hL2 : L ++ (bitsOf x k).take (j + 1) = L' ++ [b] := by rw [htk, hL'.out, List.append_assoc]
              have hpk2 : pack (L' ++ [b]) = packN (q + 1) (L' ++ [b]) := by
                unfold pack; rw [List.length_append, List.length_singleton]
                congr 1; rw [hq.out]; omega
              refine ⟨j + 1, _, by omega, by go_num, ?_, hv2, hch2.trans hst.2 ?_⟩
              · rw [hL2, hpk2, hps, show L.length + (j + 1) = L'.length + 1 from by rw [Hlen.out]; omega]
                have e : (((L'.length + 1 : Nat) : Int)) = (L'.length : Int) + 1 := by omega
                rw [e] at hst
                exact hst.1
              · intro b' hb' h6
                rcases h6 with h6 | h6
                · exact .inl h6
                · rcases hv2.out b' h6 with h7 | h7
                  · exact .inr h7
                  · omega
            case measure => simp [intOf]; omega
        · obtain rfl : j = k := by omega
          go_wp2
          go_end0
          refine ⟨rfl, v1, ?_, hv1.out, hch⟩
          rw [Hsplit.out]; exact hw
end Go.Proofs.YtdegmeclcbndgaaDoor
