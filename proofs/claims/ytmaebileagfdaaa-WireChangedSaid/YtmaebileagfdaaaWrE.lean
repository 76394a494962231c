/- The program's encoder of messages. -/
import Derived.Test.YtmaebileagfdaaaWrD
import Derived.Test.YtmaebileagfdaaaBld
import Derived.Test.YtmaebileagfdaaaFrameP
namespace Go.Proofs.Ytmaebileagfdaaa
open Go.RowKit Dig Wr

namespace Wr
def numsOf (m : Msg) : List Nat := [m.k.toNat, m.e.toNat, m.b.toNat, m.l.toNat, m.la.toNat, m.ap.toNat, m.su, m.rs.length]
def numsB (l : List Nat) : List UInt8 := l.flatMap numB
def textsB (rs : List ByteArray) : List UInt8 := rs.flatMap fun r => textB r.data.toList
/-- The data of a message. -/
def bodyW (m : Msg) : List UInt8 := numsB (numsOf m) ++ textsB m.rs ++ textB m.tx.data.toList
/-- The bytes of a message, and what is wrong with it. -/
def encW (m : Msg) : List UInt8 × Nat := if chk m ≠ 0 then ([], chk m) else Frm.put 7 (bodyW m)

/-- What is known of a message that is right. -/
theorem chk_ok {m : Msg} (h : chk m = 0) : 1 ≤ m.k ∧ m.k ≤ 5 ∧ 1 ≤ m.e ∧ m.e ≤ 99999999 ∧ 0 ≤ m.b ∧ m.b ≤ 99999999 ∧ 0 ≤ m.l ∧ m.l ≤ 99999999 ∧ 0 ≤ m.la ∧ m.la ≤ 16777216 ∧ 0 ≤ m.ap ∧ m.ap ≤ 99999999 ∧ m.rs.length ≤ 4 ∧ (∀ r ∈ m.rs, r.size ≤ 65536) ∧ m.tx.size ≤ 256 := by
  unfold chk at h
  split at h
  · omega
  · rename_i hk
    split at h
    · rename_i ho
      unfold okB headB inB at ho
      simp only [Bool.and_eq_true, decide_eq_true_eq] at ho
      obtain ⟨⟨⟨h1, h2⟩, ⟨h3, h4⟩, ⟨h5, h6⟩, h7, h8⟩, h9⟩ := ho
      refine ⟨by omega, by omega, by omega, h2, by omega, h4, by omega, h6, ?_⟩
      split at h9
      · unfold dataB noB recsB at h9
        simp only [Bool.and_eq_true, decide_eq_true_eq, List.all_eq_true] at h9
        obtain ⟨⟨⟨⟨⟨a1, a2⟩, a3⟩, a4⟩, a5⟩, a6, a7⟩ := h9
        exact ⟨by omega, by omega, h7, h8, a7, fun r hr => (a6 r hr).2, by omega⟩
      · split at h9
        · unfold pieceB at h9
          simp only [Bool.and_eq_true, decide_eq_true_eq] at h9
          obtain ⟨⟨⟨⟨⟨a1, a2⟩, a3⟩, a4⟩, a5⟩, a6⟩ := h9
          have : m.rs = [] := List.length_eq_zero_iff.mp a1
          exact ⟨by omega, a5, h7, h8, by omega, by rw [this]; intro r hr; simp at hr, a3⟩
        · have hb : bareB m = true := by
            split at h9 <;> (simp only [Bool.and_eq_true] at h9; exact h9.1)
          unfold bareB noB at hb
          simp only [Bool.and_eq_true, decide_eq_true_eq] at hb
          obtain ⟨⟨⟨⟨a1, a2⟩, a3⟩, a4⟩, a5⟩ := hb
          have : m.rs = [] := List.length_eq_zero_iff.mp a5
          exact ⟨by omega, by omega, h7, h8, by omega, by rw [this]; intro r hr; simp at hr, by omega⟩
    · cases h
theorem numsB_snoc (l : List Nat) (n : Nat) : numsB (l ++ [n]) = numsB l ++ numB n := by simp [numsB]
theorem textsB_snoc (l : List ByteArray) (r : ByteArray) : textsB (l ++ [r]) = textsB l ++ textB r.data.toList := by simp [textsB]
theorem numB_len (n : Nat) (h : n < 18446744073709551616) : (numB n).length ≤ 9 := by have := dig_len8 n h; unfold numB; simp; omega
theorem numsB_len (l : List Nat) (h : ∀ n ∈ l, n < 18446744073709551616) : (numsB l).length ≤ 9 * l.length := by
  induction l with
  | nil => simp [numsB]
  | cons a l ih =>
    have h1 := ih (fun n hn => h n (List.mem_cons_of_mem _ hn))
    have h2 := numB_len a (h a (List.mem_cons_self ..))
    simp only [numsB, List.flatMap_cons, List.length_append, List.length_cons] at h1 ⊢
    omega
theorem textsB_len (l : List ByteArray) (h : ∀ r ∈ l, r.size ≤ 65536) : (textsB l).length ≤ 65545 * l.length := by
  induction l with
  | nil => simp [textsB]
  | cons a l ih =>
    have h1 := ih (fun n hn => h n (List.mem_cons_of_mem _ hn))
    have h2 := textB_len a.data.toList (by rw [← size_toList]; have := h a (List.mem_cons_self ..); omega)
    have h3 := h a (List.mem_cons_self ..)
    rw [← size_toList] at h2
    simp only [textsB, List.flatMap_cons, List.length_append, List.length_cons] at h1 ⊢
    omega
end Wr
theorem aix (v0 v1 v2 v3 v4 v5 v6 v7 : Int) (w : World) (j : Nat) (hj : j < 8) :
    (Instr.index 111 (.agg #[.int .i64 v0, .int .i64 v1, .int .i64 v2, .int .i64 v3, .int .i64 v4, .int .i64 v5, .int .i64 v6, .int .i64 v7]) (.int .i64 (j : Nat))).run Try.prog w = .ok (.int .i64 ([v0, v1, v2, v3, v4, v5, v6, v7].getD j 0)) w := by
  rcases (by omega : j = 0 ∨ j = 1 ∨ j = 2 ∨ j = 3 ∨ j = 4 ∨ j = 5 ∨ j = 6 ∨ j = 7) with rfl | rfl | rfl | rfl | rfl | rfl | rfl | rfl <;> kernel_rfl

theorem Chg.of_belowB {B : Nat} {w w' : World} (h : Below B w w') : Chg (fun k => ¬ k < B) w w' := ⟨h.os, h.tape, h.output, h.size, fun k _ hf => h.block k (Classical.not_not.mp hf)⟩

set_option maxRecDepth 100000 in
set_option maxHeartbeats 4000000 in
theorem encode_any (m : Msg) (hm : MWf m) (hsu : m.su < 4294967296) (a : Option Addr) (n c : Nat) (hn : m.rs.length = n) (hb : n ≤ 4611686018427387904) (w : World) (hr : RowS w a m.rs) :
    Calls Try.prog 37 #[msgV m a n c] w fun e w' => e = .returned (.tuple #[.string (mkS (encW m).1), .int .i64 ((encW m).2 : Nat)]) ∧ Below w.heap.size w w' := by
  obtain ⟨k, e, b1, l, la, ap, su, rs, tx⟩ := m
  simp only at hn hr hsu
  obtain ⟨E, hE⟩ : ∃ E, Hid (chk ⟨k, e, b1, l, la, ap, su, rs, tx⟩ = E) := ⟨_, Lib.hid rfl⟩
  obtain ⟨F, hF⟩ : ∃ F, Hid (encW ⟨k, e, b1, l, la, ap, su, rs, tx⟩ = F) := ⟨_, Lib.hid rfl⟩
  have CK := fun W h => wcheck_any ⟨k, e, b1, l, la, ap, su, rs, tx⟩ hm a n c hn hb W h
  rw [hE.out] at CK
  rw [hF.out]
  have h0 := RowV.new w [.int .i64 k, .int .i64 e, .int .i64 b1, .int .i64 l, .int .i64 la, .int .i64 ap, .int .u32 (su : Nat), .slice a n c, .string tx] 80
  have hb0 : Below w.heap.size w (w.alloc (.cells #[.int .i64 k, .int .i64 e, .int .i64 b1, .int .i64 l, .int .i64 la, .int .i64 ap, .int .u32 (su : Nat), .slice a n c, .string tx] 80)) := (Below.refl _ _).alloc (Nat.le_refl _) _
  obtain ⟨W1, hW1⟩ : ∃ W1, Hid (W1 = w.alloc (.cells #[.int .i64 k, .int .i64 e, .int .i64 b1, .int .i64 l, .int .i64 la, .int .i64 ap, .int .u32 (su : Nat), .slice a n c, .string tx] 80)) := ⟨_, Lib.hid rfl⟩
  obtain ⟨p, hp⟩ : ∃ p, Hid (p = w.heap.size) := ⟨_, Lib.hid rfl⟩
  have hx1 : RowV W1 p [.int .i64 k, .int .i64 e, .int .i64 b1, .int .i64 l, .int .i64 la, .int .i64 ap, .int .u32 (su : Nat), .slice a n c, .string tx] := by rw [hW1.out, hp.out]; exact h0
  have hb1 : Below w.heap.size w W1 := by rw [hW1.out]; exact hb0
  have hr1 := hr.below hb1
  have CK1 := CK W1 hr1
  unfold msgV at CK1 ⊢
  simp only at CK1 ⊢
  clear h0 hb0 CK
  have pb0 := (hx1 0 _ rfl).1
  have pb1 := (hx1 1 _ rfl).1
  have pb2 := (hx1 2 _ rfl).1
  have pb3 := (hx1 3 _ rfl).1
  have pb4 := (hx1 4 _ rfl).1
  have pb5 := (hx1 5 _ rfl).1
  have pb6 := (hx1 6 _ rfl).1
  have pb7 := (hx1 7 _ rfl).1
  have pb8 := (hx1 8 _ rfl).1
  go_enter Try.func37, Try.ntmps37
  go_upto_region 1 with (fail)
  rw [← hW1.out, ← hp.out]
  by_cases hE0 : E = 0
  · have hEi : (E : Int) = 0 := by omega
    have hck := chk_ok (m := ⟨k, e, b1, l, la, ap, su, rs, tx⟩) (by rw [hE.out]; exact hE0)
    simp only at hck
    obtain ⟨k1, k2, e1, e2, b2, b3, l1, l2, la1, la2, ap1, ap2, r1, r2, t1⟩ := hck
    obtain ⟨k, rfl⟩ := Int.eq_ofNat_of_zero_le (by omega : 0 ≤ k)
    obtain ⟨e, rfl⟩ := Int.eq_ofNat_of_zero_le (by omega : 0 ≤ e)
    obtain ⟨b1, rfl⟩ := Int.eq_ofNat_of_zero_le (by omega : 0 ≤ b1)
    obtain ⟨l, rfl⟩ := Int.eq_ofNat_of_zero_le (by omega : 0 ≤ l)
    obtain ⟨la, rfl⟩ := Int.eq_ofNat_of_zero_le (by omega : 0 ≤ la)
    obtain ⟨ap, rfl⟩ := Int.eq_ofNat_of_zero_le (by omega : 0 ≤ ap)
    have hsu2 : IntKind.i64.wrap (su : Int) = (su : Int) := by rw [IntKind.wrap_i64]; omega
    go_upto_region 5 with (go_at_call 39; refine CK1.mono ?_; rintro y w2 ⟨rfl, hb2⟩)
    have hx2 := hx1.below hb2
    have hr2 := hr1.below hb2
    have hb02 := below_tr hb1 hb2
    obtain ⟨b, hbb⟩ : ∃ b, Hid (b = w2.heap.size) := ⟨_, Lib.hid rfl⟩
    have hB3 := bld_new w2
    have hba : Below w2.heap.size w2 (w2.alloc (.cells #[.pointer none, .slice none 0 0] 110)) := (Below.refl _ _).alloc (Nat.le_refl _) _
    obtain ⟨W3, hW3⟩ : ∃ W3, Hid (W3 = w2.alloc (.cells #[.pointer none, .slice none 0 0] 110)) := ⟨_, Lib.hid rfl⟩
    rw [← hW3.out] at hB3 hba ⊢
    rw [← hbb.out] at hB3 ⊢
    have hs3 : b ≤ W3.heap.size := by rw [hbb.out]; exact hba.size
    have hx3 := hx2.below hba
    clear hx1 hb1 hr1 CK1 pb0 pb1 pb2 pb3 pb4 pb5 pb6 pb7 pb8 hb2
    have pb0 := (hx3 0 _ rfl).1
    have pb1 := (hx3 1 _ rfl).1
    have pb2 := (hx3 2 _ rfl).1
    have pb3 := (hx3 3 _ rfl).1
    have pb4 := (hx3 4 _ rfl).1
    have pb5 := (hx3 5 _ rfl).1
    have pb6 := (hx3 6 _ rfl).1
    have pb7 := (hx3 7 _ rfl).1
    have pb8 := (hx3 8 _ rfl).1
    go_upto_region 6 with (fail)
    obtain ⟨L8, hL8⟩ : ∃ L8, Hid (L8 = [k, e, b1, l, la, ap, su, n]) := ⟨_, Lib.hid rfl⟩
    have hL8l : L8.length = 8 := by rw [hL8.out]; rfl
    have hL8b : ∀ x ∈ L8, x ≤ 4294967295 := by
      rw [hL8.out]
      intro x hx
      simp only [List.mem_cons, List.not_mem_nil, or_false] at hx
      rcases hx with rfl | rfl | rfl | rfl | rfl | rfl | rfl | rfl <;> omega
    have AX : ∀ j, j < 8 → ∀ W, (Instr.index 111 (.agg #[.int .i64 (k : Nat), .int .i64 (e : Nat), .int .i64 (b1 : Nat), .int .i64 (l : Nat), .int .i64 (la : Nat), .int .i64 (ap : Nat), .int .i64 (su : Nat), .int .i64 (n : Nat)]) (.int .i64 (j : Nat))).run Try.prog W = .ok (.int .i64 (L8.getD j 0 : Nat)) W := by
      intro j hj W
      rw [aix _ _ _ _ _ _ _ _ _ _ hj, hL8.out]
      rcases (by omega : j = 0 ∨ j = 1 ∨ j = 2 ∨ j = 3 ∨ j = 4 ∨ j = 5 ∨ j = 6 ∨ j = 7) with rfl | rfl | rfl | rfl | rfl | rfl | rfl | rfl <;> rfl
    have HAX := Lib.hid AX
    have HLb := Lib.hid hL8b
    have Hhr := Lib.hid hr2
    have hxp := Lib.hid hx2
    clear AX hL8b pb0 pb1 pb2 pb3 pb4 pb5 pb6 pb7 pb8 hr2 hx2
    go_loopw [34] (fun v34 wr => ∃ (j : Nat), j ≤ 8 ∧ v34 = .int .i64 j ∧ BldB b b (numsB (L8.take j)) wr ∧ Below b W3 wr) (fun v34 _ => 8 - (intOf v34).toNat)
    case atStart => exact ⟨0, by omega, rfl, hB3, Below.refl _ _⟩
    case round =>
      obtain ⟨j, hj, rfl, hB, hbel⟩ := hrel
      have hbw : b ≤ wr.heap.size := Nat.le_trans hs3 hbel.size
      by_cases hlt : j < 8
      · have hji : (j : Int) < 8 := by omega
        obtain ⟨N, hN⟩ : ∃ N, Hid (L8.getD j 0 = N) := ⟨_, Lib.hid rfl⟩
        have hget : L8[j]? = some N := by
          rw [← hN.out, List.getD_eq_getElem?_getD, List.getElem?_eq_getElem (by omega)]; rfl
        have hNb : N ≤ 4294967295 := HLb.out N (List.mem_of_getElem? hget)
        have hNi : (N : Int) < 18446744073709551616 := by omega
        have hNi2 : IntKind.u64.wrap (N : Int) = (N : Int) := wrap_u64_id _ (by omega) (by omega)
        have AJ := HAX.out j hlt
        rw [hN.out] at AJ
        have htk : Hid (numsB (L8.take (j + 1)) = numsB (L8.take j) ++ numB N) := Lib.hid (by
          rw [List.take_add_one, hget]; exact numsB_snoc _ _)
        have hlen : (numsB (L8.take j)).length + (numB N).length ≤ 140737488355328 := by
          have h1 := numsB_len (L8.take j) (fun x hx => by have := HLb.out x (List.mem_of_mem_take hx); omega)
          have h2 := numB_len N (by omega)
          rw [List.length_take] at h1
          omega
        go_upto_region 9 with (first
          | (go_at_call 56; refine (num_any N (by omega) _).mono ?_; rintro y w4 ⟨rfl, hb4⟩; have hB4 := hB.below hb4; have hs4 : b ≤ w4.heap.size := Nat.le_trans hbw hb4.size; have hbel4 : Below b W3 w4 := hbel.trans (hb4.mono hbw))
          | (go_at_call 55; refine (bwrite_b b b (numsB (L8.take j)) (numB N) _ hB4 hlen hs4).mono ?_; rintro y w5 ⟨rfl, hB5, hb5⟩; have hbel5 := hbel4.trans hb5; rw [← htk.out] at hB5))
        clear AJ hB4 hB hbel4
        go_wp2
        go_roundw
        case rel => exact ⟨j + 1, by omega, by go_num, hB5, hbel5⟩
        case measure => simp [intOf]; omega
      · obtain rfl : j = 8 := by omega
        have hpb : p < b := by rw [hbb.out]; exact World.block_lt_of_cell? w2 _ (hxp.out 0 _ rfl).1
        have hx4 := hx3.keep (Chg.of_belowB hbel) (by omega)
        have pb7 := (hx4 7 _ rfl).1
        have htk : L8.take 8 = L8 := List.take_of_length_le (by omega)
        rw [htk] at hB
        rw [show ((8 : Nat) : Int) = 8 from rfl]
        clear hB3 hlt
        go_upto_region 11 with (fail)
        have hB9 : BldB b b (numsB L8 ++ textsB (rs.take 0)) wr := by rw [List.take_zero]; simpa [textsB] using hB
        go_loopw [45] (fun v45 wt => ∃ (j : Nat), j ≤ n ∧ v45 = .int .i64 j ∧ BldB b b (numsB L8 ++ textsB (rs.take j)) wt ∧ Below b W3 wt) (fun v45 _ => n - (intOf v45).toNat)
        case atStart => exact ⟨0, by omega, rfl, hB9, hbel⟩
        case round =>
          clear hB hbel hbw hB9 hx4 pb7
          obtain ⟨j, hj, rfl, hB, hbel⟩ := hrel
          have hbw : b ≤ wr.heap.size := Nat.le_trans hs3 hbel.size
          have hLl : (numsB L8).length ≤ 72 := by
            have := numsB_len L8 (fun x hx => by have := HLb.out x hx; omega)
            omega
          have hTl : ∀ i, (textsB (rs.take i)).length ≤ 65545 * 4 := fun i => by
            have := textsB_len (rs.take i) (fun x hx => r2 x (List.mem_of_mem_take hx))
            have h4 : (rs.take i).length ≤ 4 := by rw [List.length_take]; omega
            omega
          have hrw : RowS wr a rs := Hhr.out.below (hba.trans (by rw [← hbb.out]; exact hbel))
          by_cases hlt : j < n
          · have hji : (j : Int) < (n : Int) := by omega
            have hza := List.getElem?_eq_getElem (l := rs) (i := j) (by omega)
            obtain ⟨r, hVN⟩ : ∃ z, Hid (rs[j]'(by omega) = z) := ⟨_, Lib.hid rfl⟩
            rw [hVN.out] at hza
            have hrsz : r.size ≤ 65536 := r2 r (List.mem_of_getElem? hza)
            rcases hrw.row with h0 | ⟨x, rfl, hc⟩
            · rw [h0] at hza; simp at hza
            have c0 := hc j _ hza
            have htk2 : Hid (numsB L8 ++ textsB (rs.take (j + 1)) = (numsB L8 ++ textsB (rs.take j)) ++ textB r.data.toList) := Lib.hid (by
              rw [List.take_add_one, hza, List.append_assoc]; congr 1; exact textsB_snoc _ _)
            have hlen : (numsB L8 ++ textsB (rs.take j)).length + (textB r.data.toList).length ≤ 140737488355328 := by
              have h1 := hTl j
              have h2 := textB_len r.data.toList (by rw [← size_toList]; omega)
              rw [← size_toList] at h2
              rw [List.length_append]
              omega
            clear hc hza
            go_upto_region 14 with (first
              | (go_at_call 42; refine (dtext_any r (by omega) _).mono ?_; rintro y w4 ⟨rfl, hb4⟩; have hB4 := hB.below hb4; have hs4 : b ≤ w4.heap.size := Nat.le_trans hbw hb4.size; have hbel4 : Below b W3 w4 := hbel.trans (hb4.mono hbw))
              | (go_at_call 55; refine (bwrite_b b b _ (textB r.data.toList) _ hB4 hlen hs4).mono ?_; rintro y w5 ⟨rfl, hB5, hb5⟩; have hbel5 := hbel4.trans hb5; rw [← htk2.out] at hB5))
            clear hB4 hB hbel4
            go_wp2
            go_roundw
            case rel => exact ⟨j + 1, by omega, by go_num, hB5, hbel5⟩
            case measure => simp [intOf]; omega
          · obtain rfl : j = n := by omega
            have hji : ¬ (j : Int) < (j : Int) := by omega
            have htk2 : rs.take j = rs := List.take_of_length_le (by omega)
            rw [htk2] at hB
            have hx4 := hxp.out.below (hba.trans (by rw [← hbb.out]; exact hbel))
            have pb8 := (hx4 8 _ rfl).1
            have hbody : Hid ((numsB L8 ++ textsB rs) ++ textB tx.data.toList = bodyW ⟨k, e, b1, l, la, ap, su, rs, tx⟩) := Lib.hid (by
              unfold bodyW numsOf; rw [hL8.out, hn]; simp)
            have htl := textB_len tx.data.toList (by rw [← size_toList]; omega)
            rw [← size_toList] at htl
            have hlen : (numsB L8 ++ textsB rs).length + (textB tx.data.toList).length ≤ 140737488355328 := by
              have h1 := hTl j
              rw [htk2] at h1
              rw [List.length_append]
              omega
            obtain ⟨D, hD⟩ : ∃ D, Hid (bodyW ⟨k, e, b1, l, la, ap, su, rs, tx⟩ = D) := ⟨_, Lib.hid rfl⟩
            have hDl : D.length ≤ 4611686018427387904 := by
              rw [← hD.out, ← hbody.out, List.length_append]; omega
            rw [hD.out] at hbody
            have hFD : Hid (F = Frm.put 7 D) := Lib.hid (by rw [← hF.out, ← hD.out]; unfold encW; rw [if_neg (by rw [hE.out]; omega)])
            have FP := fun W => fput_any 7 (mkS D) (by omega) (by rw [mkS_size]; exact hDl) W
            rw [mkS_data, ← hFD.out] at FP
            have hlen2 := Lib.hid hlen
            clear hTl hLl hx4 hlen hrw
            go_wp2_with (first
              | (go_at_call 42; refine (dtext_any tx (by omega) _).mono ?_; rintro y w4 ⟨rfl, hb4⟩; have hB4 := hB.below hb4; have hs4 : b ≤ w4.heap.size := Nat.le_trans hbw hb4.size; have hbel4 : Below b W3 w4 := hbel.trans (hb4.mono hbw))
              | (go_at_call 55; refine (bwrite_b b b _ (textB tx.data.toList) _ hB4 hlen2.out hs4).mono ?_; rintro y w5 ⟨rfl, hB5, hb5⟩; have hbel5 := hbel4.trans hb5; rw [hbody.out] at hB5; have hs5 : b ≤ w5.heap.size := Nat.le_trans hs4 hb5.size)
              | (go_at_call 57; refine (bstring_any b b D _ hB5 hs5).mono ?_; rintro y w6 ⟨rfl, hb6⟩; have hbel6 := hbel5.trans hb6)
              | (go_at_call 19; refine (FP _).mono ?_; rintro y w7 ⟨rfl, hb7⟩))
            go_ret2
            refine ⟨rfl, ?_⟩
            have h1 : Below w2.heap.size w2 w7 := by
              have h2 : Below b W3 w7 := hbel6.trans (hb7.mono (Nat.le_trans hs3 hbel6.size))
              exact hba.trans (by rw [← hbb.out]; exact h2)
            exact below_tr hb02 h1
  · have hEi : ¬ (E : Int) = 0 := by omega
    have hen : F = ([], E) := by rw [← hF.out]; unfold encW; rw [hE.out, if_pos hE0]
    subst hen
    go_wp2_with (go_at_call 39; refine CK1.mono ?_; rintro y w2 ⟨rfl, hb2⟩)
    go_ret2
    exact ⟨rfl, below_tr hb1 hb2⟩
end Go.Proofs.Ytmaebileagfdaaa
