/- Messages compared. -/
import Derived.Test.YtmaebileagfdaaaWrC
namespace Go.Proofs.Ytmaebileagfdaaa
open Go.RowKit Dig Wr

namespace Wr
def headEq (x y : Msg) : Bool := decide (x.k = y.k) && (decide (x.e = y.e) && (decide (x.b = y.b) && (decide (x.l = y.l) && (decide (x.la = y.la) && (decide (x.ap = y.ap) && (decide (x.su = y.su) && (decide (x.tx = y.tx) && decide (x.rs.length = y.rs.length))))))))
def sameM (x y : Msg) : Bool := headEq x y && decide (x.rs = y.rs)
end Wr

set_option maxRecDepth 100000 in
set_option maxHeartbeats 4000000 in
theorem msame_any (x y : Msg) (a b : Option Addr) (n c n' c' : Nat) (hn : x.rs.length = n) (hn' : y.rs.length = n') (hb : n ≤ 4611686018427387904) (hb' : n' ≤ 4611686018427387904) (w : World) (hr : RowS w a x.rs) (hr' : RowS w b y.rs) :
    Calls Try.prog 34 #[msgV x a n c, msgV y b n' c'] w fun z w' => z = .returned (.bool (sameM x y)) ∧ Below w.heap.size w w' := by
  obtain ⟨k, e, b1, l, la, ap, su, rs, tx⟩ := x
  obtain ⟨k', e', b1', l', la', ap', su', rs', tx'⟩ := y
  simp only at hn hr hn' hr'
  go_enter Try.func34, Try.ntmps34
  unfold msgV
  have hB : ∀ o1 o2, Below w.heap.size w ((w.alloc o1).alloc o2) := fun o1 o2 => below_tr ((Below.refl _ _).alloc (Nat.le_refl _) _) ((Below.refl _ _).alloc (Nat.le_refl _) _)
  rcases Decidable.em (k = k') with rfl | h0
  rotate_left
  · have hi : ¬ (k : Int) = (k' : Int) := by omega
    go_wp2
    go_ret
    exact ⟨ret_bool (by simp [sameM, headEq, h0]), hB _ _⟩
  rcases Decidable.em (e = e') with rfl | h1
  rotate_left
  · have hi : ¬ (e : Int) = (e' : Int) := by omega
    go_wp2
    go_ret
    exact ⟨ret_bool (by simp [sameM, headEq, h1]), hB _ _⟩
  rcases Decidable.em (b1 = b1') with rfl | h2
  rotate_left
  · have hi : ¬ (b1 : Int) = (b1' : Int) := by omega
    go_wp2
    go_ret
    exact ⟨ret_bool (by simp [sameM, headEq, h2]), hB _ _⟩
  rcases Decidable.em (l = l') with rfl | h3
  rotate_left
  · have hi : ¬ (l : Int) = (l' : Int) := by omega
    go_wp2
    go_ret
    exact ⟨ret_bool (by simp [sameM, headEq, h3]), hB _ _⟩
  rcases Decidable.em (la = la') with rfl | h4
  rotate_left
  · have hi : ¬ (la : Int) = (la' : Int) := by omega
    go_wp2
    go_ret
    exact ⟨ret_bool (by simp [sameM, headEq, h4]), hB _ _⟩
  rcases Decidable.em (ap = ap') with rfl | h5
  rotate_left
  · have hi : ¬ (ap : Int) = (ap' : Int) := by omega
    go_wp2
    go_ret
    exact ⟨ret_bool (by simp [sameM, headEq, h5]), hB _ _⟩
  rcases Decidable.em (su = su') with rfl | h6
  rotate_left
  · have hi : ¬ (su : Int) = (su' : Int) := by omega
    go_wp2
    go_ret
    exact ⟨ret_bool (by simp [sameM, headEq, h6]), hB _ _⟩
  rcases Decidable.em (tx = tx') with rfl | h8
  rotate_left
  · have hi : (tx.toList == tx'.toList) = false := by
      rw [ByteArray.toList_eq, ByteArray.toList_eq, beq_eq_false_iff_ne]
      exact fun e => h8 (by rw [← mkS_toList tx, ← mkS_toList tx', e])
    go_wp2
    go_ret
    exact ⟨ret_bool (by simp [sameM, headEq, h8]), hB _ _⟩
  rcases Decidable.em (n = n') with rfl | h9
  rotate_left
  · have hi : ¬ (n : Int) = (n' : Int) := by omega
    have hne : Hid (sameM ⟨k, e, b1, l, la, ap, su, rs, tx⟩ ⟨k, e, b1, l, la, ap, su, rs', tx⟩ = false) := Lib.hid (by simp [sameM, headEq, hn, hn', h9])
    clear hn hn'
    go_wp2
    go_ret
    exact ⟨ret_bool (by rw [hne.out]), hB _ _⟩
  obtain ⟨w2, hw2⟩ : ∃ w2, Hid (w2 = (w.alloc (.cells #[.int .i64 k, .int .i64 e, .int .i64 b1, .int .i64 l, .int .i64 la, .int .i64 ap, .int .u32 (su : Nat), .slice a n c, .string tx] 80)).alloc (.cells #[.int .i64 k, .int .i64 e, .int .i64 b1, .int .i64 l, .int .i64 la, .int .i64 ap, .int .u32 (su : Nat), .slice b n c', .string tx] 80)) := ⟨_, Lib.hid rfl⟩
  have hb2 : Below w.heap.size w w2 := by rw [hw2.out]; exact hB _ _
  have hrA := hr.below hb2
  have hrB := hr'.below hb2
  have k1 : RowV w2 w.heap.size [.int .i64 k, .int .i64 e, .int .i64 b1, .int .i64 l, .int .i64 la, .int .i64 ap, .int .u32 (su : Nat), .slice a n c, .string tx] := by rw [hw2.out]; exact (RowV.new w _ _).below ((Below.refl _ _).alloc (Nat.le_refl _) _)
  have k2 : RowV w2 (w.heap.size + 1) [.int .i64 k, .int .i64 e, .int .i64 b1, .int .i64 l, .int .i64 la, .int .i64 ap, .int .u32 (su : Nat), .slice b n c', .string tx] := by
    rw [hw2.out]
    have := RowV.new (w.alloc (.cells #[.int .i64 k, .int .i64 e, .int .i64 b1, .int .i64 l, .int .i64 la, .int .i64 ap, .int .u32 (su : Nat), .slice a n c, .string tx] 80)) [.int .i64 k, .int .i64 e, .int .i64 b1, .int .i64 l, .int .i64 la, .int .i64 ap, .int .u32 (su : Nat), .slice b n c', .string tx] 80
    rw [show (w.alloc (.cells #[.int .i64 k, .int .i64 e, .int .i64 b1, .int .i64 l, .int .i64 la, .int .i64 ap, .int .u32 (su : Nat), .slice a n c, .string tx] 80)).heap.size = w.heap.size + 1 from by simp] at this
    exact this
  have p7 := (k1 7 _ rfl).1
  have q7 := (k2 7 _ rfl).1
  have hfin : Hid (sameM ⟨k, e, b1, l, la, ap, su, rs, tx⟩ ⟨k, e, b1, l, la, ap, su, rs', tx⟩ = decide (rs = rs')) := Lib.hid (by simp [sameM, headEq, hn, hn'])
  go_upto_region 3 with (fail)
  rw [← hw2.out]
  clear k1 k2
  go_wp2
  go_loopw [5] (fun i wr => ∃ j m : Nat, j ≤ n ∧ i = .int .i64 j ∧ Hid (rs.take j = rs'.take j) ∧ wr = w2.drewN m) (fun i _ => n - (intOf i).toNat)
  case atStart => exact ⟨0, 0, by omega, rfl, Lib.hid rfl, rfl⟩
  case round =>
    obtain ⟨j, m, hj, rfl, htk, rfl⟩ := hrel
    by_cases hlt : j < n
    · have hji : (j : Int) < (n : Int) := by omega
      have hza := List.getElem?_eq_getElem (l := rs) (i := j) (by omega)
      have hzb := List.getElem?_eq_getElem (l := rs') (i := j) (by omega)
      obtain ⟨r, hVN⟩ : ∃ z, Hid (rs[j]'(by omega) = z) := ⟨_, Lib.hid rfl⟩
      obtain ⟨r', hVN'⟩ : ∃ z, Hid (rs'[j]'(by omega) = z) := ⟨_, Lib.hid rfl⟩
      rw [hVN.out] at hza
      rw [hVN'.out] at hzb
      rcases hrA.row with h0 | ⟨x, rfl, hc⟩
      · rw [h0] at hza; simp at hza
      rcases hrB.row with h0 | ⟨x', rfl, hc'⟩
      · rw [h0] at hzb; simp at hzb
      have c0 := hc j _ hza
      have d0 := hc' j _ hzb
      have Ha := Lib.hid hza
      have Hb := Lib.hid hzb
      clear hc hc' hza hzb
      rcases Decidable.em (r = r') with rfl | hne
      · go_upto_region 6 with (fail)
        go_quiet (fail)
        go_wp2
        go_roundw
        case rel => exact ⟨j + 1, _, by omega, by go_num, Lib.hid (by rw [List.take_add_one, List.take_add_one, htk.out, Ha.out, Hb.out]), by first | rfl | rw [World.drewN_drewN]⟩
        case measure => simp [intOf]; omega
      · have hi : (r.toList == r'.toList) = false := by
          rw [ByteArray.toList_eq, ByteArray.toList_eq, beq_eq_false_iff_ne]
          exact fun e => hne (by rw [← mkS_toList r, ← mkS_toList r', e])
        have hnn : Hid (decide (rs = rs') = false) := Lib.hid (decide_eq_false (fun e => by
          have h1 := Ha.out; rw [e, Hb.out] at h1; cases h1; exact hne rfl))
        go_upto_region 6 with (fail)
        go_quiet (fail)
        go_wp2
        go_ret
        exact ⟨ret_bool (by rw [hfin.out, hnn.out]), below_drewN (below_drewN hb2 _) _⟩
    · have hji : ¬ (j : Int) < (n : Int) := by omega
      have hnn : Hid (decide (rs = rs') = true) := Lib.hid (decide_eq_true (by
        have := htk.out
        rw [List.take_of_length_le (by omega), List.take_of_length_le (by omega)] at this
        exact this))
      go_wp2
      go_ret
      exact ⟨ret_bool (by rw [hfin.out, hnn.out]), below_drewN hb2 _⟩
end Go.Proofs.Ytmaebileagfdaaa
