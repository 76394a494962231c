/- Labels written. -/
import Derived.Test.YtjmcpdhfefcdgaaDoorLd
import Derived.Test.YtjmcpdhfefcdgaaDoorBld
import Derived.Test.YtjmcpdhfefcdgaaDoorInR
import Derived.Test.YtjmcpdhfefcdgaaDoorDetI
namespace Go.Proofs.YtjmcpdhfefcdgaaDoor
open Go.RowKit Lb Dig

namespace Lb
def pairsB (l : List Pr) : List UInt8 := l.flatMap fun p => textB p.1.data.toList ++ textB p.2.data.toList
/-- The bytes of labels, and what is wrong with them. -/
def encL (l : List Pr) : List UInt8 × Nat := if chkL l ≠ 0 then ([], chkL l) else (numB l.length ++ pairsB l, 0)
theorem okL_at : ∀ {l : List Pr} {last : List UInt8}, okL last l = true → ∀ p ∈ l, nameB p.1.data.toList = true ∧ valueB p.2.data.toList = true := by
  intro l
  induction l with
  | nil => intro last _ p hp; simp at hp
  | cons q l ih =>
    intro last h p hp
    simp only [okL, Bool.and_eq_true] at h
    rcases List.mem_cons.mp hp with rfl | hp
    · exact ⟨h.1, h.2.1⟩
    · exact ih h.2.2.2 p hp
theorem nameB_len {l : List UInt8} (h : nameB l = true) : 1 ≤ l.length ∧ l.length ≤ 32 := by
  unfold nameB at h; simp only [Bool.and_eq_true, decide_eq_true_eq] at h; exact h.1
theorem valueB_len {l : List UInt8} (h : valueB l = true) : 1 ≤ l.length ∧ l.length ≤ 64 := by
  unfold valueB at h; simp only [Bool.and_eq_true, decide_eq_true_eq] at h; exact h.1
theorem chkL_ok {l : List Pr} (h : chkL l = 0) : 1 ≤ l.length ∧ l.length ≤ 8 ∧ (∀ p ∈ l, nameB p.1.data.toList = true ∧ valueB p.2.data.toList = true) := by
  unfold chkL at h
  split at h
  · rename_i h1; exact ⟨h1.1, h1.2.1, okL_at h1.2.2⟩
  · omega
theorem pairsB_snoc (l : List Pr) (p : Pr) : pairsB (l ++ [p]) = pairsB l ++ (textB p.1.data.toList ++ textB p.2.data.toList) := by simp [pairsB]
theorem textB_len' (s : List UInt8) (h : s.length < 18446744073709551616) : (textB s).length ≤ s.length + 9 := by
  have := dig_len8 s.length h
  unfold textB numB; simp; omega
theorem pairsB_len (l : List Pr) (h : ∀ p ∈ l, nameB p.1.data.toList = true ∧ valueB p.2.data.toList = true) : (pairsB l).length ≤ 114 * l.length := by
  induction l with
  | nil => simp [pairsB]
  | cons a l ih =>
    have h1 := ih (fun p hp => h p (List.mem_cons_of_mem _ hp))
    have h2 := h a (List.mem_cons_self ..)
    have h3 := nameB_len h2.1
    have h4 := valueB_len h2.2
    have h5 := textB_len' a.1.data.toList (by omega)
    have h6 := textB_len' a.2.data.toList (by omega)
    simp only [pairsB, List.flatMap_cons, List.length_append, List.length_cons] at h1 ⊢
    omega
end Lb

theorem Chg.of_belowB {B : Nat} {w w' : World} (h : Below B w w') : Chg (fun k => ¬ k < B) w w' := ⟨h.os, h.tape, h.output, h.size, fun k _ hf => h.block k (Classical.not_not.mp hf)⟩

theorem h7of (D : Nat → Bool) (H : Nat → Nat → Bool) (hc : ∀ j k, D j = true → H j k = true → D k = true) (h76 : H 7 6 = true) (h62 : H 6 2 = true) (h65 : H 6 5 = true) (h21 : H 2 1 = true) (h54 : H 5 4 = true) (h10 : H 1 0 = true) (h43 : H 4 3 = true) (i : Nat) (hi : i < 7) (hD : D i = false) : D 7 = false := by
  cases h : D 7 with
  | false => rfl
  | true =>
    exfalso
    have a6 := hc 7 6 h h76
    have a2 := hc 6 2 a6 h62
    have a5 := hc 6 5 a6 h65
    have a1 := hc 2 1 a2 h21
    have a4 := hc 5 4 a5 h54
    have a0 := hc 1 0 a1 h10
    have a3 := hc 4 3 a4 h43
    rcases (by omega : i = 0 ∨ i = 1 ∨ i = 2 ∨ i = 3 ∨ i = 4 ∨ i = 5 ∨ i = 6) with rfl | rfl | rfl | rfl | rfl | rfl | rfl <;> simp_all
/-- Where the region stands that writes a pair: two loads, two texts, their sum, the builder's writing. -/
structure InvE (b q : Nat) (W3 : World) (L : List UInt8) (pn pv : ByteArray) (D : Nat → Bool) (vals : Nat → Value) (W : World) : Prop where
  bel : Below b W3 W
  size : b ≤ W.heap.size
  row : D 7 = false → RowV W q [.string pn, .string pv] ∧ BldB b b L W
  fin : D 7 = true → BldB b b (L ++ (textB pn.data.toList ++ textB pv.data.toList)) W
  v0 : D 0 = true → vals 0 = .pointer (some ⟨q, 0, none⟩)
  v1 : D 1 = true → vals 1 = .string pn
  v2 : D 2 = true → vals 2 = .string (mkS (textB pn.data.toList))
  v3 : D 3 = true → vals 3 = .pointer (some ⟨q, 1, none⟩)
  v4 : D 4 = true → vals 4 = .string pv
  v5 : D 5 = true → vals 5 = .string (mkS (textB pv.data.toList))
  v6 : D 6 = true → vals 6 = .string (mkS (textB pn.data.toList ++ textB pv.data.toList))
/-- One of the first seven is done; the world has grown. -/
theorem InvE.step {b q : Nat} {W3 : World} {L : List UInt8} {pn pv : ByteArray} {D : Nat → Bool} {vals : Nat → Value} {W W' : World} (h : InvE b q W3 L pn pv D vals W) (h7 : D 7 = false) (i : Nat) (hi : i < 7) (v : Value) (hg : Below W.heap.size W W')
    (hv : v = [Value.pointer (some ⟨q, 0, none⟩), .string pn, .string (mkS (textB pn.data.toList)), .pointer (some ⟨q, 1, none⟩), .string pv, .string (mkS (textB pv.data.toList)), .string (mkS (textB pn.data.toList ++ textB pv.data.toList))].getD i undef) :
    InvE b q W3 L pn pv (fun j => j == i || D j) (upd vals i v) W' := by
  obtain ⟨r1, r2⟩ := h.row h7
  have k : ∀ j, (j == i || D j) = true → j ≠ i → D j = true := fun j e n => by
    have : (j == i) = false := by simpa using n
    rw [this, Bool.false_or] at e; exact e
  have hk7 : ((7 : Nat) == i || D 7) = false := by rw [h7, Bool.or_false]; simp; omega
  refine ⟨h.bel.trans (hg.mono h.size), Nat.le_trans h.size hg.size, fun _ => ⟨r1.below hg, r2.below hg⟩, (fun e => by rw [hk7] at e; cases e), ?_, ?_, ?_, ?_, ?_, ?_, ?_⟩
  all_goals
    intro e
    unfold upd
    split
    · rename_i hj; subst hj; exact hv
    · rename_i hj
      have e2 := k _ e hj
      first | exact h.v0 e2 | exact h.v1 e2 | exact h.v2 e2 | exact h.v3 e2 | exact h.v4 e2 | exact h.v5 e2 | exact h.v6 e2
theorem InvE.last {b q : Nat} {W3 : World} {L : List UInt8} {pn pv : ByteArray} {D : Nat → Bool} {vals : Nat → Value} {W W' : World} (h : InvE b q W3 L pn pv D vals W) (v : Value) (hg : Below b W W') (hB : BldB b b (L ++ (textB pn.data.toList ++ textB pv.data.toList)) W') :
    InvE b q W3 L pn pv (fun j => j == 7 || D j) (upd vals 7 v) W' := by
  refine ⟨h.bel.trans hg, Nat.le_trans h.size hg.size, (fun e => by simp at e), (fun _ => hB), ?_, ?_, ?_, ?_, ?_, ?_, ?_⟩
  all_goals
    intro e
    have e2 := by simpa using e
    unfold upd
    rw [if_neg (by omega)]
    first | exact h.v0 e2 | exact h.v1 e2 | exact h.v2 e2 | exact h.v3 e2 | exact h.v4 e2 | exact h.v5 e2 | exact h.v6 e2

set_option maxRecDepth 100000 in
set_option maxHeartbeats 4000000 in
theorem lencode_any (l : List Pr) (a : Option Addr) (n c : Nat) (hn : l.length = n) (hb : n ≤ 4611686018427387904) (hsz : ∀ p ∈ l, p.1.size ≤ 4611686018427387904 ∧ p.2.size ≤ 4611686018427387904) (w : World) (hr : RowQ w a l) :
    Calls Tryd.prog 25 #[.slice a n c] w fun e w' => e = .returned (.tuple #[.string (mkS (encL l).1), .int .i64 ((encL l).2 : Nat)]) ∧ Below w.heap.size w w' := by
  obtain ⟨E, hE⟩ : ∃ E, Hid (chkL l = E) := ⟨_, Lib.hid rfl⟩
  obtain ⟨F, hF⟩ : ∃ F, Hid (encL l = F) := ⟨_, Lib.hid rfl⟩
  have CK := fun W h => lcheck_any l a n c hn hb hsz W h
  rw [hE.out] at CK
  rw [hF.out]
  go_enter Tryd.func25, Tryd.ntmps25
  by_cases hE0 : E = 0
  · have hEi : (E : Int) = 0 := by omega
    obtain ⟨k1, k8, kok⟩ := chkL_ok (l := l) (by rw [hE.out]; exact hE0)
    go_upto_region 5 with (go_at_call 34; refine (CK _ hr).mono ?_; rintro y w2 ⟨rfl, hb2⟩)
    have hr2 := hr.below hb2
    obtain ⟨b, hbb⟩ : ∃ b, Hid (b = w2.heap.size) := ⟨_, Lib.hid rfl⟩
    have hB3 := bld_new w2
    have hba : Below w2.heap.size w2 (w2.alloc (.cells #[.pointer none, .slice none 0 0] 51)) := (Below.refl _ _).alloc (Nat.le_refl _) _
    obtain ⟨W3, hW3⟩ : ∃ W3, Hid (W3 = w2.alloc (.cells #[.pointer none, .slice none 0 0] 51)) := ⟨_, Lib.hid rfl⟩
    rw [← hW3.out] at hB3 hba ⊢
    rw [← hbb.out] at hB3 ⊢
    have hs3 : b ≤ W3.heap.size := by rw [hbb.out]; exact hba.size
    have Hhr := Lib.hid hr2
    have hni : (n : Int) < 18446744073709551616 := by omega
    have hni2 : IntKind.u64.wrap (n : Int) = (n : Int) := wrap_u64_id _ (by omega) (by omega)
    have hnl : (numB n).length ≤ 9 := by have := dig_len8 n (by omega); unfold numB; simp; omega
    clear CK hr hr2
    go_upto_region 7 with (first
      | (go_at_call 21; refine (num_any n (by omega) _).mono ?_; rintro y w4 ⟨rfl, hb4⟩; have hB4 := hB3.below hb4; have hs4 : b ≤ w4.heap.size := Nat.le_trans hs3 hb4.size; have hbel4 : Below b W3 w4 := (Below.refl b W3).trans (hb4.mono hs3))
      | (go_at_call 20; refine (bwrite_b b b [] (numB n) _ hB4 (by simp; omega) hs4).mono ?_; rintro y w5 ⟨rfl, hB5, hb5⟩; have hbel5 := hbel4.trans hb5; rw [List.nil_append] at hB5))
    have hB6 : BldB b b (numB n ++ pairsB (l.take 0)) w5 := by rw [List.take_zero]; simpa [pairsB] using hB5
    clear hB3 hB4 hbel4 hB5 hb5 hs4
    go_loopw [20] (fun v20 wt => ∃ (j : Nat), j ≤ n ∧ v20 = .int .i64 j ∧ BldB b b (numB n ++ pairsB (l.take j)) wt ∧ Below b W3 wt) (fun v20 _ => n - (intOf v20).toNat)
    case atStart => exact ⟨0, by omega, rfl, hB6, hbel5⟩
    case round =>
      clear hB6 hbel5
      obtain ⟨j, hj, rfl, hB, hbel⟩ := hrel
      have hbw : b ≤ wr.heap.size := Nat.le_trans hs3 hbel.size
      have hrw : RowQ wr a l := Hhr.out.below (hba.trans (by rw [← hbb.out]; exact hbel))
      by_cases hlt : j < n
      · have hji : (j : Int) < (n : Int) := by omega
        obtain ⟨⟨pn, pv⟩, hp⟩ : ∃ p, l[j]? = some p := ⟨_, List.getElem?_eq_getElem (by omega)⟩
        rcases hrw.row with h0 | ⟨x, rfl, hc⟩
        · rw [h0] at hp; simp at hp
        obtain ⟨c0, c1⟩ := hc j _ hp
        simp only at c0 c1
        have hpk := kok _ (List.mem_of_getElem? hp)
        simp only at hpk
        have z1 := nameB_len hpk.1
        have z2 := valueB_len hpk.2
        rw [← size_toList] at z1 z2
        have htk : Hid (numB n ++ pairsB (l.take (j + 1)) = (numB n ++ pairsB (l.take j)) ++ (textB pn.data.toList ++ textB pv.data.toList)) := Lib.hid (by
          rw [List.take_add_one, hp, List.append_assoc]; congr 1; exact pairsB_snoc _ _)
        have t1 := textB_len' pn.data.toList (by rw [← size_toList]; omega)
        have t2 := textB_len' pv.data.toList (by rw [← size_toList]; omega)
        rw [← size_toList] at t1 t2
        have hlen : (numB n ++ pairsB (l.take j)).length + (textB pn.data.toList ++ textB pv.data.toList).length ≤ 140737488355328 := by
          have h1 := pairsB_len (l.take j) (fun p hp => kok p (List.mem_of_mem_take hp))
          rw [List.length_take] at h1
          rw [List.length_append, List.length_append]
          omega
        have hcat : mkS (textB pn.data.toList) ++ mkS (textB pv.data.toList) = mkS (textB pn.data.toList ++ textB pv.data.toList) := mkS_append _ _
        have hcl : (mkS (textB pn.data.toList)).size + (mkS (textB pv.data.toList)).size ≤ 9223372036854775807 := by rw [mkS_size, mkS_size]; omega
        have Hlen := Lib.hid hlen
        clear hc hp hpk hlen
        go_upto_region 9 with (fail)
        have hq := RowV.new wr [.string pn, .string pv] 47
        have hba2 : Below wr.heap.size wr (wr.alloc (.cells #[.string pn, .string pv] 47)) := (Below.refl _ _).alloc (Nat.le_refl _) _
        obtain ⟨Wb, hWb⟩ : ∃ Wb, Hid (Wb = wr.alloc (.cells #[.string pn, .string pv] 47)) := ⟨_, Lib.hid rfl⟩
        obtain ⟨q, hqq⟩ : ∃ q, Hid (q = wr.heap.size) := ⟨_, Lib.hid rfl⟩
        have hx : RowV Wb q [.string pn, .string pv] := by rw [hWb.out, hqq.out]; exact hq
        rw [← hWb.out] at hba2 ⊢
        rw [← hqq.out]
        have hBb := hB.below hba2
        have hbelb : Below b W3 Wb := hbel.trans (hba2.mono hbw)
        have hsb : b ≤ Wb.heap.size := Nat.le_trans hbw hba2.size
        clear hq hWb hba2 c0 c1 hB hbel
        have q0 := (hx 0 _ rfl).1
        have q1 := (hx 1 _ rfl).1
        have hxd : RowV Wb.drew q [.string pn, .string pv] := hx
        have hBd : BldB b b (numB n ++ pairsB (l.take j)) Wb.drew := hBb
        have hbeld : Below b W3 Wb.drew := hbelb.trans ⟨rfl, rfl, rfl, Nat.le_refl _, fun _ _ => rfl⟩
        have hsd : b ≤ Wb.drew.heap.size := hsb
        clear hx hBb hbelb hsb
        refine wp_region_inv_list (by kernel_rfl) (by kernel_rfl) (InvE b q W3 (numB n ++ pairsB (l.take j)) pn pv) ?h0 ?hop ?hend
        case h0 => exact ⟨hbeld, hsd, (fun _ => ⟨hxd, hBd⟩), (fun h => by cases h), (fun h => by cases h), (fun h => by cases h), (fun h => by cases h), (fun h => by cases h), (fun h => by cases h), (fun h => by cases h), (fun h => by cases h)⟩
        case hop =>
          refine ⟨fun D vals W hI hD hd hc => ?_, fun D vals W hI hD hd hc => ?_, fun D vals W hI hD hd hc => ?_, fun D vals W hI hD hd hc => ?_, fun D vals W hI hD hd hc => ?_, fun D vals W hI hD hd hc => ?_, fun D vals W hI hD hd hc => ?_, fun D vals W hI hD hd hc => ?_, trivial⟩
          · have h7 : D 7 = false := h7of D _ hc (by kernel_rfl) (by kernel_rfl) (by kernel_rfl) (by kernel_rfl) (by kernel_rfl) (by kernel_rfl) (by kernel_rfl) 0 (by decide) (by simpa using hD)
            have hst := fun W' v hg hv => hI.step (W' := W') h7 0 (by decide) v hg hv
            have Hst := Lib.hid hst
            clear hd hc hI hst
            simp only [fillTo]
            go_simp
            go_wp2
            exact ⟨rfl, Hst.out _ _ (Below.refl _ _) rfl, trivial, trivial⟩
          · have h7 : D 7 = false := h7of D _ hc (by kernel_rfl) (by kernel_rfl) (by kernel_rfl) (by kernel_rfl) (by kernel_rfl) (by kernel_rfl) (by kernel_rfl) 1 (by decide) (by simpa using hD)
            have hv0 := hI.v0 (hd 0 (by kernel_rfl))
            have hrow := (hI.row h7).1
            have e0 := (hrow 0 _ rfl).1
            have hst := fun W' v hg hv => hI.step (W' := W') h7 1 (by decide) v hg hv
            have Hst := Lib.hid hst
            clear hd hc hI hst hrow
            simp only [fillTo]
            go_simp
            go_wp2
            exact ⟨rfl, Hst.out _ _ (Below.refl _ _) rfl, trivial, trivial⟩
          · have h7 : D 7 = false := h7of D _ hc (by kernel_rfl) (by kernel_rfl) (by kernel_rfl) (by kernel_rfl) (by kernel_rfl) (by kernel_rfl) (by kernel_rfl) 2 (by decide) (by simpa using hD)
            have hv1 := hI.v1 (hd 1 (by kernel_rfl))
            have hst := fun W' v hg hv => hI.step (W' := W') h7 2 (by decide) v hg hv
            have Hst := Lib.hid hst
            clear hd hc hI hst
            simp only [fillTo]
            go_simp
            go_wp2_with (go_at_call 26; refine (dtext_any pn (by omega) _).mono ?_; rintro y w6 ⟨rfl, hb6⟩)
            exact ⟨rfl, Hst.out _ _ hb6 rfl, trivial, trivial⟩
          · have h7 : D 7 = false := h7of D _ hc (by kernel_rfl) (by kernel_rfl) (by kernel_rfl) (by kernel_rfl) (by kernel_rfl) (by kernel_rfl) (by kernel_rfl) 3 (by decide) (by simpa using hD)
            have hst := fun W' v hg hv => hI.step (W' := W') h7 3 (by decide) v hg hv
            have Hst := Lib.hid hst
            clear hd hc hI hst
            simp only [fillTo]
            go_simp
            go_wp2
            exact ⟨rfl, Hst.out _ _ (Below.refl _ _) rfl, trivial, trivial⟩
          · have h7 : D 7 = false := h7of D _ hc (by kernel_rfl) (by kernel_rfl) (by kernel_rfl) (by kernel_rfl) (by kernel_rfl) (by kernel_rfl) (by kernel_rfl) 4 (by decide) (by simpa using hD)
            have hv3 := hI.v3 (hd 3 (by kernel_rfl))
            have hrow := (hI.row h7).1
            have e0 := (hrow 1 _ rfl).1
            have hst := fun W' v hg hv => hI.step (W' := W') h7 4 (by decide) v hg hv
            have Hst := Lib.hid hst
            clear hd hc hI hst hrow
            simp only [fillTo]
            go_simp
            go_wp2
            exact ⟨rfl, Hst.out _ _ (Below.refl _ _) rfl, trivial, trivial⟩
          · have h7 : D 7 = false := h7of D _ hc (by kernel_rfl) (by kernel_rfl) (by kernel_rfl) (by kernel_rfl) (by kernel_rfl) (by kernel_rfl) (by kernel_rfl) 5 (by decide) (by simpa using hD)
            have hv4 := hI.v4 (hd 4 (by kernel_rfl))
            have hst := fun W' v hg hv => hI.step (W' := W') h7 5 (by decide) v hg hv
            have Hst := Lib.hid hst
            clear hd hc hI hst
            simp only [fillTo]
            go_simp
            go_wp2_with (go_at_call 26; refine (dtext_any pv (by omega) _).mono ?_; rintro y w6 ⟨rfl, hb6⟩)
            exact ⟨rfl, Hst.out _ _ hb6 rfl, trivial, trivial⟩
          · have h7 : D 7 = false := h7of D _ hc (by kernel_rfl) (by kernel_rfl) (by kernel_rfl) (by kernel_rfl) (by kernel_rfl) (by kernel_rfl) (by kernel_rfl) 6 (by decide) (by simpa using hD)
            have hv2 := hI.v2 (hd 2 (by kernel_rfl))
            have hv5 := hI.v5 (hd 5 (by kernel_rfl))
            have hst := fun W' v hg hv => hI.step (W' := W') h7 6 (by decide) v hg hv
            have Hst := Lib.hid hst
            clear hd hc hI hst
            simp only [fillTo]
            go_simp
            go_wp2
            exact ⟨rfl, Hst.out _ _ (Below.refl _ _) rfl, trivial, trivial⟩
          · have hv6 := hI.v6 (hd 6 (by kernel_rfl))
            have hB7 : D 7 = false := by simpa using hD
            have hBd := (hI.row hB7).2
            have hsz7 := hI.size
            have hst := fun W' v hg hB => hI.last (W' := W') v hg hB
            have Hst := Lib.hid hst
            clear hd hc hI hst
            simp only [fillTo]
            go_simp
            go_wp2_with (go_at_call 20; refine (bwrite_b b b _ _ _ hBd Hlen.out hsz7).mono ?_; rintro y w7 ⟨rfl, hB7, hb7⟩)
            exact ⟨rfl, Hst.out _ _ hb7 hB7, trivial, trivial⟩
        case hend =>
          intro vals W hI
          have hB7 := hI.fin rfl
          have hbel7 := hI.bel
          rw [← htk.out] at hB7
          clear hI
          simp only [List.size_toArray, List.length_cons, List.length_nil, Nat.reduceAdd, fillTo]
          go_simp
          go_wp2
          go_roundw
          case rel => exact ⟨j + 1, by omega, by go_num, hB7, hbel7⟩
          case measure => simp [intOf]; omega
      · obtain rfl : j = n := by omega
        have hji : ¬ (j : Int) < (j : Int) := by omega
        rw [List.take_of_length_le (by omega)] at hB
        have hen : F = (numB j ++ pairsB l, 0) := by rw [← hF.out]; unfold encL; rw [hE.out, hn, if_neg (by omega)]
        subst hen
        go_wp2_with (go_at_call 24; refine (bstring_any b b _ _ hB hbw).mono ?_; rintro y w6 ⟨rfl, hb6⟩)
        go_ret2
        refine ⟨rfl, below_tr hb2 (hba.trans ?_)⟩
        rw [← hbb.out]
        exact hbel.trans hb6
  · have hEi : ¬ (E : Int) = 0 := by omega
    have hen : F = ([], E) := by rw [← hF.out]; unfold encL; rw [hE.out, if_pos hE0]
    subst hen
    go_wp2_with (go_at_call 34; refine (CK _ hr).mono ?_; rintro y w2 ⟨rfl, hb2⟩)
    go_ret2
    exact ⟨rfl, hb2⟩
end Go.Proofs.YtjmcpdhfefcdgaaDoor
