/- Pairs: what is wrong with labels, of the program and of the document. -/
import Derived.Test.YtjmcpdhfefcdgaaDoorLb
import Derived.Test.YtjmcpdhfefcdgaaDoorCopy
import Derived.Test.YtjmcpdhfefcdgaaDoorSlice
import Derived.BigQuiet
import Derived.Deep.RegionHeld3
import Derived.Laws.Cover1
namespace Go.Proofs.YtjmcpdhfefcdgaaDoor
open Go.RowKit Lb

abbrev Pr := ByteArray × ByteArray
/-- Pairs of texts in a row. -/
structure RowQ (w : World) (a : Option Addr) (l : List Pr) : Prop where
  row : l = [] ∨ ∃ x, a = some x ∧ ∀ i p, l[i]? = some p → w.cell? (x.add (i * 2)) = some (.string p.1) ∧ w.cell? ⟨(x.add (i * 2)).block, (x.add (i * 2)).off + 1, none⟩ = some (.string p.2)
theorem RowQ.keep {F : Nat → Prop} {w w' : World} {a : Option Addr} {l : List Pr} (h : RowQ w a l) (hc : Chg F w w') (hf : ∀ x, a = some x → ¬ F x.block) : RowQ w' a l := by
  refine ⟨?_⟩
  rcases h.row with h1 | ⟨x, rfl, h1⟩
  · exact .inl h1
  · have hb : ∀ i, (x.add i).block = x.block := fun i => by unfold Addr.add; split <;> rfl
    refine .inr ⟨x, rfl, fun i p hp => ⟨hc.cell (h1 i p hp).1 (by rw [hb]; exact hf x rfl), hc.cell (h1 i p hp).2 (by simp only [hb]; exact hf x rfl)⟩⟩
theorem RowQ.below {w w' : World} {a : Option Addr} {l : List Pr} (h : RowQ w a l) (hb : Below w.heap.size w w') : RowQ w' a l := h.keep (Chg.of_below (fun _ => False) hb) (fun _ _ x => x)

namespace Lb
def gtB (a b : List UInt8) : Bool := !(Op.bytesLess b a || b == a)
/-- Right pairs, behind a name. -/
def okL : List UInt8 → List Pr → Bool
  | _, [] => true
  | last, p :: l => nameB p.1.data.toList && (valueB p.2.data.toList && (gtB last p.1.data.toList && okL p.1.data.toList l))
def chkL (l : List Pr) : Nat := if 1 ≤ l.length ∧ l.length ≤ 8 ∧ okL [] l = true then 0 else 16
end Lb

theorem okL_drop {last : List UInt8} {l : List Pr} {j : Nat} {pn pv : ByteArray} (h : l[j]? = some (pn, pv)) : okL last (l.drop j) = (nameB pn.data.toList && (valueB pv.data.toList && (gtB last pn.data.toList && okL pn.data.toList (l.drop (j + 1))))) := by
  have hlt : j < l.length := by
    rcases Nat.lt_or_ge j l.length with h1 | h1
    · exact h1
    · rw [List.getElem?_eq_none h1] at h; cases h
  rw [List.getElem?_eq_getElem hlt] at h
  rw [List.drop_eq_getElem_cons hlt, Option.some.inj h]
  rfl
structure LcAt (w wr : World) (O : Bool) (l : List Pr) (n : Nat) (v3 v4 v17 : Value) : Prop where
  ex : ∃ (j : Nat) (ok : Bool) (last : ByteArray), j ≤ n ∧ v17 = .int .i64 j ∧ v3 = .bool ok ∧ v4 = .string last ∧ Hid ((O && okL [] l) = (ok && okL last.data.toList (l.drop j))) ∧ Below w.heap.size w wr
theorem LcAt.step {w wr : World} {O : Bool} {l : List Pr} {n j : Nat} {ok NB VB GB : Bool} {last pn pv : ByteArray} (hj : j + 1 ≤ n) (h : l[j]? = some (pn, pv)) (hok : (O && okL [] l) = (ok && okL last.data.toList (l.drop j))) (h1 : nameB pn.data.toList = NB) (h2 : valueB pv.data.toList = VB) (h3 : gtB last.data.toList pn.data.toList = GB) (ok2 : Bool) (he : ok2 = (ok && (NB && (VB && GB)))) (hb : Below w.heap.size w wr) : LcAt w wr O l n (.bool ok2) (.string pn) (.int .i64 ((j : Int) + 1)) := by
  refine ⟨j + 1, ok2, pn, hj, by simp, rfl, rfl, Lib.hid ?_, hb⟩
  rw [hok, okL_drop h, h1, h2, h3, he]
  simp only [Bool.and_assoc]

set_option maxRecDepth 100000 in
set_option maxHeartbeats 2000000 in
theorem lcheck_any (l : List Pr) (a : Option Addr) (n c : Nat) (hn : l.length = n) (hb : n ≤ 4611686018427387904) (hsz : ∀ p ∈ l, p.1.size ≤ 4611686018427387904 ∧ p.2.size ≤ 4611686018427387904) (w : World) (hr : RowQ w a l) :
    Calls Tryd.prog 34 #[.slice a n c] w fun e w' => e = .returned (.int .i64 (chkL l : Nat)) ∧ Below w.heap.size w w' := by
  obtain ⟨E, hE⟩ : ∃ E, Hid (chkL l = E) := ⟨_, Lib.hid rfl⟩
  rw [hE.out]
  have Hsz := Lib.hid hsz
  clear hsz
  go_enter Tryd.func34, Tryd.ntmps34
  obtain ⟨O, hO⟩ : ∃ O, Hid ((decide (1 ≤ n) && decide (n ≤ 8)) = O) := ⟨_, Lib.hid rfl⟩
  go_upto_region 1 with (fail)
  go_cut [3] from 7 to 14 (fun v3 wx => v3 = .bool O ∧ wx = w)
  case first =>
    by_cases h1 : 1 ≤ n
    · have h1i : (1 : Int) ≤ (n : Int) := by omega
      by_cases h8 : n ≤ 8
      · have h8i : (n : Int) ≤ 8 := by omega
        have hO2 : O = true := by rw [← hO.out]; simp; omega
        subst hO2
        go_wp2
        go_meet
        case rel => exact ⟨rfl, rfl⟩
      · have h8i : ¬ (n : Int) ≤ 8 := by omega
        have hO2 : O = false := by rw [← hO.out]; simp; omega
        subst hO2
        go_wp2
        go_meet
        case rel => exact ⟨rfl, rfl⟩
    · have h1i : ¬ (1 : Int) ≤ (n : Int) := by omega
      have hO2 : O = false := by rw [← hO.out]; simp; omega
      subst hO2
      go_wp2
      go_meet
      case rel => exact ⟨rfl, rfl⟩
  case rest =>
    obtain ⟨rfl, rfl⟩ := hcut
    go_upto_region 4 with (fail)
    go_loopw [3, 4, 17] (fun v3 v4 v17 wr => LcAt wc wr O l n v3 v4 v17) (fun _ _ v17 _ => n - (intOf v17).toNat)
    case atStart => exact ⟨0, O, { data := #[] }, by omega, rfl, rfl, rfl, Lib.hid rfl, Below.refl _ _⟩
    case round =>
      obtain ⟨j, ok, last, hj, rfl, rfl, rfl, hok, hbw⟩ := hrel
      by_cases hlt : j < n
      · have hji : (j : Int) < (n : Int) := by omega
        obtain ⟨p, hp⟩ : ∃ p, l[j]? = some p := ⟨_, List.getElem?_eq_getElem (by omega)⟩
        obtain ⟨pn, pv⟩ := p
        rcases (hr.below hbw).row with h0 | ⟨x, rfl, hc⟩
        · rw [h0] at hp; simp at hp
        obtain ⟨c0, c1⟩ := hc j _ hp
        simp only at c0 c1
        have Hp := Lib.hid hp
        clear hc hp
        go_upto_region 6 with (fail)
        have hq := RowV.new wr [.string pn, .string pv] 47
        have hba : Below wr.heap.size wr (wr.alloc (.cells #[.string pn, .string pv] 47)) := (Below.refl _ _).alloc (Nat.le_refl _) _
        obtain ⟨Wb, hWb⟩ : ∃ Wb, Hid (Wb = wr.alloc (.cells #[.string pn, .string pv] 47)) := ⟨_, Lib.hid rfl⟩
        obtain ⟨q, hqq⟩ : ∃ q, Hid (q = wr.heap.size) := ⟨_, Lib.hid rfl⟩
        have hx : RowV Wb q [.string pn, .string pv] := by rw [hWb.out, hqq.out]; exact hq
        rw [← hWb.out] at hba ⊢
        rw [← hqq.out]
        have hbb := below_tr hbw hba
        clear hq hWb hba c0 c1
        have q0 := (hx 0 _ rfl).1
        have q1 := (hx 1 _ rfl).1
        obtain ⟨NB, hNB⟩ : ∃ NB, Hid (nameB pn.data.toList = NB) := ⟨_, Lib.hid rfl⟩
        obtain ⟨VB, hVB⟩ : ∃ VB, Hid (valueB pv.data.toList = VB) := ⟨_, Lib.hid rfl⟩
        have LN := fun W => lname_any pn (Hsz.out _ (List.mem_of_getElem? Hp.out)).1 W
        have LV := fun W => lvalue_any pv (Hsz.out _ (List.mem_of_getElem? Hp.out)).2 W
        rw [hNB.out] at LN
        rw [hVB.out] at LV
        obtain ⟨b1, hb1'⟩ : ∃ b, Op.bytesLess pn.toList last.toList = b := ⟨_, rfl⟩
        obtain ⟨b2, hb2'⟩ : ∃ b, (pn.toList == last.toList) = b := ⟨_, rfl⟩
        have hGB : Hid (gtB last.data.toList pn.data.toList = !(b1 || b2)) := Lib.hid (by
          unfold gtB; rw [← hb1', ← hb2', ByteArray.toList_eq, ByteArray.toList_eq])
        have step := fun W ok2 he hb => LcAt.step (w := wc) (wr := W) (n := n) (by omega) Hp.out hok.out hNB.out hVB.out hGB.out ok2 he hb
        have Step := Lib.hid step
        clear step
        cases ok with
        | false =>
          go_wp2
          go_roundw
          case rel => exact Step.out _ _ (by simp) hbb
          case measure => simp [intOf]; omega
        | true =>
          cases NB with
          | false =>
            go_upto_region 7 with (go_at_call 54; refine (LN _).mono ?_; rintro y w1 ⟨rfl, hb1⟩; have hx1 := hx.below hb1; have r0 := (hx1 0 _ rfl).1; have r1 := (hx1 1 _ rfl).1)
            go_wp2
            go_roundw
            case rel => exact Step.out _ _ (by simp) (below_tr hbb hb1)
            case measure => simp [intOf]; omega
          | true =>
            cases VB with
            | false =>
              go_upto_region 7 with (first
                | (go_at_call 54; refine (LN _).mono ?_; rintro y w1 ⟨rfl, hb1⟩; have hx1 := hx.below hb1; have r0 := (hx1 0 _ rfl).1; have r1 := (hx1 1 _ rfl).1)
                | (go_at_call 55; refine (LV _).mono ?_; rintro y w2 ⟨rfl, hb2⟩; have hx2 := hx1.below hb2; have s0 := (hx2 0 _ rfl).1; have s1 := (hx2 1 _ rfl).1))
              go_wp2
              go_roundw
              case rel => exact Step.out _ _ (by simp) (below_tr (below_tr hbb hb1) hb2)
              case measure => simp [intOf]; omega
            | true =>
              go_upto_region 7 with (first
                | (go_at_call 54; refine (LN _).mono ?_; rintro y w1 ⟨rfl, hb1⟩; have hx1 := hx.below hb1; have r0 := (hx1 0 _ rfl).1; have r1 := (hx1 1 _ rfl).1)
                | (go_at_call 55; refine (LV _).mono ?_; rintro y w2 ⟨rfl, hb2⟩; have hx2 := hx1.below hb2; have s0 := (hx2 0 _ rfl).1; have s1 := (hx2 1 _ rfl).1))
              go_wp2
              go_roundw
              case rel => exact Step.out _ _ (by simp) (below_tr (below_tr hbb hb1) hb2)
              case measure => simp [intOf]; omega
      · obtain rfl : j = n := by omega
        have hji : ¬ (j : Int) < (j : Int) := by omega
        have hd : l.drop j = [] := List.drop_eq_nil_iff.mpr (by omega)
        have hr1 : E = if ok = true then 0 else 16 := by
          have h1 := hok.out
          rw [hd] at h1
          have h2 : (1 ≤ j ∧ j ≤ 8 ∧ okL [] l = true) ↔ ok = true := by
            have h3 : ok = (O && okL [] l) := by rw [h1]; simp [okL]
            rw [h3, ← hO.out]; simp [and_assoc]
          rw [← hE.out]; unfold chkL; rw [hn]; simp only [h2]
        cases ok with
        | false =>
          simp at hr1
          subst hr1
          go_wp2
          go_ret
          exact ⟨rfl, hbw⟩
        | true =>
          simp at hr1
          subst hr1
          go_wp2
          go_ret
          exact ⟨rfl, hbw⟩

/-- What is known ahead of a round of the document's check. -/
def lastOf (l : List Pr) (j : Nat) : List UInt8 := if j = 0 then [] else ((l[j - 1]?).map fun p => p.1.data.toList).getD []
theorem gtB_nil {a : List UInt8} (h : nameB a = true) : gtB [] a = true := by
  cases a with
  | nil => cases h
  | cons b r => simp [gtB, Op.bytesLess]

set_option maxRecDepth 100000 in
set_option maxHeartbeats 4000000 in
theorem rlcheck_any (l : List Pr) (a : Option Addr) (n c : Nat) (hn : l.length = n) (hb : n ≤ 4611686018427387904) (hsz : ∀ p ∈ l, p.1.size ≤ 4611686018427387904 ∧ p.2.size ≤ 4611686018427387904) (w : World) (hr : RowQ w a l) :
    Calls Tryd.prog 36 #[.slice a n c] w fun e w' => e = .returned (.int .i64 (chkL l : Nat)) ∧ Below w.heap.size w w' := by
  obtain ⟨E, hE⟩ : ∃ E, Hid (chkL l = E) := ⟨_, Lib.hid rfl⟩
  rw [hE.out]
  have Hsz := Lib.hid hsz
  clear hsz
  go_enter Tryd.func36, Tryd.ntmps36
  rcases (by omega : n < 1 ∨ (¬ n < 1 ∧ 8 < n) ∨ (¬ n < 1 ∧ n ≤ 8)) with h | ⟨h, h8⟩ | ⟨h, h8⟩
  · have hi : (n : Int) < 1 := by omega
    have hr1 : E = 16 := by rw [← hE.out]; unfold chkL; rw [if_neg (by omega)]
    subst hr1
    go_wp2
    go_ret
    exact ⟨rfl, Below.refl _ _⟩
  · have hi : ¬ (n : Int) < 1 := by omega
    have h8i : (8 : Int) < (n : Int) := by omega
    have hr1 : E = 16 := by rw [← hE.out]; unfold chkL; rw [if_neg (by omega)]
    subst hr1
    go_wp2
    go_ret
    exact ⟨rfl, Below.refl _ _⟩
  · have hi : ¬ (n : Int) < 1 := by omega
    have h8i : (n : Int) ≤ 8 := by omega
    go_upto_region 4 with (fail)
    go_loopw [3] (fun v3 wr => ∃ (j : Nat), j ≤ n ∧ v3 = .int .i64 j ∧ Hid (okL [] l = okL (lastOf l j) (l.drop j)) ∧ Below w.heap.size w wr) (fun v3 _ => n - (intOf v3).toNat)
    case atStart => exact ⟨0, by omega, rfl, Lib.hid rfl, Below.refl _ _⟩
    case round =>
      obtain ⟨j, hj, rfl, hok, hbw⟩ := hrel
      by_cases hlt : j < n
      · have hji : (j : Int) < (n : Int) := by omega
        obtain ⟨p, hp⟩ : ∃ p, l[j]? = some p := ⟨_, List.getElem?_eq_getElem (by omega)⟩
        obtain ⟨pn, pv⟩ := p
        rcases (hr.below hbw).row with h0 | ⟨x, rfl, hc⟩
        · rw [h0] at hp; simp at hp
        obtain ⟨c0, c1⟩ := hc j _ hp
        simp only at c0 c1
        obtain ⟨NB, hNB⟩ : ∃ NB, Hid (nameB pn.data.toList = NB) := ⟨_, Lib.hid rfl⟩
        obtain ⟨VB, hVB⟩ : ∃ VB, Hid (valueB pv.data.toList = VB) := ⟨_, Lib.hid rfl⟩
        have LN := fun W => rname_any pn (Hsz.out _ (List.mem_of_getElem? hp)).1 W
        have LV := fun W => rvalue_any pv (Hsz.out _ (List.mem_of_getElem? hp)).2 W
        rw [hNB.out] at LN
        rw [hVB.out] at LV
        have Hp := Lib.hid hp
        have Hc := Lib.hid hc
        clear hc hp
        have hlast : lastOf l (j + 1) = pn.data.toList := by unfold lastOf; rw [if_neg (by omega), Nat.add_sub_cancel, Hp.out]; rfl
        go_upto_region 6 with (fail)
        cases NB with
        | false =>
          have hr1 : E = 16 := by
            rw [← hE.out]; unfold chkL; rw [hok.out, okL_drop Hp.out, hNB.out]; simp
          subst hr1
          go_quiet ((go_at_call 57; exact Calls.quiet_of_same (LN _)))
          go_wp2
          go_ret
          exact ⟨rfl, below_drewN hbw _⟩
        | true =>
          cases VB with
          | false =>
            have hr1 : E = 16 := by
              rw [← hE.out]; unfold chkL; rw [hok.out, okL_drop Hp.out, hNB.out, hVB.out]; simp
            subst hr1
            go_quiet (first
              | (go_at_call 57; exact Calls.quiet_of_same (LN _))
              | (go_at_call 58; exact Calls.quiet_of_same (LV _)))
            go_wp2
            go_ret
            exact ⟨rfl, below_drewN hbw _⟩
          | true =>
            by_cases hj0 : j = 0
            · have hok2 : Hid (okL [] l = okL (lastOf l (j + 1)) (l.drop (j + 1))) := Lib.hid (by
                rw [hok.out, okL_drop Hp.out, hNB.out, hVB.out, hlast]
                rw [show lastOf l j = [] from by rw [hj0]; rfl, gtB_nil hNB.out]; simp)
              have hjd : decide ((0 : Int) < (j : Int)) = false := decide_eq_false (by omega)
              have hjd2 : decide (0 < j) = false := decide_eq_false (by omega)
              clear hj0
              go_quiet (first
                | (go_at_call 57; exact Calls.quiet_of_same (LN _))
                | (go_at_call 58; exact Calls.quiet_of_same (LV _)))
              go_wp2
              go_roundw
              case rel => exact ⟨j + 1, by omega, by go_num, hok2, below_drewN hbw _⟩
              case measure => simp [intOf]; omega
            · obtain ⟨p', hp'⟩ : ∃ p', l[j - 1]? = some p' := ⟨_, List.getElem?_eq_getElem (by omega)⟩
              obtain ⟨ln, lv⟩ := p'
              obtain ⟨d0, _⟩ := Hc.out (j - 1) _ hp'
              simp only at d0
              have hll : lastOf l j = ln.data.toList := by unfold lastOf; rw [if_neg hj0, hp']; rfl
              have hj1 : ((j : Int) - 1) = ((j - 1 : Nat) : Int) := by omega
              have hjd : decide ((0 : Int) < (j : Int)) = true := decide_eq_true (by omega)
              have hjd2 : decide (0 < j) = true := decide_eq_true (by omega)
              have hj2 : 0 ≤ (j : Int) - 1 := by omega
              have hj3 : (j : Int) - 1 < (n : Int) := by omega
              have hj4 : IntKind.i64.wrap ((j : Int) - 1) = (j : Int) - 1 := by rw [IntKind.wrap_i64]; omega
              have hj5 : ((j : Int) - 1).toNat = j - 1 := by omega
              obtain ⟨b1, hb1'⟩ : ∃ b, Op.bytesLess pn.toList ln.toList = b := ⟨_, rfl⟩
              obtain ⟨b2, hb2'⟩ : ∃ b, (pn.toList == ln.toList) = b := ⟨_, rfl⟩
              have hGB : Hid (gtB ln.data.toList pn.data.toList = !(b1 || b2)) := Lib.hid (by
                unfold gtB; rw [← hb1', ← hb2', ByteArray.toList_eq, ByteArray.toList_eq])
              have hok2 : Hid (okL [] l = ((!(b1 || b2)) && okL (lastOf l (j + 1)) (l.drop (j + 1)))) := Lib.hid (by
                rw [hok.out, okL_drop Hp.out, hNB.out, hVB.out, hlast, hll, hGB.out]; simp)
              clear hj1 hp' hll
              go_quiet (first
                | (go_at_call 57; exact Calls.quiet_of_same (LN _))
                | (go_at_call 58; exact Calls.quiet_of_same (LV _)))
              obtain ⟨B, hB⟩ : ∃ B, (b1 || b2) = B := ⟨_, rfl⟩
              rw [hB] at hok2 hGB ⊢
              clear hb1' hb2' hB d0
              cases B with
              | true =>
                have hr1 : E = 16 := by
                  rw [← hE.out]; unfold chkL; rw [hok2.out]; simp
                subst hr1
                go_wp2
                go_ret
                exact ⟨rfl, below_drewN hbw _⟩
              | false =>
                go_wp2
                go_roundw
                case rel => exact ⟨j + 1, by omega, by go_num, Lib.hid (by rw [hok2.out]; simp), below_drewN hbw _⟩
                case measure => simp [intOf]; omega
      · obtain rfl : j = n := by omega
        have hji : ¬ (j : Int) < (j : Int) := by omega
        have hd : l.drop j = [] := List.drop_eq_nil_iff.mpr (by omega)
        have hr1 : E = 0 := by
          rw [← hE.out]; unfold chkL; rw [hok.out, hd, if_pos ⟨by omega, by omega, rfl⟩]
        subst hr1
        go_wp2
        go_ret
        exact ⟨rfl, hbw⟩
end Go.Proofs.YtjmcpdhfefcdgaaDoor
