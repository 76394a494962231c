/- Pairs compared; a name's value. -/
import Derived.Test.YtjmcpdhfefcdgaaDoorLc
namespace Go.Proofs.YtjmcpdhfefcdgaaDoor
open Go.RowKit Lb

namespace Lb
/-- How two pairs stand that are not the same. -/
def cmpP (p q : Pr) : Int := if p.1 = q.1 then Lib.compareBytes p.2.data.toList q.2.data.toList else Lib.compareBytes p.1.data.toList q.1.data.toList
def cmpL : List Pr → List Pr → Int
  | [], [] => 0
  | [], _ :: _ => -1
  | _ :: _, [] => 1
  | p :: a, q :: b => if p = q then cmpL a b else cmpP p q
theorem cmp_drop {a b : List Pr} {j : Nat} {p q : Pr} (h : a[j]? = some p) (k : b[j]? = some q) : cmpL (a.drop j) (b.drop j) = if p = q then cmpL (a.drop (j + 1)) (b.drop (j + 1)) else cmpP p q := by
  have h1 : j < a.length := by
    rcases Nat.lt_or_ge j a.length with h1 | h1
    · exact h1
    · rw [List.getElem?_eq_none h1] at h; cases h
  have h2 : j < b.length := by
    rcases Nat.lt_or_ge j b.length with h1 | h1
    · exact h1
    · rw [List.getElem?_eq_none h1] at k; cases k
  rw [List.getElem?_eq_getElem h1] at h
  rw [List.getElem?_eq_getElem h2] at k
  rw [List.drop_eq_getElem_cons h1, List.drop_eq_getElem_cons h2, Option.some.inj h, Option.some.inj k]
  rfl
theorem bs_eq {a b : ByteArray} : (a.toList == b.toList) = decide (a = b) := by
  rw [ByteArray.toList_eq, ByteArray.toList_eq, Bool.eq_iff_iff]
  simp only [beq_iff_eq, decide_eq_true_eq]
  constructor
  · intro h; rw [← mkS_toList a, ← mkS_toList b, h]
  · intro h; rw [h]
end Lb

namespace Lb
theorem cmp_less : ∀ a b : List UInt8, Lib.compareBytes a b = if Op.bytesLess a b = true then -1 else if a = b then 0 else 1 := by
  intro a
  induction a with
  | nil =>
    intro b
    cases b with
    | nil => rfl
    | cons y b => rfl
  | cons x a ih =>
    intro b
    cases b with
    | nil => simp [Lib.compareBytes, Op.bytesLess]
    | cons y b =>
      have hx := x.toNat_lt
      have hy := y.toNat_lt
      simp only [Lib.compareBytes, Op.bytesLess, List.cons.injEq]
      by_cases h1 : x < y
      · simp [h1]
      · by_cases h2 : y < x
        · have h3 : ¬ x = y := fun e => by subst e; exact h1 h2
          simp [h1, h2, h3]
        · have h3 : x = y := by
            rw [UInt8.lt_iff_toNat_lt] at h1 h2
            exact UInt8.toNat_inj.mp (by omega)
          subst h3
          simp [h1, ih b]
theorem cmpP_doc {p q : Pr} (h : p ≠ q) : cmpP p q = if (Op.bytesLess p.1.toList q.1.toList || ((p.1.toList == q.1.toList) && Op.bytesLess p.2.toList q.2.toList)) = true then -1 else 1 := by
  unfold cmpP
  rw [cmp_less, cmp_less, bs_eq, ByteArray.toList_eq, ByteArray.toList_eq, ByteArray.toList_eq, ByteArray.toList_eq]
  have hne : ∀ a b : ByteArray, a ≠ b → ¬ a.data.toList = b.data.toList := fun a b h e => h (by rw [← mkS_toList a, ← mkS_toList b, e])
  by_cases h1 : p.1 = q.1
  · have h2 : p.2 ≠ q.2 := fun e => h (Prod.ext h1 e)
    rw [if_pos h1, if_neg (hne _ _ h2)]
    have h3 : Op.bytesLess p.1.data.toList q.1.data.toList = false := by
      have := cmp_less p.1.data.toList q.1.data.toList
      rw [h1] at this ⊢
      have hr : Lib.compareBytes q.1.data.toList q.1.data.toList = 0 := by
        generalize q.1.data.toList = l
        induction l with
        | nil => rfl
        | cons x l ih => simp [Lib.compareBytes, ih]
      rw [hr] at this
      cases hb : Op.bytesLess q.1.data.toList q.1.data.toList with
      | false => rfl
      | true => rw [hb] at this; simp at this
    rw [h3, decide_eq_true h1]
    simp
  · rw [if_neg h1, if_neg (hne _ _ h1), decide_eq_false h1]
    simp
end Lb

set_option maxRecDepth 100000 in
set_option maxHeartbeats 4000000 in
theorem rlcompare_any (l l' : List Pr) (a b : Option Addr) (n c n' c' : Nat) (hn : l.length = n) (hn' : l'.length = n') (hb : n ≤ 4611686018427387904) (hb' : n' ≤ 4611686018427387904) (w : World) (hr : RowQ w a l) (hr' : RowQ w b l') :
    Calls Tryd.prog 60 #[.slice a n c, .slice b n' c'] w fun e w' => e = .returned (.int .i64 (cmpL l l')) ∧ Below w.heap.size w w' := by
  obtain ⟨E, hE⟩ : ∃ E, Hid (cmpL l l' = E) := ⟨_, Lib.hid rfl⟩
  rw [hE.out]
  go_enter Tryd.func60, Tryd.ntmps60
  go_upto_region 2 with (fail)
  go_loopw [5] (fun v5 wr => ∃ (j : Nat), j ≤ n ∧ j ≤ n' ∧ v5 = .int .i64 j ∧ Hid (E = cmpL (l.drop j) (l'.drop j)) ∧ Below w.heap.size w wr) (fun v5 _ => n - (intOf v5).toNat)
  case atStart => exact ⟨0, by omega, by omega, rfl, Lib.hid hE.out.symm, Below.refl _ _⟩
  case round =>
    obtain ⟨j, hj, hj', rfl, hok, hbw⟩ := hrel
    by_cases hlt : j < n
    · have hji : (j : Int) < (n : Int) := by omega
      by_cases hlt' : j < n'
      · have hji' : (j : Int) < (n' : Int) := by omega
        obtain ⟨⟨pn, pv⟩, hp⟩ : ∃ p, l[j]? = some p := ⟨_, List.getElem?_eq_getElem (by omega)⟩
        rcases (hr.below hbw).row with h0 | ⟨x, rfl, hc⟩
        · rw [h0] at hp; simp at hp
        obtain ⟨c0, c1⟩ := hc j _ hp
        simp only at c0 c1
        obtain ⟨⟨qn, qv⟩, hq⟩ : ∃ q, l'[j]? = some q := ⟨_, List.getElem?_eq_getElem (by omega)⟩
        rcases (hr'.below hbw).row with h0 | ⟨y, rfl, hd⟩
        · rw [h0] at hq; simp at hq
        obtain ⟨d0, d1⟩ := hd j _ hq
        simp only at d0 d1
        have hstep := Lib.hid (cmp_drop hp hq)
        clear hc hd hp hq
        obtain ⟨LN, hLN⟩ : ∃ b, Op.bytesLess pn.toList qn.toList = b := ⟨_, rfl⟩
        obtain ⟨LV, hLV⟩ : ∃ b, Op.bytesLess pv.toList qv.toList = b := ⟨_, rfl⟩
        obtain ⟨EN, hEN⟩ : ∃ b, (pn.toList == qn.toList) = b := ⟨_, rfl⟩
        obtain ⟨EV, hEV⟩ : ∃ b, (pv.toList == qv.toList) = b := ⟨_, rfl⟩
        have hres : Hid (E = if (EN && EV) = true then cmpL (l.drop (j + 1)) (l'.drop (j + 1)) else if (LN || (EN && LV)) = true then -1 else 1) := Lib.hid (by
          rw [hok.out, hstep.out]
          have hpq : ((pn, pv) = (qn, qv)) ↔ (EN && EV) = true := by
            rw [← hEN, ← hEV, bs_eq, bs_eq]; simp
          by_cases h : (pn, pv) = (qn, qv)
          · rw [if_pos h, if_pos (hpq.mp h)]
          · rw [if_neg h, if_neg (fun h2 => h (hpq.mpr h2)), cmpP_doc h]
            simp only
            rw [hLN, hEN, hLV])
        have hirr : LN = true → EN = false := fun h => by
          rw [← hEN, bs_eq]
          refine decide_eq_false (fun e => ?_)
          subst e
          have h1 := cmp_less pn.toList pn.toList
          rw [hLN, h] at h1
          have hr : Lib.compareBytes pn.toList pn.toList = 0 := by
            generalize pn.toList = l
            induction l with
            | nil => rfl
            | cons x l ih => simp [Lib.compareBytes, ih]
          rw [hr] at h1; simp at h1
        have hirrV : LV = true → EV = false := fun h => by
          rw [← hEV, bs_eq]
          refine decide_eq_false (fun e => ?_)
          subst e
          have h1 := cmp_less pv.toList pv.toList
          rw [hLV, h] at h1
          have hr : Lib.compareBytes pv.toList pv.toList = 0 := by
            generalize pv.toList = l
            induction l with
            | nil => rfl
            | cons x l ih => simp [Lib.compareBytes, ih]
          rw [hr] at h1; simp at h1
        have Hirr := Lib.hid hirr
        have HirrV := Lib.hid hirrV
        clear hirr hirrV
        go_upto_region 4 with (fail)
        cases LN with
        | true =>
          have hE2 : E = -1 := by rw [hres.out, Hirr.out rfl]; simp
          subst hE2
          go_quiet (fail)
          go_wp2
          go_ret
          exact ⟨rfl, below_drewN hbw _⟩
        | false =>
          cases EN with
          | true =>
            cases LV with
            | true =>
              have hE2 : E = -1 := by rw [hres.out, HirrV.out rfl]; simp
              subst hE2
              go_quiet (fail)
              go_wp2
              go_ret
              exact ⟨rfl, below_drewN hbw _⟩
            | false =>
              cases EV with
              | true =>
                go_quiet (fail)
                go_upto_region 6 with (fail)
                go_quiet (fail)
                go_wp2
                go_roundw
                case rel => exact ⟨j + 1, by omega, by omega, by go_num, Lib.hid (by rw [hres.out]; simp), below_drewN hbw _⟩
                case measure => simp [intOf]; omega
              | false =>
                have hE2 : E = 1 := by rw [hres.out]; simp
                subst hE2
                go_quiet (fail)
                go_upto_region 6 with (fail)
                go_quiet (fail)
                go_wp2
                go_ret
                exact ⟨rfl, below_drewN hbw _⟩
          | false =>
            have hE2 : E = 1 := by rw [hres.out]; simp
            subst hE2
            go_quiet (fail)
            go_upto_region 6 with (fail)
            go_quiet (fail)
            go_wp2
            go_ret
            exact ⟨rfl, below_drewN hbw _⟩
      · have hji' : ¬ (j : Int) < (n' : Int) := by omega
        obtain rfl : j = n' := by omega
        have hE2 : E = 1 := by
          rw [hok.out, show l'.drop j = [] from List.drop_eq_nil_iff.mpr (by omega)]
          cases h : l.drop j with
          | nil => have := List.drop_eq_nil_iff.mp h; omega
          | cons p r => rfl
        have hlx : ¬ (n : Int) < (j : Int) := by omega
        subst hE2
        go_wp2
        go_ret
        exact ⟨rfl, hbw⟩
    · obtain rfl : j = n := by omega
      have hji : ¬ (j : Int) < (j : Int) := by omega
      have hd : l.drop j = [] := List.drop_eq_nil_iff.mpr (by omega)
      by_cases hlt' : j < n'
      · have hji' : (j : Int) < (n' : Int) := by omega
        have hE2 : E = -1 := by
          rw [hok.out, hd]
          cases h : l'.drop j with
          | nil => have := List.drop_eq_nil_iff.mp h; omega
          | cons p r => rfl
        subst hE2
        go_wp2
        go_ret
        exact ⟨rfl, hbw⟩
      · have hji' : ¬ (j : Int) < (n' : Int) := by omega
        have hjj : ¬ (n' : Int) < (j : Int) := by omega
        have hE2 : E = 0 := by
          rw [hok.out, hd, show l'.drop j = [] from List.drop_eq_nil_iff.mpr (by omega)]; rfl
        subst hE2
        go_wp2
        go_ret
        exact ⟨rfl, hbw⟩

theorem rlsame_any (l l' : List Pr) (a b : Option Addr) (n c n' c' : Nat) (hn : l.length = n) (hn' : l'.length = n') (hb : n ≤ 4611686018427387904) (hb' : n' ≤ 4611686018427387904) (w : World) (hr : RowQ w a l) (hr' : RowQ w b l') :
    Calls Tryd.prog 39 #[.slice a n c, .slice b n' c'] w fun e w' => e = .returned (.bool (cmpL l l' == 0)) ∧ Below w.heap.size w w' := by
  have RC := fun W h h' => rlcompare_any l l' a b n c n' c' hn hn' hb hb' W h h'
  go_enter Tryd.func39, Tryd.ntmps39
  go_wp2_with (go_at_call 60; refine (RC _ hr hr').mono ?_; rintro z w1 ⟨rfl, hb1⟩)
  go_ret
  exact ⟨rfl, hb1⟩

namespace Lb
/-- A name's value. -/
def getL : List Pr → ByteArray → ByteArray
  | [], _ => { data := #[] }
  | p :: l, n => if p.1 = n then p.2 else getL l n
theorem get_drop {l : List Pr} {j : Nat} {p : Pr} {nm : ByteArray} (h : l[j]? = some p) : getL (l.drop j) nm = if p.1 = nm then p.2 else getL (l.drop (j + 1)) nm := by
  have h1 : j < l.length := by
    rcases Nat.lt_or_ge j l.length with h1 | h1
    · exact h1
    · rw [List.getElem?_eq_none h1] at h; cases h
  rw [List.getElem?_eq_getElem h1] at h
  rw [List.drop_eq_getElem_cons h1, Option.some.inj h]
  rfl
end Lb

end Go.Proofs.YtjmcpdhfefcdgaaDoor
