/- The law of more matchers. -/
import Derived.Test.YtlddedddcdhjnaaDoorMw
import Derived.Test.YtlddedddcdhjnaaDoorCopy
namespace Go.Proofs.YtlddedddcdhjnaaDoor
open Go.RowKit Lb Dig

namespace Lb
theorem isM_app {l m : List Mt} {L : List Pr} (h : isM (l ++ m) L = true) : isM l L = true ∧ isM m L = true := by
  unfold isM at h ⊢
  simp only [Bool.and_eq_true, decide_eq_true_eq, List.all_append] at h ⊢
  obtain ⟨h8, hok⟩ := chkM_ok h.1
  rw [List.length_append] at h8
  exact ⟨⟨chkM_zero (by omega) (fun x hx => hok x (List.mem_append_left _ hx)), h.2.1⟩, ⟨chkM_zero (by omega) (fun x hx => hok x (List.mem_append_right _ hx)), h.2.2⟩⟩
theorem chkM_one (m : Mt) : chkM [m] = rightM m := by
  unfold chkM rightsM
  simp only [List.length_cons, List.length_nil, rightsM]
  rw [if_neg (by omega)]
  split <;> simp_all
theorem chk_12 (n v : ByteArray) : chkM [(2, n, v)] = chkM [(1, n, v)] := by
  rw [chkM_one, chkM_one]
  simp [rightM]
theorem isM_one (m : Mt) (L : List Pr) : isM [m] L = (decide (chkM [m] = 0) && holdsM m (getL L m.2.1)) := by
  simp [isM]
end Lb

set_option maxRecDepth 100000 in
set_option maxHeartbeats 8000000 in
theorem matchMore_walk (a : Option Addr) (n c : Nat) (l : List Mt) (b : Option Addr) (n' c' : Nat) (l' : List Mt) (d : Option Addr) (n3 c3 : Nat) (L : List Pr) (nm vl : ByteArray) (hn : l.length = n) (hs : n * 40 ≤ 140737488351232) (hn' : l'.length = n') (hs' : n' * 40 ≤ 140737488351232) (hn3 : L.length = n3) (hs3 : n3 * 32 ≤ 140737488351232) (hnm : nm.size ≤ 140737488351232) (hvl : vl.size ≤ 140737488351232) (hroom : n + n' ≤ 3000000)
    (w : World) (hg : RowM w a l) (hc : (a = none → c = 0) ∧ n ≤ c) (hg' : RowM w b l') (hc' : (b = none → c' = 0) ∧ n' ≤ c') (hg3 : RowG isSS 2 w d L) (_hc3 : (d = none → c3 = 0) ∧ n3 ≤ c3) :
    Calls Tryd.prog 12 #[.slice a n c, .slice b n' c', .slice d n3 c3, .string nm, .string vl] w fun e w' => e = .returned (.bool true) ∧ Below w.heap.size w w' := by
  obtain ⟨i0, hi, hz0, hz1, hz2⟩ := pinfo_of minfo
  have hq3 := (RowQ.of_rowG hg3).1
  have hm1 := RowM.mem hg
  have hm2 := RowM.mem hg'
  have hmA : ∀ m ∈ l ++ l', (Lit.int .i64 m.1).wf = true ∧ m.2.1.size ≤ 140737488351232 ∧ m.2.2.size ≤ 140737488351232 := fun m hm => by
    rcases List.mem_append.mp hm with h | h
    · exact hm1 m h
    · exact hm2 m h
  have HmA := Lib.hid hmA
  have W1 := fun W => mworks_any W
  have O1 := fun W h => mown_any l a n c hn hs hc W h
  have O2 := fun W h => mown_any l' b n' c' hn' hs' hc' W h
  have IA := fun (x : Option Addr) N k W hN h h' => mis_any (l ++ l') x N k L d n3 c3 hN (by have h9 : (l ++ l').length = N := hN; rw [List.length_append] at h9; omega) hn3 (by omega) W h h'
  have I1 := fun (x : Option Addr) k W h h' => mis_any l x n k L d n3 c3 hn (by omega) hn3 (by omega) W h h'
  have I2 := fun (x : Option Addr) k W h h' => mis_any l' x n' k L d n3 c3 hn' (by omega) hn3 (by omega) W h h'
  obtain ⟨A, hA⟩ : ∃ A, Hid (isM (l ++ l') L = A) := ⟨_, Lib.hid rfl⟩
  rw [hA.out] at IA
  have CX := fun x W h => mcheck_any [(1, nm, vl)] (some ⟨x, 0, none⟩) 1 1 rfl (by omega) W h
  have IX := fun x W h h' => mis_any [(1, nm, vl)] (some ⟨x, 0, none⟩) 1 1 L d n3 c3 rfl (by omega) hn3 (by omega) W h h'
  have IY := fun x W h h' => mis_any [(2, nm, vl)] (some ⟨x, 0, none⟩) 1 1 L d n3 c3 rfl (by omega) hn3 (by omega) W h h'
  rw [isM_one, chk_12] at IY
  rw [isM_one] at IX
  obtain ⟨C, hC⟩ : ∃ C, Hid (chkM [(1, nm, vl)] = C) := ⟨_, Lib.hid rfl⟩
  rw [hC.out] at CX IX IY
  obtain ⟨X, hX⟩ : ∃ X, Hid (decide (getL L nm = vl) = X) := ⟨_, Lib.hid rfl⟩
  have hXX : holdsM (1, nm, vl) (getL L nm) = X := by rw [← hX.out]; rfl
  have hXY : holdsM (2, nm, vl) (getL L nm) = !X := by rw [← hX.out]; rfl
  simp only at IX IY
  rw [hXX] at IX
  rw [hXY] at IY
  have hRx : ∀ m ∈ [((1 : Int), nm, vl)], (Lit.int .i64 m.1).wf = true ∧ m.2.1.size ≤ 140737488351232 ∧ m.2.2.size ≤ 140737488351232 := fun m hm => by
    simp at hm; subst hm; exact ⟨rfl, hnm, hvl⟩
  have hRy : ∀ m ∈ [((2 : Int), nm, vl)], (Lit.int .i64 m.1).wf = true ∧ m.2.1.size ≤ 140737488351232 ∧ m.2.2.size ≤ 140737488351232 := fun m hm => by
    simp at hm; subst hm; exact ⟨rfl, hnm, hvl⟩
  have HRx := Lib.hid hRx
  have HRy := Lib.hid hRy
  have HA : Hid (A = true → isM l L = true ∧ isM l' L = true) := Lib.hid (fun h => by rw [h] at hA; exact isM_app hA.out)
  clear hm1 hm2 hmA hg3 hXX hXY hX hRx hRy
  go_enter Tryd.func12, Tryd.ntmps12
  go_upto_region 3 with (go_at_call 39; refine (W1 _).mono ?_; rintro y w1 ⟨rfl, hb1⟩; clear W1)
  have q1 := RowM.below hg hb1
  go_wp2_with (first
    | (go_at_call 32; refine (O1 _ q1).mono ?_; rintro y w2 ⟨v1, rfl, ⟨a1, n1, c1, rfl, hn1, hq1, _, ho1, hf1⟩, hb2⟩; obtain rfl : n = n1 := (by omega); have hb02 := below_tr hb1 hb2; have hs2 := RowM.src (RowM.below hg' hb02) hn' hc')
    | (at_builtin; refine wpList_append_copy rfl _ _ 40 rfl 0 51 i0 (.agg #[.int .i64 0, .string { data := #[] }, .string { data := #[] }]) 3 40 Tryd.underlying40 hi hz0 hz1 hz2 rfl (by decide) _ n (encR mtC l) rfl ho1 b n' c' (encR mtC l') rfl hs2 (encR_one' mtC_one l') (by unfold maxLen; omega) (by omega) (Nat.zero_le _) ?_))
  intro v' w3 ho3 hch3 _
  have hb03 : Below w.heap.size w w3 := Chg.below_tr hb02 hch3 (fun k hk e => by have h1 := hf1 k e; have := hb1.size; omega)
  rw [← encR_app] at ho3
  obtain ⟨a3, N, k3, rfl, hN, hqA, _, _, _⟩ := OwnM.of_owns ho3 HmA.out (B := 0) (fun _ _ => Nat.zero_le _)
  have q3 := hq3.below hb03
  have r1 := RowM.below hg hb03
  have r2 := RowM.below hg' hb03
  have HcX := Lib.hid CX
  have HIX := Lib.hid IX
  have HIY := Lib.hid IY
  clear ho3 hch3 hq1 ho1 hf1 hs2 hb1 hb2 hb02 q1 hq3 CX IX IY hA hC HmA
  cases A
  · go_upto_region 6 with (go_at_call 37; refine (IA _ _ _ _ hN hqA q3).mono ?_; rintro y w5 ⟨rfl, hb5⟩; have hb05 := below_tr hb03 hb5; have q5 := q3.below hb5)
    have hx := MtBox.new w5 1 nm vl
    go_upto_region 7 with (fail)
    generalize w5.alloc (.cells #[.int .i64 1, .string nm, .string vl] 51) = w6 at hx ⊢
    generalize w5.heap.size = gx at hx ⊢
    have hy := MtBox.new w6 2 nm vl
    go_upto_region 8 with (fail)
    generalize w6.alloc (.cells #[.int .i64 2, .string nm, .string vl] 51) = w7 at hy ⊢
    generalize w6.heap.size = gy at hy ⊢
    have hb07 := below_tr hb05 (below_tr hx.bel hy.bel)
    have q7 := (q5.below hx.bel).below hy.bel
    have Mx := RowM.of_rowV (l := [((1 : Int), nm, vl)]) (hx.row.below hy.bel) HRx.out
    have My := RowM.of_rowV (l := [((2 : Int), nm, vl)]) hy.row HRy.out
    clear hx hy
    by_cases hC0 : C = 0
    · have hCi : (C : Int) = 0 := by omega
      have CX := HcX.out
      have IX := HIX.out
      have IY := HIY.out
      rw [decide_eq_true hC0, Bool.true_and] at IX IY
      cases X
      all_goals
        go_wp2_with (first
          | (go_at_call 35; refine (CX _ _ Mx).mono ?_; rintro y w8 ⟨rfl, hb8⟩; have Mx8 := RowM.below Mx hb8; have My8 := RowM.below My hb8; have q8 := q7.below hb8; have hb08 := below_tr hb07 hb8; clear CX)
          | (go_at_call 37; refine (IX _ _ Mx8 q8).mono ?_; rintro y w9 ⟨rfl, hb9⟩; have My9 := RowM.below My8 hb9; have q9 := q8.below hb9; have hb09 := below_tr hb08 hb9; clear IX)
          | (go_at_call 37; refine (IY _ _ My9 q9).mono ?_; rintro y w10 ⟨rfl, hb10⟩; have hb010 := below_tr hb09 hb10; clear IY))
        go_ret
        exact ⟨rfl, hb010⟩
    · have hCi : ¬ (C : Int) = 0 := by omega
      have CX := HcX.out
      have IX := HIX.out
      have IY := HIY.out
      rw [decide_eq_false hC0, Bool.false_and] at IX IY
      go_wp2_with (first
        | (go_at_call 35; refine (CX _ _ Mx).mono ?_; rintro y w8 ⟨rfl, hb8⟩; have Mx8 := RowM.below Mx hb8; have My8 := RowM.below My hb8; have q8 := q7.below hb8; have hb08 := below_tr hb07 hb8; clear CX)
        | (go_at_call 37; refine (IX _ _ Mx8 q8).mono ?_; rintro y w9 ⟨rfl, hb9⟩; have My9 := RowM.below My8 hb9; have q9 := q8.below hb9; have hb09 := below_tr hb08 hb9; clear IX)
        | (go_at_call 37; refine (IY _ _ My9 q9).mono ?_; rintro y w10 ⟨rfl, hb10⟩; have hb010 := below_tr hb09 hb10; clear IY))
      go_ret
      exact ⟨rfl, hb010⟩
  · obtain ⟨h1, h2⟩ := HA.out rfl
    rw [h1] at I1
    rw [h2] at I2
    go_upto_region 6 with (first
      | (go_at_call 37; refine (IA _ _ _ _ hN hqA q3).mono ?_; rintro y w31 ⟨rfl, hb31⟩; have hb031 := below_tr hb03 hb31; have q31 := q3.below hb31; have r31 := RowM.below r1 hb31; have r32 := RowM.below r2 hb31; clear IA)
      | (go_at_call 32; refine (O1 _ r31).mono ?_; rintro y w32 ⟨v4, rfl, ⟨a4, n4, c4, rfl, hn4, hq4, _, _, _⟩, hb32⟩; obtain rfl : n = n4 := (by omega); have hb032 := below_tr hb031 hb32; have q32 := q31.below hb32; have r33 := RowM.below r32 hb32; clear O1)
      | (go_at_call 37; refine (I1 _ _ _ hq4 q32).mono ?_; rintro y w33 ⟨rfl, hb33⟩; have hb033 := below_tr hb032 hb33; have q33 := q32.below hb33; have r34 := RowM.below r33 hb33; clear I1)
      | (go_at_call 32; refine (O2 _ r34).mono ?_; rintro y w34 ⟨v5, rfl, ⟨a5, n5, c5, rfl, hn5, hq5, _, _, _⟩, hb34⟩; obtain rfl : n' = n5 := (by omega); have hb034 := below_tr hb033 hb34; have q34 := q33.below hb34; clear O2)
      | (go_at_call 37; refine (I2 _ _ _ hq5 q34).mono ?_; rintro y w5 ⟨rfl, hb5⟩; have hb05 := below_tr hb034 hb5; have q5 := q34.below hb5; clear I2))
    have hx := MtBox.new w5 1 nm vl
    go_upto_region 7 with (fail)
    generalize w5.alloc (.cells #[.int .i64 1, .string nm, .string vl] 51) = w6 at hx ⊢
    generalize w5.heap.size = gx at hx ⊢
    have hy := MtBox.new w6 2 nm vl
    go_upto_region 8 with (fail)
    generalize w6.alloc (.cells #[.int .i64 2, .string nm, .string vl] 51) = w7 at hy ⊢
    generalize w6.heap.size = gy at hy ⊢
    have hb07 := below_tr hb05 (below_tr hx.bel hy.bel)
    have q7 := (q5.below hx.bel).below hy.bel
    have Mx := RowM.of_rowV (l := [((1 : Int), nm, vl)]) (hx.row.below hy.bel) HRx.out
    have My := RowM.of_rowV (l := [((2 : Int), nm, vl)]) hy.row HRy.out
    clear hx hy
    by_cases hC0 : C = 0
    · have hCi : (C : Int) = 0 := by omega
      have CX := HcX.out
      have IX := HIX.out
      have IY := HIY.out
      rw [decide_eq_true hC0, Bool.true_and] at IX IY
      cases X
      all_goals
        go_wp2_with (first
          | (go_at_call 35; refine (CX _ _ Mx).mono ?_; rintro y w8 ⟨rfl, hb8⟩; have Mx8 := RowM.below Mx hb8; have My8 := RowM.below My hb8; have q8 := q7.below hb8; have hb08 := below_tr hb07 hb8; clear CX)
          | (go_at_call 37; refine (IX _ _ Mx8 q8).mono ?_; rintro y w9 ⟨rfl, hb9⟩; have My9 := RowM.below My8 hb9; have q9 := q8.below hb9; have hb09 := below_tr hb08 hb9; clear IX)
          | (go_at_call 37; refine (IY _ _ My9 q9).mono ?_; rintro y w10 ⟨rfl, hb10⟩; have hb010 := below_tr hb09 hb10; clear IY))
        go_ret
        exact ⟨rfl, hb010⟩
    · have hCi : ¬ (C : Int) = 0 := by omega
      have CX := HcX.out
      have IX := HIX.out
      have IY := HIY.out
      rw [decide_eq_false hC0, Bool.false_and] at IX IY
      go_wp2_with (first
        | (go_at_call 35; refine (CX _ _ Mx).mono ?_; rintro y w8 ⟨rfl, hb8⟩; have Mx8 := RowM.below Mx hb8; have My8 := RowM.below My hb8; have q8 := q7.below hb8; have hb08 := below_tr hb07 hb8; clear CX)
        | (go_at_call 37; refine (IX _ _ Mx8 q8).mono ?_; rintro y w9 ⟨rfl, hb9⟩; have My9 := RowM.below My8 hb9; have q9 := q8.below hb9; have hb09 := below_tr hb08 hb9; clear IX)
        | (go_at_call 37; refine (IY _ _ My9 q9).mono ?_; rintro y w10 ⟨rfl, hb10⟩; have hb010 := below_tr hb09 hb10; clear IY))
      go_ret
      exact ⟨rfl, hb010⟩
end Go.Proofs.YtlddedddcdhjnaaDoor
