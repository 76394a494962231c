/- The law of the order of labels. -/
import Derived.Test.YtlddedddcdhjnaaDoorLx
import Derived.Test.YtlddedddcdhjnaaDoorLy
namespace Go.Proofs.YtlddedddcdhjnaaDoor
open Go.RowKit Lb Dig

set_option maxRecDepth 100000 in
set_option maxHeartbeats 4000000 in
theorem labelOrder_walk (a : Option Addr) (n c : Nat) (l : List Pr) (a' : Option Addr) (n' c' : Nat) (l' : List Pr) (a'' : Option Addr) (n'' c'' : Nat) (l'' : List Pr) (hn : l.length = n) (hs : n * 32 ≤ 140737488351232) (hn' : l'.length = n') (hs' : n' * 32 ≤ 140737488351232) (hn'' : l''.length = n'') (hs'' : n'' * 32 ≤ 140737488351232)
    (w : World) (hg : RowG isSS 2 w a l) (_hc : (a = none → c = 0) ∧ n ≤ c) (hg' : RowG isSS 2 w a' l') (_hc' : (a' = none → c' = 0) ∧ n' ≤ c') (hg'' : RowG isSS 2 w a'' l'') (_hc'' : (a'' = none → c'' = 0) ∧ n'' ≤ c'') :
    Calls Tryd.prog 5 #[.slice a n c, .slice a' n' c', .slice a'' n'' c''] w fun e w' => e = .returned (.bool true) ∧ Below w.heap.size w w' := by
  obtain ⟨hq, _⟩ := RowQ.of_rowG hg
  obtain ⟨hq', _⟩ := RowQ.of_rowG hg'
  obtain ⟨hq'', _⟩ := RowQ.of_rowG hg''
  clear hg hg' hg''
  have CX := fun W h h' => lcompare_any l l' a a' n c n' c' hn hn' (by omega) (by omega) W h h'
  have CY := fun W h h' => lcompare_any l' l'' a' a'' n' c' n'' c'' hn' hn'' (by omega) (by omega) W h h'
  have CZ := fun W h h' => lcompare_any l l'' a a'' n c n'' c'' hn hn'' (by omega) (by omega) W h h'
  have CB := fun W h h' => lcompare_any l' l a' a n' c' n c hn' hn (by omega) (by omega) W h h'
  have CS := fun W h h' => lcompare_any l l a a n c n c hn hn (by omega) (by omega) W h h'
  have SM := fun W h h' => rlsame_any l l' a a' n c n' c' hn hn' (by omega) (by omega) W h h'
  obtain ⟨x, hx⟩ : ∃ x, cmpL l l' = x := ⟨_, rfl⟩
  obtain ⟨y, hy⟩ : ∃ x, cmpL l' l'' = x := ⟨_, rfl⟩
  obtain ⟨z, hz⟩ : ∃ x, cmpL l l'' = x := ⟨_, rfl⟩
  have bx := good_L.bnd l l'
  have bY := good_L.bnd l' l''
  have bz := good_L.bnd l l''
  have h1 := good_L.tr l l' l''
  have h2 := good_L.lt (a := l) (b := l') (c := l'')
  rw [good_L.anti l l'] at CB
  rw [cmpL_self] at CS
  rw [hx] at CX SM bx h1 h2 CB
  rw [hy] at CY bY h1 h2
  rw [hz] at CZ bz h1 h2
  clear hx hy hz
  have W1 := fun W => lworks_any W
  go_enter Tryd.func5, Tryd.ntmps5
  go_upto_region 3 with (go_at_call 26; refine (W1 _).mono ?_; rintro y w1 ⟨rfl, hb1⟩; clear W1)
  have q1 := hq.below hb1
  have q2 := hq'.below hb1
  have q3 := hq''.below hb1
  go_upto_region 4 with (first
    | (go_at_call 22; refine (CX _ q1 q2).mono ?_; rintro y w2 ⟨rfl, hb2⟩; have q1 := q1.below hb2; have q2 := q2.below hb2; have q3 := q3.below hb2; have hb2 := below_tr hb1 hb2; clear CX)
    | (go_at_call 22; refine (CY _ q2 q3).mono ?_; rintro y w3 ⟨rfl, hb3⟩; have q1 := q1.below hb3; have q2 := q2.below hb3; have q3 := q3.below hb3; have hb3 := below_tr hb2 hb3; clear CY)
    | (go_at_call 22; refine (CZ _ q1 q3).mono ?_; rintro y w4 ⟨rfl, hb4⟩; have q1 := q1.below hb4; have q2 := q2.below hb4; have hb4 := below_tr hb3 hb4; clear CZ))
  rcases (by omega : x = -1 ∨ x = 0 ∨ x = 1) with rfl | rfl | rfl <;> rcases (by omega : y = -1 ∨ y = 0 ∨ y = 1) with rfl | rfl | rfl <;> rcases (by omega : z = -1 ∨ z = 0 ∨ z = 1) with rfl | rfl | rfl
  all_goals first
    | (exfalso; have h3 := h1 (by omega) (by omega); have h4 := h2; omega)
    | (exfalso; have h3 := h2 (by omega) (by omega); omega)
    | (clear h1 h2 bx bY bz
       go_wp2_with (first
        | (go_at_call 22; refine (CB _ q2 q1).mono ?_; rintro y w5 ⟨rfl, hb5⟩; have q1 := q1.below hb5; have q2 := q2.below hb5; have hb5 := below_tr hb4 hb5; clear CB)
        | (go_at_call 22; refine (CS _ q1 q1).mono ?_; rintro y w6 ⟨rfl, hb6⟩; have q1 := q1.below hb6; have q2 := q2.below hb6; have hb6 := below_tr hb5 hb6; clear CS)
        | (go_at_call 16; refine (SM _ q1 q2).mono ?_; rintro y w7 ⟨rfl, hb7⟩; have hb7 := below_tr hb6 hb7; clear SM))
       go_ret
       exact ⟨rfl, hb7⟩)
end Go.Proofs.YtlddedddcdhjnaaDoor
