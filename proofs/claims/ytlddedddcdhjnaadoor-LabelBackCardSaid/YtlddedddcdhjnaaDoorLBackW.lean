/- The law of labels that are written and read again. -/
import Derived.Test.YtlddedddcdhjnaaDoorLx
import Derived.Test.YtlddedddcdhjnaaDoorLp
import Derived.Deep.CutBlock
namespace Go.Proofs.YtlddedddcdhjnaaDoor
open Go.RowKit Lb Dig

namespace Lb
theorem encL_len (l : List Pr) : (encL l).1.length ≤ 1000 := by
  unfold encL
  split
  · simp
  · rename_i h
    have h0 : chkL l = 0 := by simpa using h
    obtain ⟨_, h8, hok⟩ := chkL_ok h0
    have h1 := pairsB_len l hok
    have h2 : (numB l.length).length ≤ 9 := by have := dig_len8 l.length (by omega); unfold numB; simp; omega
    rw [List.length_append]; omega
theorem encL_err (l : List Pr) : (encL l).2 = chkL l := by
  unfold encL
  split
  · rfl
  · rename_i h; simp at h; exact h.symm
end Lb

set_option maxRecDepth 100000 in
set_option maxHeartbeats 4000000 in
theorem labelBack_walk (a : Option Addr) (n c : Nat) (l : List Pr) (s : ByteArray) (hn : l.length = n) (hs : n * 32 ≤ 140737488351232) (_hm : s.size ≤ 140737488351232)
    (w : World) (hg : RowG isSS 2 w a l) (hc : (a = none → c = 0) ∧ n ≤ c) :
    Calls Tryd.prog 10 #[.slice a n c, .string s] w fun e w' => e = .returned (.bool true) ∧ Below w.heap.size w w' := by
  obtain ⟨hq, hsz⟩ := RowQ.of_rowG hg
  have hsz2 : ∀ p ∈ l, p.1.size ≤ 4611686018427387904 ∧ p.2.size ≤ 4611686018427387904 := fun p hp => by have := hsz p hp; omega
  have W1 := fun W => lworks_any W
  by_cases h5 : s.size ≤ 5000
  · have h5i : (s.size : Int) ≤ 5000 := by omega
    have O1 := fun W h => lown_any l a n c hn hs hc W h
    have EN := fun (x : Option Addr) k W h => lencode_any l x n k hn (by omega) hsz2 W h
    obtain ⟨T, E, hF⟩ : ∃ T E, Hid (encL l = (T, E)) := ⟨_, _, Lib.hid rfl⟩
    have hTl : T.length ≤ 1000 := by have := encL_len l; rw [hF.out] at this; exact this
    have hEc : chkL l = E := by have := encL_err l; rw [hF.out] at this; exact this.symm
    rw [hF.out] at EN
    simp only at EN
    have D0 := fun W => ldecode_any (mkS T) (by rw [mkS_size]; omega) W
    have D1 := fun W => ldecode_any (mkS T ++ { data := #[120] }) (by rw [ByteArray.size_append, mkS_size]; show T.length + 1 ≤ _; omega) W
    rw [mkS_data] at D0
    rw [show (mkS T ++ { data := #[120] }).data.toList = T ++ [120] from by rw [ByteArray.data_append]; simp [mkS]] at D1
    have DS := fun W => ldecode_any s (by omega) W
    obtain ⟨X, F, hX⟩ : ∃ X F, Hid (decL s.data.toList = (X, F)) := ⟨_, _, Lib.hid rfl⟩
    rw [hX.out] at DS
    have hsT : (mkS T).size + 1 ≤ 9223372036854775807 := by rw [mkS_size]; omega
    have hHid := Lib.hid hsz
    clear hg hsz hsz2
    go_enter Tryd.func10, Tryd.ntmps10
    go_upto_if 27 with (first
      | (go_at_call 26; refine (W1 _).mono ?_; rintro y w1 ⟨rfl, hb1⟩; clear W1; have q1 := hq.below hb1)
      | (go_at_call 17; refine (O1 _ q1).mono ?_; rintro y w2 ⟨v1, rfl, ⟨a1, n1, c1, rfl, hn1, hq1, _, _, _⟩, hb2⟩; obtain rfl : n = n1 := (by omega); clear O1)
      | (go_at_call 18; refine (EN _ _ _ hq1).mono ?_; rintro y w3 ⟨rfl, hb3⟩; clear EN))
    have hbel3 := below_tr (below_tr hb1 hb2) hb3
    have hqr := hq.below hbel3
    clear hb1 hb2 hb3 q1 hq1
    go_cut [7, 8, 9, 10] from 26 to 50 (fun _ _ _ _ wx => Below w.heap.size w wx)
    case first =>
      by_cases hE : E = 0
      · have hEb : (((E : Nat) : Int) == 0) = true := by rw [beq_iff_eq]; omega
        have hd0 := dec_enc l (by omega) []
        have hd1 := dec_enc l (by omega) [120]
        rw [hF.out] at hd0 hd1
        simp only [List.append_nil, if_pos] at hd0
        rw [if_neg (by simp)] at hd1
        simp only at hd1
        rw [hd0] at D0
        rw [hd1] at D1
        have SM := fun (x : Option Addr) k W h h' => rlsame_any l l x a n k n c hn hn (by omega) (by omega) W h h'
        rw [cmpL_zero rfl] at SM
        clear hd0 hd1 hEc hE
        go_wp2_with (first
          | (go_at_call 14; refine (D0 _).mono ?_; rintro y w4 ⟨a2, n2, c2, rfl, hq2, hl2, hb4⟩; have hl2' : l.length = n2 := hl2; obtain rfl : n = n2 := (by omega); clear D0)
          | (go_at_call 14; refine (D1 _).mono ?_; rintro y w5 ⟨a3, n3, c3, rfl, hq3, hl3, hb5⟩; clear D1)
          | (go_at_call 16; refine (SM _ _ _ (hq2.below hb5) ((hqr.below hb4).below hb5)).mono ?_; rintro y w6 ⟨rfl, hb6⟩; clear SM))
        go_meet
        case rel => exact below_tr (below_tr (below_tr hbel3 hb4) hb5) hb6
      · have hEi : ¬ (E : Int) = 0 := by omega
        go_wp2
        go_meet
        case rel => exact hbel3
    case rest =>
      have hbl := hcut
      clear hcut hqr hbel3
      by_cases hF0 : F = 0
      · have hFi : (F : Int) = 0 := by omega
        have hen := enc_dec s.data.toList (by rw [hX.out]; exact hF0)
        rw [hX.out] at hen
        simp only at hen
        have hx8 : X.length ≤ 8 ∧ ∀ p ∈ X, p.1.size ≤ 4611686018427387904 ∧ p.2.size ≤ 4611686018427387904 := by
          have h1 := encL_err X
          rw [hen] at h1
          obtain ⟨_, h8, hok⟩ := chkL_ok h1.symm
          refine ⟨h8, fun p hp => ?_⟩
          have h2 := nameB_len (hok p hp).1
          have h3 := valueB_len (hok p hp).2
          rw [← size_toList] at h2 h3
          omega
        have EX := fun (x : Option Addr) k m W hm h => lencode_any X x m k hm (by omega) hx8.2 W h
        rw [hen] at EX
        simp only [mkS_toList] at EX
        have HX := Lib.hid hx8
        clear hx8
        go_wp2_with (first
          | (go_at_call 14; refine (DS _).mono ?_; rintro y w7 ⟨a4, n4, c4, rfl, hq4, hl4, hb7⟩; clear DS)
          | (go_at_call 18; refine (EX _ _ _ _ hl4 hq4).mono ?_; rintro y w8 ⟨rfl, hb8⟩; clear EX))
        go_ret
        exact ⟨rfl, below_tr (below_tr hbl hb7) hb8⟩
      · have hFi : ¬ (F : Int) = 0 := by omega
        have hX0 : X = [] := by have := decL_err s.data.toList (by rw [hX.out]; exact hF0); rw [hX.out] at this; exact this
        go_wp2_with (go_at_call 14; refine (DS _).mono ?_; rintro y w7 ⟨a4, n4, c4, rfl, hq4, hl4, hb7⟩; have hn4 : n4 = 0 := (by have h9 : X.length = n4 := hl4; rw [hX0] at h9; exact h9.symm); subst hn4)
        go_ret
        exact ⟨rfl, below_tr hbl hb7⟩
  · have h5i : ¬ (s.size : Int) ≤ 5000 := by omega
    go_enter Tryd.func10, Tryd.ntmps10
    go_wp2_with (go_at_call 26; refine (W1 _).mono ?_; rintro y w1 ⟨rfl, hb1⟩)
    go_ret
    exact ⟨rfl, hb1⟩
end Go.Proofs.YtlddedddcdhjnaaDoor
