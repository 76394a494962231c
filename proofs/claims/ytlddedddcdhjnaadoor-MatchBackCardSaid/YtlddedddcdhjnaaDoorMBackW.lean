/- The law of matchers that are written and got again. -/
import Derived.Test.YtlddedddcdhjnaaDoorMw
import Derived.Deep.CutBlock
namespace Go.Proofs.YtlddedddcdhjnaaDoor
open Go.RowKit Lb Dig

set_option maxRecDepth 100000 in
set_option maxHeartbeats 4000000 in
theorem matchBack_walk (a : Option Addr) (n c : Nat) (l : List Mt) (s : ByteArray) (hn : l.length = n) (hs : n * 40 ≤ 140737488351232) (_hm : s.size ≤ 140737488351232)
    (w : World) (hg : RowM w a l) (hc : (a = none → c = 0) ∧ n ≤ c) :
    Calls Tryd.prog 11 #[.slice a n c, .string s] w fun e w' => e = .returned (.bool true) ∧ Below w.heap.size w w' := by
  have W1 := fun W => mworks_any W
  by_cases h5 : s.size ≤ 5000
  · have h5i : (s.size : Int) ≤ 5000 := by omega
    have O1 := fun W h => mown_any l a n c hn hs hc W h
    have EN := fun (x : Option Addr) k W h => mencode_any l x n k hn (by omega) W h
    obtain ⟨T, E, hF⟩ : ∃ T E, Hid (encM l = (T, E)) := ⟨_, _, Lib.hid rfl⟩
    have hTl : T.length ≤ 2000 := by have := encM_len l; rw [hF.out] at this; exact this
    have hEc : chkM l = E := by have := encM_err l; rw [hF.out] at this; exact this.symm
    rw [hF.out] at EN
    simp only at EN
    have hTs : (mkS T).size = T.length := mkS_size T
    have D0 := fun W => mget_any (mkS T ++ s) (by rw [ByteArray.size_append, mkS_size]; omega) W
    rw [show (mkS T ++ s).data.toList = T ++ s.data.toList from by rw [ByteArray.data_append]; simp [mkS]] at D0
    have DS := fun W => mget_any s (by omega) W
    obtain ⟨X, K, F, hX⟩ : ∃ X K F, Hid (getM s.data.toList = (X, K, F)) := ⟨_, _, _, Lib.hid rfl⟩
    rw [hX.out] at DS
    obtain ⟨g1, g2, g3, g4⟩ := getM_facts s.data.toList
    rw [hX.out] at g1 g2 g3 g4
    simp only at g1 g2 g3 g4
    rw [← size_toList] at g2
    have hsT : (mkS T).size + s.size ≤ 9223372036854775807 := by omega
    have G3 := Lib.hid g3
    have G4 := Lib.hid g4
    clear g3 g4
    go_enter Tryd.func11, Tryd.ntmps11
    go_upto_if 27 with (first
      | (go_at_call 39; refine (W1 _).mono ?_; rintro y w1 ⟨rfl, hb1⟩; clear W1; have q1 := RowM.below hg hb1)
      | (go_at_call 32; refine (O1 _ q1).mono ?_; rintro y w2 ⟨v1, rfl, ⟨a1, n1, c1, rfl, hn1, hq1, _, _, _⟩, hb2⟩; obtain rfl : n = n1 := (by omega); clear O1)
      | (go_at_call 33; refine (EN _ _ _ hq1).mono ?_; rintro y w3 ⟨rfl, hb3⟩; clear EN))
    have hbel3 := below_tr (below_tr hb1 hb2) hb3
    have hqr := RowM.below hg hbel3
    clear hb1 hb2 hb3 q1 hq1
    go_cut [7, 8, 9] from 26 to 50 (fun _ _ _ wx => Below w.heap.size w wx)
    case first =>
      by_cases hE : E = 0
      · have hEb : (((E : Nat) : Int) == 0) = true := by rw [beq_iff_eq]; omega
        have hd0 := get_encM l (by omega) s.data.toList
        rw [hF.out] at hd0
        simp only at hd0
        rw [hd0, ← hTs] at D0
        have SM := fun (x : Option Addr) k W h h' => rmsame_any l l x a n k n c hn hn (by omega) (by omega) W h h'
        simp only [decide_true] at SM
        clear hd0 hEc hE
        go_wp2_with (first
          | (go_at_call 29; refine (D0 _).mono ?_; rintro y w4 ⟨a2, n2, c2, rfl, hq2, hl2, hb4⟩; have hl2' : l.length = n2 := hl2; obtain rfl : n = n2 := (by omega); clear D0)
          | (go_at_call 31; refine (SM _ _ _ hq2 (RowM.below hqr hb4)).mono ?_; rintro y w6 ⟨rfl, hb6⟩; clear SM))
        go_meet
        case rel => exact below_tr (below_tr hbel3 hb4) hb6
      · have hEi : ¬ (E : Int) = 0 := by omega
        go_wp2
        go_meet
        case rel => exact hbel3
    case rest =>
      have hbl := hcut
      clear hcut hqr hbel3
      by_cases hF0 : F = 0
      · have hFi : (F : Int) = 0 := by omega
        have hen := G4.out hF0
        have EX := fun (x : Option Addr) k m W hm h => mencode_any X x m k hm (by have h9 : X.length = m := hm; omega) W h
        rw [hen] at EX
        simp only at EX
        have hKs : (K : Int) ≤ (s.size : Int) := by omega
        have hx : s.extract 0 K = mkS (s.data.toList.take K) := by have := extract_mkS s 0 K; rw [Nat.zero_add, List.drop_zero] at this; exact this
        go_wp2_with (first
          | (go_at_call 29; refine (DS _).mono ?_; rintro y w7 ⟨a4, n4, c4, rfl, hq4, hl4, hb7⟩; clear DS)
          | (go_at_call 33; refine (EX _ _ _ _ hl4 hq4).mono ?_; rintro y w8 ⟨rfl, hb8⟩; clear EX))
        go_ret
        exact ⟨rfl, below_tr (below_tr hbl hb7) hb8⟩
      · have hFi : ¬ (F : Int) = 0 := by omega
        obtain ⟨hX0, rfl⟩ := G3.out hF0
        go_wp2_with (go_at_call 29; refine (DS _).mono ?_; rintro y w7 ⟨a4, n4, c4, rfl, hq4, hl4, hb7⟩; have hn4 : n4 = 0 := (by have h9 : X.length = n4 := hl4; rw [hX0] at h9; exact h9.symm); subst hn4)
        go_ret
        exact ⟨rfl, below_tr hbl hb7⟩
  · have h5i : ¬ (s.size : Int) ≤ 5000 := by omega
    go_enter Tryd.func11, Tryd.ntmps11
    go_wp2_with (go_at_call 39; refine (W1 _).mono ?_; rintro y w1 ⟨rfl, hb1⟩)
    go_ret
    exact ⟨rfl, hb1⟩
end Go.Proofs.YtlddedddcdhjnaaDoor
