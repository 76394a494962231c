/- The law of what is told of matchers. -/
import Derived.Test.YtlddedddcdhjnaaDoorMe
import Derived.Test.YtlddedddcdhjnaaDoorMf
import Derived.Test.YtlddedddcdhjnaaDoorMg
import Derived.Test.YtlddedddcdhjnaaDoorMo
namespace Go.Proofs.YtlddedddcdhjnaaDoor
open Go.RowKit Lb Dig

set_option maxRecDepth 100000 in
set_option maxHeartbeats 4000000 in
theorem matchTells_walk (a : Option Addr) (n c : Nat) (l : List Mt) (b : Option Addr) (n' c' : Nat) (L : List Pr) (hn : l.length = n) (hs : n * 40 ≤ 140737488351232) (hn' : L.length = n') (hs' : n' * 32 ≤ 140737488351232)
    (w : World) (hg : RowM w a l) (hc : (a = none → c = 0) ∧ n ≤ c) (hg' : RowG isSS 2 w b L) (_hc' : (b = none → c' = 0) ∧ n' ≤ c') :
    Calls Tryd.prog 9 #[.slice a n c, .slice b n' c'] w fun e w' => e = .returned (.bool true) ∧ Below w.heap.size w w' := by
  have hq' := (RowQ.of_rowG hg').1
  have O1 := fun W h => mown_any l a n c hn hs hc W h
  have EN := fun (x : Option Addr) k W h => mencode_any l x n k hn (by omega) W h
  have REN := fun W h => rmencode_any l a n c hn (by omega) W h
  obtain ⟨F, hF⟩ : ∃ F, Hid (encM l = F) := ⟨_, Lib.hid rfl⟩
  rw [hF.out] at EN REN
  have CK := fun (x : Option Addr) k W h => mcheck_any l x n k hn (by omega) W h
  have RCK := fun W h => rmcheck_any l a n c hn (by omega) W h
  obtain ⟨C, hC⟩ : ∃ C, Hid (chkM l = C) := ⟨_, Lib.hid rfl⟩
  rw [hC.out] at CK RCK
  have IS := fun (x : Option Addr) k W h h' => mis_any l x n k L b n' c' hn (by omega) hn' (by omega) W h h'
  have RIS := fun W h h' => rmis_any l a n c L b n' c' hn (by omega) hn' (by omega) W h h'
  obtain ⟨G, hG⟩ : ∃ G, Hid (isM l L = G) := ⟨_, Lib.hid rfl⟩
  rw [hG.out] at IS RIS
  have SM := fun (x : Option Addr) k W h h' => rmsame_any l l x a n k n c hn hn (by omega) (by omega) W h h'
  simp only [decide_true] at SM
  clear hg'
  go_enter Tryd.func9, Tryd.ntmps9
  go_upto_region 2 with (go_at_call 32; refine (O1 _ hg).mono ?_; rintro y w1 ⟨v1, rfl, ⟨a1, n1, c1, rfl, hn1, hq1, _, _, _⟩, hb1⟩; clear O1)
  obtain rfl : n1 = n := by omega
  clear hn1
  have hqa := RowM.below hg hb1
  have hqb := hq'.below hb1
  go_upto_region 4 with (first
    | (go_at_call 33; refine (EN _ _ _ hq1).mono ?_; rintro y w2 ⟨rfl, hb2⟩; have hq1 := RowM.below hq1 hb2; have hqa := RowM.below hqa hb2; have hqb := hqb.below hb2; have hb12 := below_tr hb1 hb2; clear EN)
    | (go_at_call 34; refine (REN _ hqa).mono ?_; rintro y w3 ⟨rfl, hb3⟩; have hq1 := RowM.below hq1 hb3; have hqa := RowM.below hqa hb3; have hqb := hqb.below hb3; have hb13 := below_tr hb12 hb3; clear REN))
  go_wp2_with (first
    | (go_at_call 35; refine (CK _ _ _ hq1).mono ?_; rintro y w4 ⟨rfl, hb4⟩; have hq1 := RowM.below hq1 hb4; have hqa := RowM.below hqa hb4; have hqb := hqb.below hb4; have hb14 := below_tr hb13 hb4; clear CK)
    | (go_at_call 36; refine (RCK _ hqa).mono ?_; rintro y w5 ⟨rfl, hb5⟩; have hq1 := RowM.below hq1 hb5; have hqa := RowM.below hqa hb5; have hqb := hqb.below hb5; have hb15 := below_tr hb14 hb5; clear RCK)
    | (go_at_call 37; refine (IS _ _ _ hq1 hqb).mono ?_; rintro y w6 ⟨rfl, hb6⟩; have hq1 := RowM.below hq1 hb6; have hqa := RowM.below hqa hb6; have hqb := hqb.below hb6; have hb16 := below_tr hb15 hb6; clear IS)
    | (go_at_call 38; refine (RIS _ hqa hqb).mono ?_; rintro y w7 ⟨rfl, hb7⟩; have hq1 := RowM.below hq1 hb7; have hqa := RowM.below hqa hb7; have hb17 := below_tr hb16 hb7; clear RIS)
    | (go_at_call 31; refine (SM _ _ _ hq1 hqa).mono ?_; rintro y w8 ⟨rfl, hb8⟩; have hb18 := below_tr hb17 hb8; clear SM))
  go_ret
  exact ⟨rfl, hb18⟩
end Go.Proofs.YtlddedddcdhjnaaDoor
