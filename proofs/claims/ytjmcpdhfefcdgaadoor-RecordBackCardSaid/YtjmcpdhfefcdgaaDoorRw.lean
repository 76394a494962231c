/- Whether the program's records work: one example. -/
import Derived.Test.YtjmcpdhfefcdgaaDoorRq
import Derived.Test.YtjmcpdhfefcdgaaDoorRc
namespace Go.Proofs.YtjmcpdhfefcdgaaDoor
open Go.RowKit Lb Dig Inn

theorem rw_enc : encC 2 [] [] (-1) 1 = ([1, 2, 0, 1, 1, 1, 2], 0) := by decide +kernel
theorem rw_dec : decR [1, 2, 0, 1, 1, 1, 2] = (⟨2, [], [], -1, 1⟩, 0) := by
  have h := decR_encC 2 [] [] (-1) 1 (by decide) (fun s hs => by simp at hs) (by omega) (by omega) []
  rw [List.append_nil, if_pos rfl, rw_enc] at h
  exact h
set_option maxRecDepth 100000 in
set_option maxHeartbeats 4000000 in
theorem rworks_any (w : World) :
    Calls Tryd.prog 19 #[] w fun e w' => e = .returned (.bool true) ∧ Below w.heap.size w w' := by
  have EN := fun W => rencode_any 2 [] [] (-1) 1 none 0 0 none 0 0 W ⟨.inl rfl, rfl, .inl rfl, rfl, by omega, by omega, by omega, by omega⟩
  rw [rw_enc] at EN
  have DE := fun W => rdec_any (mkS [1, 2, 0, 1, 1, 1, 2]) (by rw [mkS_size]; decide) W
  rw [mkS_data, rw_dec] at DE
  have CK := fun W => rchk_any 1 [] [] 0 0 none 0 0 none 0 0 W ⟨.inl rfl, rfl, .inl rfl, rfl, by omega, by omega, by omega, by omega⟩
  rw [show chkR 1 [] [] 0 0 = 2 from by decide] at CK
  have hsq : mkS [1, 2, 0, 1, 1, 1, 2] = { data := #[1, 2, 0, 1, 1, 1, 2] } := rfl
  rw [hsq] at EN DE
  go_enter Tryd.func19, Tryd.ntmps19
  go_upto_region 3 with (first
    | (go_at_call 10; refine (EN _).mono ?_; rintro y w1 ⟨rfl, hb1⟩; clear EN)
    | (go_at_call 17; refine (DE _).mono ?_; rintro y w2 ⟨a, n, c, b, n', c', rfl, hr2, hb2⟩; clear DE))

  have O3 := RowV.new w2 [.int .i64 2, .slice a n c, .slice b n' c', .int .i64 (-1), .int .i64 1] 25
  have B3 : Below w2.heap.size w2 (w2.alloc (.cells #[.int .i64 2, .slice a n c, .slice b n' c', .int .i64 (-1), .int .i64 1] 25)) := (Below.refl _ _).alloc (Nat.le_refl _) _
  generalize w2.alloc (.cells #[.int .i64 2, .slice a n c, .slice b n' c', .int .i64 (-1), .int .i64 1] 25) = w3 at O3 B3 ⊢
  generalize w2.heap.size = p at O3 ⊢
  have k3 := (O3 3 _ rfl).1
  have k4 := (O3 4 _ rfl).1
  have B03 := below_tr (below_tr hb1 hb2) B3
  go_wp2_with (go_at_call 14; refine (CK _).mono ?_; rintro y w4 ⟨rfl, hb4⟩)
  go_ret
  exact ⟨rfl, below_tr B03 hb4⟩
end Go.Proofs.YtjmcpdhfefcdgaaDoor
