/- The law SnapAdds: both desks take the same pieces. -/
import Derived.Test.YtmaebileagfdaaaDeskB
import Derived.Test.YtmaebileagfdaaaRowOp
namespace Go.Proofs.Ytmaebileagfdaaa
open Go.RowKit Crc Dk

set_option maxRecDepth 100000 in
set_option maxHeartbeats 2000000 in
theorem snapAdds_walk (a : Option Addr) (len cap : Nat) (ys : List OpV) (hl : ys.length = len) (hsz : len * 48 ≤ 140737488351232) (w : World) (hr : RowG isOp 5 w a ys) :
    Calls Try.prog 5 #[.slice a len cap] w fun e w' => e = .returned (.bool true) ∧ Below w.heap.size w w' := by
  have hlen : (len : Int) ≤ 2932031007317 := by omega
  go_enter Try.func5, Try.ntmps5
  go_upto_region 2 with (first
    | (go_at_call 21; refine (dnew_any _).mono ?_; rintro y w1 ⟨rfl, hd1, hb1⟩))
  obtain ⟨B1, hB1⟩ : ∃ B1, Hid (B1 = w.heap.size) := ⟨_, Lib.hid rfl⟩
  obtain ⟨B2, hB2⟩ : ∃ B2, Hid (B2 = w1.heap.size) := ⟨_, Lib.hid rfl⟩
  have hr2 := RowV.new w1 [.bool false, .int .i64 0, .int .i64 0, .int .u32 0, .slice none 0 0, .slice none 0 0, .int .i64 0] 50
  have hba : Below w1.heap.size w1 (w1.alloc (.cells #[.bool false, .int .i64 0, .int .i64 0, .int .u32 0, .slice none 0 0, .slice none 0 0, .int .i64 0] 50)) := (Below.refl _ _).alloc (Nat.le_refl _) _
  have hz : (w1.alloc (.cells #[.bool false, .int .i64 0, .int .i64 0, .int .u32 0, .slice none 0 0, .slice none 0 0, .int .i64 0] 50)).heap.size = w1.heap.size + 1 := by simp
  have hd2 : DkW (w1.alloc (.cells #[.bool false, .int .i64 0, .int .i64 0, .int .u32 0, .slice none 0 0, .slice none 0 0, .int .i64 0] 50)) (fun k => k = w1.heap.size) w1.heap.size none :=
    ⟨rfl, fun k hk => by rw [hz, hk]; omega, _, _, _, _, _, hr2⟩
  have hlt1 := hd1.2.1 _ hd1.1
  have hd1' := hd1.below hba
  have hb2 : Below w.heap.size w _ := below_tr hb1 hba
  generalize (w1.alloc (.cells #[.bool false, .int .i64 0, .int .i64 0, .int .u32 0, .slice none 0 0, .slice none 0 0, .int .i64 0] 50)) = w2 at hd2 hd1' hb2 hz ⊢
  have hb1s := hb1.size
  have HD := Lib.hid (show ∀ k, k = w.heap.size → k = w1.heap.size → False from fun k e1 e2 => by omega)
  rw [← hB1.out] at hd1' hlt1
  rw [← hB2.out] at hd2
  rw [← hB1.out, ← hB2.out]
  clear hr2 hba hd1 hb1
  go_wp2
  go_loopw [5] (fun i wr => ∃ (j : Nat) (s : Option Book) (F G : Nat → Prop), j ≤ len ∧ j ≤ 60 ∧ i = .int .i64 j ∧ DkW wr F B1 s ∧ DkW wr G B2 s ∧ Hid (∀ k, F k → G k → False) ∧ Hid (∀ k, F k → w.heap.size ≤ k) ∧ Hid (∀ k, G k → w.heap.size ≤ k) ∧ Below w.heap.size w wr) (fun i _ => len - (intOf i).toNat)
  case atStart => exact ⟨0, none, (fun k => k = B1), (fun k => k = B2), by omega, by omega, rfl, by rw [hB1.out] at hd1' ⊢; exact hd1', by rw [hB2.out] at hd2 ⊢; exact hd2, Lib.hid (fun k e1 e2 => HD.out k (by rw [← hB1.out]; exact e1) (by rw [← hB2.out]; exact e2)), Lib.hid (fun k e => by rw [e, hB1.out]; omega), Lib.hid (fun k e => by rw [e, hB2.out]; exact hb1s), hb2⟩
  case round =>
    obtain ⟨j, s, F, G, hj, hj6, rfl, h1, h2, hD, hFw, hGw, hb⟩ := hrel
    clear hd1' hd2 hb2 hz hlt1
    by_cases hlt : j < len
    · have hlti : (j : Int) < (len : Int) := by omega
      by_cases h60 : j < 60
      · have h60i : (j : Int) < 60 := by omega
        obtain ⟨⟨lsn, last, sum, ofs, tx⟩, hx⟩ : ∃ x, Hid (ys[j]? = some x) := ⟨_, Lib.hid (List.getElem?_eq_getElem (by omega))⟩
        have hr' := RowG.keep (F := fun _ => False) hr (Chg.of_below _ hb) (fun _ _ x => x) (fun _ _ h => h)
        rcases hr' with h9 | ⟨ad, rfl, h9⟩
        · subst h9; simp at hl; omega
        obtain ⟨cs, hcl, hcc, rfl, g1, g2, g3, g4, g5⟩ := h9 j _ hx.out
        have k0 := hcc 0 _ rfl
        have k1 := hcc 1 _ rfl
        have k2 := hcc 2 _ rfl
        have k3 := hcc 3 _ rfl
        have k4 := hcc 4 _ rfl
        simp only at k0 k1 k2 k3 k4 g5
        clear hcc h9 g1 g2 g3 g4 hcl
        rw [Nat.add_zero] at k0
        rw [add_field _ _ _ (by decide)] at k1 k2 k3 k4
        go_upto_region 8 with (fail)
        have hal : Below wr.heap.size wr (wr.alloc (.cells #[.int .i64 lsn, .int .i64 last, .int .u32 sum, .int .i64 ofs, .string tx] 52)) := (Below.refl _ _).alloc (Nat.le_refl _) _
        have hrw : RowV (wr.alloc (.cells #[.int .i64 lsn, .int .i64 last, .int .u32 sum, .int .i64 ofs, .string tx] 52)) wr.heap.size [.int .i64 lsn, .int .i64 last, .int .u32 sum, .int .i64 ofs, .string tx] := RowV.new wr [.int .i64 lsn, .int .i64 last, .int .u32 sum, .int .i64 ofs, .string tx] 52
        obtain ⟨A, hA⟩ : ∃ A, Hid (A = wr.heap.size) := ⟨_, Lib.hid rfl⟩
        have hsA : (wr.alloc (.cells #[.int .i64 lsn, .int .i64 last, .int .u32 sum, .int .i64 ofs, .string tx] 52)).heap.size = A + 1 := by simp [hA.out]
        have e1 := h1.below hal
        have e2 := h2.below hal
        have hb3 := below_tr hb hal
        have hFA : Hid (∀ k, F k → k < A) := Lib.hid (fun k hk => by rw [hA.out]; exact h1.2.1 k hk)
        have hGA : Hid (∀ k, G k → k < A) := Lib.hid (fun k hk => by rw [hA.out]; exact h2.2.1 k hk)
        have hAw : w.heap.size ≤ A := by rw [hA.out]; exact hb.size
        rw [← hA.out] at hrw ⊢
        generalize wr.alloc (.cells #[.int .i64 lsn, .int .i64 last, .int .u32 sum, .int .i64 ofs, .string tx] 52) = w3 at hrw e1 e2 hb3 hsA ⊢
        have m0 := (hrw 0 _ rfl).1
        have m1 := (hrw 1 _ rfl).1
        have m2 := (hrw 2 _ rfl).1
        have m3 := (hrw 3 _ rfl).1
        have m4 := (hrw 4 _ rfl).1
        clear k0 k1 k2 k3 k4 hal h1 h2
        by_cases hbig : 5000 < last ∧ last ≤ 16777216
        · obtain ⟨hb1, hb2⟩ := hbig
          go_wp2
          go_ret
          exact ⟨rfl, hb3⟩
        obtain ⟨s', o, hso⟩ : ∃ s' o, Hid (deskStep s lsn last sum ofs tx.data.toList = (s', o)) := ⟨_, _, Lib.hid rfl⟩
        have D1 := dadd_any F B1 s lsn last sum ofs tx (by omega) w3 e1
        have D2 := fun W h => rdadd_any G B2 s lsn last sum ofs tx (by omega) W h
        rw [hso.out] at D1
        simp only [hso.out] at D2
        clear e1
        rcases (by omega : last ≤ 5000 ∨ 16777216 < last) with hsm | hsm
        all_goals
          go_upto_region 11 with (first
            | (go_at_call 22; refine D1.mono ?_; rintro y w4 ⟨rfl, F', q1, q2, q3⟩))
          have hrw4 := hrw.keep q2 (fun h => by have := hFA.out A h; omega)
          have e24 := e2.keep q2 (fun k h1 h2 => hD.out k h2 h1)
          have n0 := (hrw4 0 _ rfl).1
          have n1 := (hrw4 1 _ rfl).1
          have n2 := (hrw4 2 _ rfl).1
          have n3 := (hrw4 3 _ rfl).1
          have n4 := (hrw4 4 _ rfl).1
          clear m0 m1 m2 m3 m4 hrw D1
          have D3 := D2 _ e24
          clear D2
          go_upto_region 12 with (first
            | (go_at_call 23; refine D3.mono ?_; rintro y w5 ⟨rfl, G', r1, r2, r3⟩))
          have hD' : Hid (∀ k, F' k → G' k → False) := Lib.hid (fun k h1 h2 => by
            have z1 := q3 k h1
            have z2 := r3 k h2
            have z4 := q1.2.1 k h1
            rcases z1 with z1 | z1
            · rcases z2 with z2 | z2
              · exact hD.out k z1 z2
              · have := hFA.out k z1; have := q2.size; omega
            · rcases z2 with z2 | z2
              · have := hGA.out k z2; omega
              · omega)
          have q15 : DkW w5 F' B1 s' := q1.keep r2 (fun k h1 h2 => by
            rcases q3 k h1 with h | h
            · exact hD.out k h h2
            · have := hGA.out k h2; omega)
          have hb5 : Below w.heap.size w w5 := (((Chg.below_tr hb3 q2 (fun k hk h => by have := hFw.out k h; omega))).trans (r2.below (by have := hb3.size; have := q2.size; omega) (fun k hk h => by have := hGw.out k h; omega)))
          have hFw' : Hid (∀ k, F' k → w.heap.size ≤ k) := Lib.hid (fun k hk => by
            rcases q3 k hk with h | h
            · exact hFw.out k h
            · omega)
          have hGw' : Hid (∀ k, G' k → w.heap.size ≤ k) := Lib.hid (fun k hk => by
            rcases r3 k hk with h | h
            · exact hGw.out k h
            · have := q2.size; omega)
          have H1 : ∀ W, Chg (fun _ => False) w5 W → _ := fun W hW => dhas_any F' B1 s' W (q15.keep hW (fun _ _ x => x))
          have HH1 := Lib.hid H1
          have x6 : w5.cell? ⟨B2, 6, none⟩ = some (.int .i64 (hasN s' : Nat)) := by
            cases s' with
            | none => obtain ⟨_, _, _, _, _, _, _, hr⟩ := r1; exact (hr 6 _ rfl).1
            | some k => obtain ⟨_, _, _, gb, gt, _, _, _, _, _, r9, _⟩ := r1; exact (r9 6 _ rfl).1
          clear H1 q1 q2 q3 r2 r3 D3 e2 e24 n0 n1 n2 n3 n4 hrw4 hFA hGA hb3 hb
          unfold txt
          go_upto_region 12 with (fail)
          go_quiet ((go_at_call 24; exact Calls.quiet_of_same (HH1.out _ (Chg.drewN _ _ _))))
          --MARK1
          go_wp2
          go_roundw
          case rel => exact ⟨j + 1, s', F', G', by omega, by omega, by go_num, q15.keep (Chg.drewN (fun _ => False) _ _) (fun _ _ x => x), r1.keep (Chg.drewN (fun _ => False) _ _) (fun _ _ x => x), hD', hFw', hGw', below_drewN hb5 _⟩
          case measure => simp [intOf]; omega
      · have h60i : ¬ (j : Int) < 60 := by omega
        go_wp2
        go_ret
        exact ⟨rfl, hb⟩
    · have hlti : ¬ (j : Int) < (len : Int) := by omega
      go_wp2
      go_ret
      exact ⟨rfl, hb⟩
end Go.Proofs.Ytmaebileagfdaaa
