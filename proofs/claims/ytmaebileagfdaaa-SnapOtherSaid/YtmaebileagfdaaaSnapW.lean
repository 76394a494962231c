/- Chapter 22's works. -/
import Derived.Test.YtmaebileagfdaaaDeskA
import Derived.Test.YtmaebileagfdaaaSnapP
import Derived.Deep.RegionWith
namespace Go.Proofs.Ytmaebileagfdaaa
open Go.RowKit Crc Dk Snp

theorem own_rowV {w : World} {e : TypeId} {size : Nat} {v : Value} {n : Nat} {xs : List Value} (h : w.ownsRow 0 e size v n xs) (hn : 0 < n) : ∃ g cap, v = .slice (some ⟨g, 0, none⟩) n cap ∧ n ≤ cap ∧ RowV w g xs ∧ v.ownBlock = some g := by
  rcases h.2 with ⟨_, h1⟩ | ⟨g, cap, cur, rfl, _, hg, hc, _, hcs, ht⟩
  · omega
  · refine ⟨g, cap, rfl, hc, ?_, rfl⟩
    intro j u hu
    refine ⟨?_, ?_⟩
    · rw [cell_of_row _ _ _ _ _ _ hg]
      rw [← ht] at hu
      rw [List.getElem?_take] at hu
      split at hu
      · simpa using hu
      · cases hu
    · exact frozen_of_row _ _ _ _ _ hg

theorem rowV_piece {w : World} {g : Nat} {l : List (Nat × List UInt8)} (h : RowV w g (encQ l)) (j : Nat) (x : Nat × List UInt8) (hx : l[j]? = some x) :
    (w.cell? ⟨g, j * 2, none⟩ = some (.int .i64 (x.1 : Nat)) ∧ w.frozen? ⟨g, j * 2, none⟩ = false) ∧ w.cell? ⟨g, j * 2 + 1, none⟩ = some (.string (mkS x.2)) ∧ w.frozen? ⟨g, j * 2 + 1, none⟩ = false := by
  obtain ⟨g1, g2⟩ := encQ_get l j x hx
  exact ⟨h _ _ g1, h _ _ g2⟩

def worS : List UInt8 := List.replicate 299 0 ++ [120]

set_option maxRecDepth 100000 in
set_option maxHeartbeats 2000000 in
theorem sworks_any (w : World) : Calls Try.prog 25 #[] w fun e w' => e = .returned (.bool true) ∧ Below w.heap.size w w' := by
  obtain ⟨S, hS⟩ : ∃ S, Hid (S = worS) := ⟨_, Lib.hid rfl⟩
  have hSl : S.length = 300 := by rw [hS.out]; rfl
  have C1 := fun W => cut_any (mkS S) (by rw [mkS_size, hSl]; omega) W
  have K1 := fun W => keyof_any 7 (mkS S) (by rw [mkS_size, hSl]; omega) W
  have MB : ∀ W : World, (Instr.makeSlice 47 (.int .i64 299) (.int .i64 299)).run Try.prog W = .ok (.slice (some ⟨W.heap.size, 0, none⟩) 299 299) (W.alloc (.cells (encY (List.replicate 299 0)).toArray 5)) := fun W => by
    have := run_make_row' (P := Try.prog) 47 5 (.int .u8 0) 1 (by kernel_rfl) (by kernel_rfl) rfl .i64 .i64 299 (by omega) (by omega) W
    rw [madeCells_rep] at this
    rw [show encY (List.replicate 299 0) = List.replicate 299 (.int .u8 0) by simp [encY]]
    exact this
  obtain ⟨ZC, hZC⟩ : ∃ ZC, Hid (ZC = (encY (List.replicate 299 0)).toArray) := ⟨_, Lib.hid rfl⟩
  have CV : ∀ W : World, (convert 47 9 (.slice (some ⟨W.heap.size, 0, none⟩) 299 299)).run Try.prog (W.alloc (.cells ZC 5)) = .ok (.string (mkS (List.replicate 299 0))) (W.alloc (.cells ZC 5)) := fun W =>
    run_bytes_string_new W 47 9 5 ZC 299 299 (List.replicate 299 0) (by kernel_rfl) (by kernel_rfl) (by kernel_rfl) (by simp) (by rw [hZC.out]; rfl)
  rw [← hZC.out] at MB
  obtain ⟨Z, hZ⟩ : ∃ Z, Hid (Z = mkS (List.replicate 299 0)) := ⟨_, Lib.hid rfl⟩
  rw [← hZ.out] at CV
  have HC : Z ++ { data := #[120] } = mkS S := by
    rw [hZ.out, hS.out, worS, ← mkS_append]; rfl
  have hZs : Z.size = 299 := by rw [hZ.out, mkS_size]; rfl
  have hn2 : npc S = 2 := by rw [npc, hSl]
  obtain ⟨T0, hT0⟩ : ∃ T0, Hid (T0 = (piece S 0).2) := ⟨_, Lib.hid rfl⟩
  obtain ⟨T1, hT1⟩ : ∃ T1, Hid (T1 = (piece S 1).2) := ⟨_, Lib.hid rfl⟩
  have hpc : pieces S = [(0, T0), (256, T1)] := by
    rw [pieces, hSl]
    show some_ S 2 = _
    rw [hT0.out, hT1.out]; rfl
  obtain ⟨M, hM⟩ : ∃ M, Hid (M = moreN 0 S) := ⟨_, Lib.hid rfl⟩
  rw [mkS_data] at C1
  unfold keyV at K1
  rw [mkS_data, ← hM.out, hSl] at K1
  rw [hpc] at C1
  have h3e : ((300 : Nat) : Int) = 300 := rfl
  rw [h3e] at K1
  have hS16 : S.length ≤ 16777216 := by omega
  have hi0 : HInv S (hand none 7 (S.length : Nat) (M : Nat)) [] := fresh_inv S 7 M
  obtain ⟨a1, a2, a3⟩ := step_miss S hS16 none 7 (M : Nat) [] hi0 1 (by omega) 0 (by omega) (by decide)
  have hs1e : ((256 * 1 : Nat) : Int) = 256 := rfl
  have hs0e : ((256 * 0 : Nat) : Int) = 0 := rfl
  have hle : ((S.length : Nat) : Int) = 300 := by rw [hSl]; rfl
  obtain ⟨s1, hs1⟩ : ∃ s1, Hid (s1 = (deskStep none 7 (S.length : Nat) (M : Nat) ((256 * 1 : Nat) : Int) (piece S 1).2).1) := ⟨_, Lib.hid rfl⟩
  rw [← hs1.out] at a2 a3
  have hall : ∀ d, d < npc S → d ∈ [0, 1] := by
    intro d hd
    rcases (by omega : d = 0 ∨ d = 1) with rfl | rfl
    · simp
    · simp
  have a4 := step_full S hS16 s1 7 (M : Nat) [1] a2 0 (by omega) hall
  rw [if_pos (by rw [hM.out])] at a4
  have e1 : deskStep none 7 300 (M : Nat) 256 T1 = (s1, none) := by
    rw [← hle, hT1.out, ← hs1e]
    exact Prod.ext hs1.out.symm a1
  have e2 : deskStep s1 7 300 (M : Nat) 0 T0 = (none, some S) := by
    rw [← hle, hT0.out, ← hs0e]; exact a4
  have e3 : hasN s1 = 44 := by rw [a3, hSl]; decide +kernel
  clear h3e hall a1 a2 a3 a4 hi0 hs1e hs0e hle hpc
  have HE1 := Lib.hid e1
  have HE2 := Lib.hid e2
  have HE3 := Lib.hid e3
  clear e1 e2 e3 hS16
  go_enter Try.func25, Try.ntmps25
  go_upto_region 4 with (first
    | (go_at_call 17; refine (C1 _).mono ?_; rintro y w1 ⟨v1, rfl, ho1, hv1, hb1⟩)
    | (go_at_call 15; refine (K1 _).mono ?_; rintro y w2 ⟨rfl, hb2⟩)
    | (go_at_call 21; refine (dnew_any _).mono ?_; rintro y w3 ⟨rfl, hd3, hb3⟩))
  obtain ⟨g, cap, rfl, hcap, hr1, hob⟩ := own_rowV ho1 (by simp)
  have hg0 := hr1.lt (by simp [encQ])
  obtain ⟨KB, hKB⟩ : ∃ KB, Hid (KB = w2.heap.size) := ⟨_, Lib.hid rfl⟩
  have hk2 : RowV (w2.alloc (.cells #[.int .i64 7, .int .i64 300, .int .u32 (M : Nat)] 24)) w2.heap.size [.int .i64 7, .int .i64 300, .int .u32 (M : Nat)] := RowV.new w2 [.int .i64 7, .int .i64 300, .int .u32 (M : Nat)] 24
  have hal : Below w2.heap.size w2 (w2.alloc (.cells #[.int .i64 7, .int .i64 300, .int .u32 (M : Nat)] 24)) := (Below.refl _ _).alloc (Nat.le_refl _) _
  have hz2 : (w2.alloc (.cells #[.int .i64 7, .int .i64 300, .int .u32 (M : Nat)] 24)).heap.size = w2.heap.size + 1 := by simp
  have hk3 := hk2.below hb3
  have hr3 := ((hr1.below hb2).below hal).below hb3
  have hB3 : Below w.heap.size w w3 := below_tr (below_tr (below_tr (((Below.refl w.heap.size w).alloc (Nat.le_refl _) _)) hb1) hb2) (below_tr hal hb3)
  rw [hz2, ← hKB.out] at hd3
  rw [← hKB.out] at hk3 ⊢
  have hgK : g < KB := by rw [hKB.out]; exact Nat.lt_of_lt_of_le hg0 hb2.size
  have hwK : w.heap.size ≤ KB := by rw [hKB.out]; have u1 := hb1.size; have u2 := hb2.size; simp at u1; omega
  clear hk2 hal hz2 hb1 hb2 hb3 hr1 hv1 ho1 MB CV C1 K1 hob
  have p0 := (hr3 0 _ rfl).1
  have p1 := (hr3 1 _ rfl).1
  have p2 := (hr3 2 _ rfl).1
  have p3 := (hr3 3 _ rfl).1
  have k0 := (hk3 0 _ rfl).1
  have k1 := (hk3 1 _ rfl).1
  have k2 := (hk3 2 _ rfl).1
  simp only at p0 p1 p2 p3
  have h2e : ((256 : Nat) : Int) = 256 := rfl
  have h0e : ((0 : Nat) : Int) = 0 := rfl
  rw [h2e] at p2
  rw [h0e] at p0
  go_upto_region 6 with (fail)
  --MARK1
  have D1 := fun W h => dadd_any (fun k => k = KB + 1) (KB + 1) none 7 300 (M : Nat) 256 (mkS T1) (by rw [mkS_size, hT1.out]; have := piece_len S 1 (by omega); omega) W h
  have hem : mkS [] = { data := #[] } := rfl
  simp only [mkS_data, HE1.out, txt, Option.getD_none, Option.isSome_none, hem] at D1
  have D1' := fun W (hW : Chg (fun _ => False) w3 W) => D1 W (hd3.keep hW (fun _ _ x => x))
  go_cut [5, 6] from 32 to 40 (fun x y wx => x = .string { data := #[] } ∧ y = .bool false ∧ ∃ F', DkW wx F' (KB + 1) s1 ∧ Chg (fun k => k = KB + 1) w3 wx ∧ Hid (∀ k, F' k → k = KB + 1 ∨ w3.heap.size ≤ k))
  case first =>
    go_region_with (go_at_call 22; refine (D1' _ (Chg.drew _ _)).mono ?_; rintro y w4 ⟨rfl, F', q1, q2, q3⟩)
    all_goals
      go_simp
      go_wp2
      go_meet
      case rel => exact ⟨rfl, rfl, F', q1, (Chg.drew _ _).trans q2 (fun _ _ x => x), Lib.hid q3⟩
  case rest =>
    obtain ⟨rfl, rfl, F', q1, q2, q3⟩ := hcut
    have hr4 := hr3.keep q2 (by omega)
    have hk4 := hk3.keep q2 (by omega)
    have hB4 : Below w.heap.size w wc := Chg.below_tr hB3 q2 (fun k hk e => by omega)
    have hFw : Hid (∀ k, F' k → KB + 1 ≤ k) := Lib.hid (fun k hk => by
      rcases q3.out k hk with h | h
      · omega
      · have := hd3.2.1 _ hd3.1; omega)
    clear p0 p1 p2 p3 k0 k1 k2 D1 D1' q3
    have p0 := (hr4 0 _ rfl).1
    have p1 := (hr4 1 _ rfl).1
    have k0 := (hk4 0 _ rfl).1
    have k1 := (hk4 1 _ rfl).1
    have k2 := (hk4 2 _ rfl).1
    simp only at p0 p1
    rw [h0e] at p0
    have H44 := dhas_any F' (KB + 1) s1 wc q1
    rw [HE3.out] at H44
    go_upto_region 8 with (go_at_call 24; refine H44.mono ?_; rintro y w4 ⟨rfl, rfl⟩)
    have hT0l : T0.length ≤ 300 := by rw [hT0.out, piece_len S 0 (by omega)]; omega
    have D2 := fun W (hW : Chg (fun _ => False) w4 W) => dadd_any F' (KB + 1) s1 7 300 (M : Nat) 0 (mkS T0) (by rw [mkS_size]; omega) W (q1.keep hW (fun _ _ x => x))
    simp only [mkS_data, HE2.out, txt, Option.getD_some, Option.isSome_some] at D2
    go_cut [8, 9] from 43 to 51 (fun x y wx => x = .string (mkS S) ∧ y = .bool true ∧ ∃ F2, DkW wx F2 (KB + 1) none ∧ Chg F' w4 wx)
    case first =>
      go_region_with (go_at_call 22; refine (D2 _ (Chg.drew _ _)).mono ?_; rintro y w5 ⟨rfl, F2, r1, r2, r3⟩)
      all_goals
        go_simp
        go_wp2
        go_meet
        case rel => exact ⟨rfl, rfl, F2, r1, (Chg.drew _ _).trans r2 (fun _ _ x => x)⟩
    case rest =>
      obtain ⟨rfl, rfl, F2, r1, r2⟩ := hcut
      have hk5 := hk4.keep r2 (fun h => by have := hFw.out _ h; omega)
      have hB5 : Below w.heap.size w wc := Chg.below_tr hB4 r2 (fun k hk h => by have := hFw.out _ h; omega)
      have H0 := dhas_any F2 (KB + 1) none wc r1
      have h00 : ((hasN none : Nat) : Int) = 0 := rfl
      rw [h00] at H0
      clear p0 p1 k0 k1 k2 D2
      have k1 := (hk5 1 _ rfl).1
      go_wp2_with (go_at_call 24; refine H0.mono ?_; rintro y w6 ⟨rfl, rfl⟩)
      go_ret
      exact ⟨rfl, hB5⟩
end Go.Proofs.Ytmaebileagfdaaa
