/- Whether the program's labels work: one example. -/
import Derived.Test.YtlddedddcdhjnaaDoorLo
import Derived.Test.YtlddedddcdhjnaaDoorDet
namespace Go.Proofs.YtlddedddcdhjnaaDoor
open Go.RowKit Lb Dig

theorem RowQ.of_rowV {w : World} {g : Nat} {l : List Pr} (h : RowV w g (encP l)) : RowQ w (some ⟨g, 0, none⟩) l := by
  refine ⟨.inr ⟨_, rfl, fun i p hp => ?_⟩⟩
  obtain ⟨h1, h2⟩ := encP_get l i p hp
  have ha : (⟨g, 0, none⟩ : Addr).add (i * 2) = ⟨g, i * 2, none⟩ := by unfold Addr.add; split <;> simp_all
  rw [ha]
  exact ⟨(h _ _ h1).1, (h _ _ h2).1⟩
theorem RowQ.drop {w : World} {x : Addr} {l : List Pr} (h : RowQ w (some x) l) (k : Nat) : RowQ w (some (x.add (k * 2))) (l.drop k) := by
  rcases h.row with rfl | ⟨y, e, h1⟩
  · exact ⟨.inl (by simp)⟩
  · cases e
    refine ⟨.inr ⟨_, rfl, fun i p hp => ?_⟩⟩
    rw [List.getElem?_drop] at hp
    have := h1 _ _ hp
    rw [Go.Deep.add_add, ← Nat.add_mul]
    exact this
theorem RowQ.take {w : World} {a : Option Addr} {l : List Pr} (h : RowQ w a l) (k : Nat) : RowQ w a (l.take k) := by
  rcases h.row with rfl | ⟨y, e, h1⟩
  · exact ⟨.inl (by simp)⟩
  · refine ⟨.inr ⟨y, e, fun i p hp => h1 i p ?_⟩⟩
    rw [List.getElem?_take] at hp
    split at hp
    · exact hp
    · cases hp

namespace Lb
def wA : Pr := ({ data := #[97] }, { data := #[49] })
def wB : Pr := ({ data := #[98] }, { data := #[50] })
theorem numB1 : numB 1 = [1, 1] := by
  unfold numB; rw [dig_pos 1 (by decide)]; simp [dig_zero]
theorem numB2 : numB 2 = [1, 2] := by
  unfold numB; rw [dig_pos 2 (by decide)]; simp [dig_zero]
theorem enc_w : encL [wA, wB] = ([1, 2, 1, 1, 97, 1, 1, 49, 1, 1, 98, 1, 1, 50], 0) := by
  unfold encL
  rw [if_neg (by decide)]
  show (numB 2 ++ pairsB [wA, wB], 0) = _
  rw [numB2]
  show ([1, 2] ++ ((numB 1 ++ [97]) ++ (numB 1 ++ [49]) ++ (((numB 1 ++ [98]) ++ (numB 1 ++ [50])) ++ [])), 0) = _
  rw [numB1]; rfl
/-- Some new pairs. -/
def rowq (l : List Pr) : Value → World → Prop := fun v W => ∃ q, v = .slice (some ⟨q, 0, none⟩) l.length l.length ∧ RowQ W (some ⟨q, 0, none⟩) l
theorem mono_rowq (l : List Pr) : Mono (rowq l) := by
  rintro v W W' ⟨q, h1, h2⟩ hg
  exact ⟨q, h1, h2.below hg⟩
theorem rowq_new (W : World) : rowq [wB, wA] (.slice (some ⟨W.heap.size, 0, none⟩) 2 2) (W.alloc (.cells #[.string { data := #[98] }, .string { data := #[50] }, .string { data := #[97] }, .string { data := #[49] }] 38)) :=
  ⟨_, rfl, RowQ.of_rowV (l := [wB, wA]) (RowV.new W [.string { data := #[98] }, .string { data := #[50] }, .string { data := #[97] }, .string { data := #[49] }] _)⟩
end Lb

set_option maxRecDepth 100000 in
set_option maxHeartbeats 4000000 in
theorem lworks_any (w : World) :
    Calls Tryd.prog 26 #[] w fun e w' => e = .returned (.bool true) ∧ Below w.heap.size w w' := by
  have hx0 := RowV.new w (encP [wA, wB]) 38
  have hba : Below w.heap.size w (w.alloc (.cells (encP [wA, wB]).toArray 38)) := (Below.refl _ _).alloc (Nat.le_refl _) _
  obtain ⟨W1, hW1⟩ : ∃ W, Hid (W = w.alloc (.cells (encP [wA, wB]).toArray 38)) := ⟨_, Lib.hid rfl⟩
  obtain ⟨g, hg⟩ : ∃ g, Hid (g = w.heap.size) := ⟨_, Lib.hid rfl⟩
  go_enter Tryd.func26, Tryd.ntmps26
  go_upto_region 2 with (fail)
  rw [show w.alloc (.cells #[.string { data := #[97] }, .string { data := #[49] }, .string { data := #[98] }, .string { data := #[50] }] 38) = W1 from hW1.out.symm, ← hg.out]
  rw [← hW1.out, ← hg.out] at hx0
  rw [← hW1.out] at hba
  have hsz : ∀ p ∈ [wA, wB], p.1.size ≤ 4611686018427387904 ∧ p.2.size ≤ 4611686018427387904 := fun p hp => by
    simp at hp; rcases hp with rfl | rfl <;> decide
  have EN := lencode_any [wA, wB] (some ⟨g, 0, none⟩) 2 2 rfl (by omega) hsz W1 (RowQ.of_rowV hx0)
  rw [enc_w] at EN
  simp only [mkS] at EN
  go_upto_region 3 with (go_at_call 18; refine EN.mono ?_; rintro y w2 ⟨rfl, hb2⟩)
  have hx2 := hx0.below hb2
  have hbel2 := below_tr hba hb2
  have hq2 := RowQ.of_rowV hx2
  have hq1 := hq2.take 1
  have hq3 := hq2.drop 1
  rw [show (⟨g, 0, none⟩ : Addr).add (1 * 2) = ⟨g, 2, none⟩ from rfl] at hq3
  have C1 := fun W h1 h2 => lcompare_any [wA] [wA, wB] (some ⟨g, 0, none⟩) (some ⟨g, 0, none⟩) 1 2 2 2 rfl rfl (by omega) (by omega) W h1 h2
  have K1 := fun W h => lcheck_any [wB] (some ⟨g, 2, none⟩) 1 1 rfl (by omega) (fun p hp => hsz p (by simp at hp; simp [hp])) W h
  have K2 := fun q W h => lcheck_any [wB, wA] (some ⟨q, 0, none⟩) 2 2 rfl (by omega) (fun p hp => hsz p (by simp at hp; rcases hp with rfl | rfl <;> simp)) W h
  have G1 := fun W h => lget_any [wA, wB] (some ⟨g, 0, none⟩) 2 2 { data := #[98] } rfl (by omega) W h
  rw [show cmpL [wA] [wA, wB] = -1 from by decide] at C1
  rw [show chkL [wB] = 0 from by decide] at K1
  rw [show chkL [wB, wA] = 16 from by decide] at K2
  rw [show getL [wA, wB] { data := #[98] } = { data := #[50] } from by decide] at G1
  have HB0 := Below.refl w2.heap.size w2
  clear EN hx0 hba
  refine wp_region_det_list (by kernel_rfl) (by kernel_rfl) (SL [eqv (.string { data := #[1, 2, 1, 1, 97, 1, 1, 49, 1, 1, 98, 1, 1, 50] }), eqv (.bool true), eqv (.bool true), eqv (.int .i64 0), eqv (.bool true), eqv (.bool true), eqv (.bool true), eqv (.slice (some ⟨g, 0, none⟩) 2 2), eqv (.slice (some ⟨g, 0, none⟩) 1 2), eqv (.slice (some ⟨g, 0, none⟩) 2 2), eqv (.int .i64 (-1)), eqv (.bool true), eqv (.bool true), eqv (.bool true), eqv (.slice (some ⟨g, 0, none⟩) 2 2), eqv (.slice (some ⟨g, 2, none⟩) 1 1), eqv (.int .i64 0), eqv (.bool true), eqv (.bool true), eqv (.bool true), eqv (.slice (some ⟨g, 0, none⟩) 2 2), eqv (.pointer (some ⟨g, 2, none⟩)), eqv (.agg #[.string { data := #[98] }, .string { data := #[50] }]), eqv (.slice (some ⟨g, 0, none⟩) 2 2), eqv (.pointer (some ⟨g, 0, none⟩)), eqv (.agg #[.string { data := #[97] }, .string { data := #[49] }]), rowq [wB, wA], eqv (.int .i64 16), eqv (.bool true), eqv (.bool true), eqv (.bool true), eqv (.slice (some ⟨g, 0, none⟩) 2 2), eqv (.string { data := #[50] }), eqv (.bool true), eqv (.bool true), eqv (.bool true)]) (fun W => Below w2.heap.size w2 W) Grow ?hJ ?hX ?hop ?hend
  case hJ => exact HB0.drew
  case hX => exact SL_mono _ ⟨mono_eqv _, mono_eqv _, mono_eqv _, mono_eqv _, mono_eqv _, mono_eqv _, mono_eqv _, mono_eqv _, mono_eqv _, mono_eqv _, mono_eqv _, mono_eqv _, mono_eqv _, mono_eqv _, mono_eqv _, mono_eqv _, mono_eqv _, mono_eqv _, mono_eqv _, mono_eqv _, mono_eqv _, mono_eqv _, mono_eqv _, mono_eqv _, mono_eqv _, mono_eqv _, mono_rowq _, mono_eqv _, mono_eqv _, mono_eqv _, mono_eqv _, mono_eqv _, mono_eqv _, mono_eqv _, mono_eqv _, mono_eqv _, trivial⟩
  case hop =>
    refine OpsGoal.more 0 1 rfl (fun vals W hJ hS => ?_) ?_
    · clear hS
      simp only [fillTo]
      go_wp2
      exact ⟨rfl, SL_eq rfl rfl, hJ, Below.refl _ _⟩
    refine OpsGoal.more 1 2 rfl (fun vals W hJ hS => ?_) ?_
    · have h0 := SL_val rfl (hS 0 (by kernel_rfl))
      clear hS
      simp only [fillTo]
      go_simp
      generalize vals 0 = v0 at h0 ⊢
      subst h0
      go_wp2
      exact ⟨rfl, SL_eq rfl rfl, hJ, Below.refl _ _⟩
    refine OpsGoal.more 2 3 rfl (fun vals W hJ hS => ?_) ?_
    · have h1 := SL_val rfl (hS 1 (by kernel_rfl))
      clear hS
      simp only [fillTo]
      go_simp
      generalize vals 1 = v1 at h1 ⊢
      subst h1
      go_wp2
      exact ⟨rfl, SL_eq rfl rfl, hJ, Below.refl _ _⟩
    refine OpsGoal.more 3 4 rfl (fun vals W hJ hS => ?_) ?_
    · have h2 := SL_val rfl (hS 2 (by kernel_rfl))
      clear hS
      simp only [fillTo]
      go_simp
      generalize vals 2 = v2 at h2 ⊢
      subst h2
      go_wp2
      exact ⟨rfl, SL_eq rfl rfl, hJ, Below.refl _ _⟩
    refine OpsGoal.more 4 5 rfl (fun vals W hJ hS => ?_) ?_
    · have h2 := SL_val rfl (hS 2 (by kernel_rfl))
      have h3 := SL_val rfl (hS 3 (by kernel_rfl))
      clear hS
      simp only [fillTo]
      go_simp
      generalize vals 2 = v2 at h2 ⊢
      subst h2
      generalize vals 3 = v3 at h3 ⊢
      subst h3
      go_wp2
      exact ⟨rfl, SL_eq rfl rfl, hJ, Below.refl _ _⟩
    refine OpsGoal.more 5 6 rfl (fun vals W hJ hS => ?_) ?_
    · have h2 := SL_val rfl (hS 2 (by kernel_rfl))
      have h4 := SL_val rfl (hS 4 (by kernel_rfl))
      clear hS
      simp only [fillTo]
      go_simp
      generalize vals 2 = v2 at h2 ⊢
      subst h2
      generalize vals 4 = v4 at h4 ⊢
      subst h4
      go_wp2
      exact ⟨rfl, SL_eq rfl rfl, hJ, Below.refl _ _⟩
    refine OpsGoal.more 6 7 rfl (fun vals W hJ hS => ?_) ?_
    · have h5 := SL_val rfl (hS 5 (by kernel_rfl))
      clear hS
      simp only [fillTo]
      go_simp
      generalize vals 5 = v5 at h5 ⊢
      subst h5
      go_wp2
      exact ⟨rfl, SL_eq rfl rfl, hJ, Below.refl _ _⟩
    refine OpsGoal.more 7 8 rfl (fun vals W hJ hS => ?_) ?_
    · have h6 := SL_val rfl (hS 6 (by kernel_rfl))
      clear hS
      simp only [fillTo]
      go_simp
      generalize vals 6 = v6 at h6 ⊢
      subst h6
      go_wp2
      exact ⟨rfl, SL_eq rfl rfl, hJ, Below.refl _ _⟩
    refine OpsGoal.more 8 9 rfl (fun vals W hJ hS => ?_) ?_
    · have h6 := SL_val rfl (hS 6 (by kernel_rfl))
      have h7 := SL_val rfl (hS 7 (by kernel_rfl))
      clear hS
      simp only [fillTo]
      go_simp
      generalize vals 6 = v6 at h6 ⊢
      subst h6
      generalize vals 7 = v7 at h7 ⊢
      subst h7
      go_wp2
      exact ⟨rfl, SL_eq rfl rfl, hJ, Below.refl _ _⟩
    refine OpsGoal.more 9 10 rfl (fun vals W hJ hS => ?_) ?_
    · have h6 := SL_val rfl (hS 6 (by kernel_rfl))
      clear hS
      simp only [fillTo]
      go_simp
      generalize vals 6 = v6 at h6 ⊢
      subst h6
      go_wp2
      exact ⟨rfl, SL_eq rfl rfl, hJ, Below.refl _ _⟩
    refine OpsGoal.more 10 11 rfl (fun vals W hJ hS => ?_) ?_
    · have h6 := SL_val rfl (hS 6 (by kernel_rfl))
      have h8 := SL_val rfl (hS 8 (by kernel_rfl))
      have h9 := SL_val rfl (hS 9 (by kernel_rfl))
      clear hS
      simp only [fillTo]
      go_simp
      generalize vals 6 = v6 at h6 ⊢
      subst h6
      generalize vals 8 = v8 at h8 ⊢
      subst h8
      generalize vals 9 = v9 at h9 ⊢
      subst h9
      go_wp2_with (go_at_call 22; refine (C1 _ (hq1.below hJ) (hq2.below hJ)).mono ?_; rintro e w' ⟨rfl, hb⟩)
      exact ⟨rfl, SL_eq rfl rfl, hJ.trans (hb.mono hJ.size), hb⟩
    refine OpsGoal.more 11 12 rfl (fun vals W hJ hS => ?_) ?_
    · have h6 := SL_val rfl (hS 6 (by kernel_rfl))
      have h10 := SL_val rfl (hS 10 (by kernel_rfl))
      clear hS
      simp only [fillTo]
      go_simp
      generalize vals 6 = v6 at h6 ⊢
      subst h6
      generalize vals 10 = v10 at h10 ⊢
      subst h10
      go_wp2
      exact ⟨rfl, SL_eq rfl rfl, hJ, Below.refl _ _⟩
    refine OpsGoal.more 12 13 rfl (fun vals W hJ hS => ?_) ?_
    · have h6 := SL_val rfl (hS 6 (by kernel_rfl))
      have h11 := SL_val rfl (hS 11 (by kernel_rfl))
      clear hS
      simp only [fillTo]
      go_simp
      generalize vals 6 = v6 at h6 ⊢
      subst h6
      generalize vals 11 = v11 at h11 ⊢
      subst h11
      go_wp2
      exact ⟨rfl, SL_eq rfl rfl, hJ, Below.refl _ _⟩
    refine OpsGoal.more 13 14 rfl (fun vals W hJ hS => ?_) ?_
    · have h12 := SL_val rfl (hS 12 (by kernel_rfl))
      clear hS
      simp only [fillTo]
      go_simp
      generalize vals 12 = v12 at h12 ⊢
      subst h12
      go_wp2
      exact ⟨rfl, SL_eq rfl rfl, hJ, Below.refl _ _⟩
    refine OpsGoal.more 14 15 rfl (fun vals W hJ hS => ?_) ?_
    · have h13 := SL_val rfl (hS 13 (by kernel_rfl))
      clear hS
      simp only [fillTo]
      go_simp
      generalize vals 13 = v13 at h13 ⊢
      subst h13
      go_wp2
      exact ⟨rfl, SL_eq rfl rfl, hJ, Below.refl _ _⟩
    refine OpsGoal.more 15 16 rfl (fun vals W hJ hS => ?_) ?_
    · have h13 := SL_val rfl (hS 13 (by kernel_rfl))
      have h14 := SL_val rfl (hS 14 (by kernel_rfl))
      clear hS
      simp only [fillTo]
      go_simp
      generalize vals 13 = v13 at h13 ⊢
      subst h13
      generalize vals 14 = v14 at h14 ⊢
      subst h14
      go_wp2
      exact ⟨rfl, SL_eq rfl rfl, hJ, Below.refl _ _⟩
    refine OpsGoal.more 16 17 rfl (fun vals W hJ hS => ?_) ?_
    · have h13 := SL_val rfl (hS 13 (by kernel_rfl))
      have h15 := SL_val rfl (hS 15 (by kernel_rfl))
      clear hS
      simp only [fillTo]
      go_simp
      generalize vals 13 = v13 at h13 ⊢
      subst h13
      generalize vals 15 = v15 at h15 ⊢
      subst h15
      go_wp2_with (go_at_call 20; refine (K1 _ (hq3.below hJ)).mono ?_; rintro e w' ⟨rfl, hb⟩)
      exact ⟨rfl, SL_eq rfl rfl, hJ.trans (hb.mono hJ.size), hb⟩
    refine OpsGoal.more 17 18 rfl (fun vals W hJ hS => ?_) ?_
    · have h13 := SL_val rfl (hS 13 (by kernel_rfl))
      have h16 := SL_val rfl (hS 16 (by kernel_rfl))
      clear hS
      simp only [fillTo]
      go_simp
      generalize vals 13 = v13 at h13 ⊢
      subst h13
      generalize vals 16 = v16 at h16 ⊢
      subst h16
      go_wp2
      exact ⟨rfl, SL_eq rfl rfl, hJ, Below.refl _ _⟩
    refine OpsGoal.more 18 19 rfl (fun vals W hJ hS => ?_) ?_
    · have h13 := SL_val rfl (hS 13 (by kernel_rfl))
      have h17 := SL_val rfl (hS 17 (by kernel_rfl))
      clear hS
      simp only [fillTo]
      go_simp
      generalize vals 13 = v13 at h13 ⊢
      subst h13
      generalize vals 17 = v17 at h17 ⊢
      subst h17
      go_wp2
      exact ⟨rfl, SL_eq rfl rfl, hJ, Below.refl _ _⟩
    refine OpsGoal.more 19 20 rfl (fun vals W hJ hS => ?_) ?_
    · have h18 := SL_val rfl (hS 18 (by kernel_rfl))
      clear hS
      simp only [fillTo]
      go_simp
      generalize vals 18 = v18 at h18 ⊢
      subst h18
      go_wp2
      exact ⟨rfl, SL_eq rfl rfl, hJ, Below.refl _ _⟩
    refine OpsGoal.more 20 21 rfl (fun vals W hJ hS => ?_) ?_
    · have h19 := SL_val rfl (hS 19 (by kernel_rfl))
      clear hS
      simp only [fillTo]
      go_simp
      generalize vals 19 = v19 at h19 ⊢
      subst h19
      go_wp2
      exact ⟨rfl, SL_eq rfl rfl, hJ, Below.refl _ _⟩
    refine OpsGoal.more 21 22 rfl (fun vals W hJ hS => ?_) ?_
    · have h19 := SL_val rfl (hS 19 (by kernel_rfl))
      have h20 := SL_val rfl (hS 20 (by kernel_rfl))
      clear hS
      simp only [fillTo]
      go_simp
      generalize vals 19 = v19 at h19 ⊢
      subst h19
      generalize vals 20 = v20 at h20 ⊢
      subst h20
      go_wp2
      exact ⟨rfl, SL_eq rfl rfl, hJ, Below.refl _ _⟩
    refine OpsGoal.more 22 23 rfl (fun vals W hJ hS => ?_) ?_
    · have h19 := SL_val rfl (hS 19 (by kernel_rfl))
      have h21 := SL_val rfl (hS 21 (by kernel_rfl))
      have hcW := hx2.below hJ
      have x2 := (hcW 2 _ rfl).1
      have x3 := (hcW 3 _ rfl).1
      have h21 := SL_val rfl (hS 21 (by kernel_rfl))
      clear hS
      simp only [fillTo]
      go_simp
      generalize vals 19 = v19 at h19 ⊢
      subst h19
      generalize vals 21 = v21 at h21 ⊢
      subst h21
      go_wp2
      exact ⟨rfl, SL_eq rfl rfl, hJ, Below.refl _ _⟩
    refine OpsGoal.more 23 24 rfl (fun vals W hJ hS => ?_) ?_
    · have h19 := SL_val rfl (hS 19 (by kernel_rfl))
      clear hS
      simp only [fillTo]
      go_simp
      generalize vals 19 = v19 at h19 ⊢
      subst h19
      go_wp2
      exact ⟨rfl, SL_eq rfl rfl, hJ, Below.refl _ _⟩
    refine OpsGoal.more 24 25 rfl (fun vals W hJ hS => ?_) ?_
    · have h19 := SL_val rfl (hS 19 (by kernel_rfl))
      have h23 := SL_val rfl (hS 23 (by kernel_rfl))
      clear hS
      simp only [fillTo]
      go_simp
      generalize vals 19 = v19 at h19 ⊢
      subst h19
      generalize vals 23 = v23 at h23 ⊢
      subst h23
      go_wp2
      exact ⟨rfl, SL_eq rfl rfl, hJ, Below.refl _ _⟩
    refine OpsGoal.more 25 26 rfl (fun vals W hJ hS => ?_) ?_
    · have h19 := SL_val rfl (hS 19 (by kernel_rfl))
      have h24 := SL_val rfl (hS 24 (by kernel_rfl))
      have hcW := hx2.below hJ
      have x2 := (hcW 0 _ rfl).1
      have x3 := (hcW 1 _ rfl).1
      clear hS
      simp only [fillTo]
      go_simp
      generalize vals 19 = v19 at h19 ⊢
      subst h19
      generalize vals 24 = v24 at h24 ⊢
      subst h24
      go_wp2
      exact ⟨rfl, SL_eq rfl rfl, hJ, Below.refl _ _⟩
    refine OpsGoal.more 26 27 rfl (fun vals W hJ hS => ?_) ?_
    · have h19 := SL_val rfl (hS 19 (by kernel_rfl))
      have h22 := SL_val rfl (hS 22 (by kernel_rfl))
      have h25 := SL_val rfl (hS 25 (by kernel_rfl))
      have hR := rowq_new W
      have hJ2 := hJ.alloc hJ.size (.cells #[.string { data := #[98] }, .string { data := #[50] }, .string { data := #[97] }, .string { data := #[49] }] 38)
      have hX2 : Grow W (W.alloc (.cells #[.string { data := #[98] }, .string { data := #[50] }, .string { data := #[97] }, .string { data := #[49] }] 38)) := (Below.refl _ _).alloc (Nat.le_refl _) _
      clear hS
      simp only [fillTo]
      go_simp
      generalize vals 19 = v19 at h19 ⊢
      subst h19
      go_wp2
      refine ⟨rfl, ?_, hJ2, hX2⟩; exact SL_at (p := rowq [wB, wA]) rfl hR
    refine OpsGoal.more 27 28 rfl (fun vals W hJ hS => ?_) ?_
    · have h19 := SL_val rfl (hS 19 (by kernel_rfl))
      have h26 := SL_get (p := rowq [wB, wA]) rfl (hS 26 (by kernel_rfl))
      clear hS
      simp only [fillTo]
      go_simp
      generalize vals 19 = v19 at h19 ⊢
      subst h19
      obtain ⟨q, hv26, hq26⟩ := h26
      generalize vals 26 = v26 at hv26 ⊢
      subst hv26
      go_wp2_with (go_at_call 20; refine (K2 q _ hq26).mono ?_; rintro e w' ⟨rfl, hb⟩)
      exact ⟨rfl, SL_eq rfl rfl, hJ.trans (hb.mono hJ.size), hb⟩
    refine OpsGoal.more 28 29 rfl (fun vals W hJ hS => ?_) ?_
    · have h19 := SL_val rfl (hS 19 (by kernel_rfl))
      have h27 := SL_val rfl (hS 27 (by kernel_rfl))
      clear hS
      simp only [fillTo]
      go_simp
      generalize vals 19 = v19 at h19 ⊢
      subst h19
      generalize vals 27 = v27 at h27 ⊢
      subst h27
      go_wp2
      exact ⟨rfl, SL_eq rfl rfl, hJ, Below.refl _ _⟩
    refine OpsGoal.more 29 30 rfl (fun vals W hJ hS => ?_) ?_
    · have h19 := SL_val rfl (hS 19 (by kernel_rfl))
      have h28 := SL_val rfl (hS 28 (by kernel_rfl))
      clear hS
      simp only [fillTo]
      go_simp
      generalize vals 19 = v19 at h19 ⊢
      subst h19
      generalize vals 28 = v28 at h28 ⊢
      subst h28
      go_wp2
      exact ⟨rfl, SL_eq rfl rfl, hJ, Below.refl _ _⟩
    refine OpsGoal.more 30 31 rfl (fun vals W hJ hS => ?_) ?_
    · have h29 := SL_val rfl (hS 29 (by kernel_rfl))
      clear hS
      simp only [fillTo]
      go_simp
      generalize vals 29 = v29 at h29 ⊢
      subst h29
      go_wp2
      exact ⟨rfl, SL_eq rfl rfl, hJ, Below.refl _ _⟩
    refine OpsGoal.more 31 32 rfl (fun vals W hJ hS => ?_) ?_
    · have h30 := SL_val rfl (hS 30 (by kernel_rfl))
      clear hS
      simp only [fillTo]
      go_simp
      generalize vals 30 = v30 at h30 ⊢
      subst h30
      go_wp2
      exact ⟨rfl, SL_eq rfl rfl, hJ, Below.refl _ _⟩
    refine OpsGoal.more 32 33 rfl (fun vals W hJ hS => ?_) ?_
    · have h30 := SL_val rfl (hS 30 (by kernel_rfl))
      have h31 := SL_val rfl (hS 31 (by kernel_rfl))
      clear hS
      simp only [fillTo]
      go_simp
      generalize vals 30 = v30 at h30 ⊢
      subst h30
      generalize vals 31 = v31 at h31 ⊢
      subst h31
      go_wp2_with (go_at_call 24; refine (G1 _ (hq2.below hJ)).mono ?_; rintro e w' ⟨rfl, hb⟩)
      exact ⟨rfl, SL_eq rfl rfl, hJ.trans (hb.mono hJ.size), hb⟩
    refine OpsGoal.more 33 34 rfl (fun vals W hJ hS => ?_) ?_
    · have h30 := SL_val rfl (hS 30 (by kernel_rfl))
      have h32 := SL_val rfl (hS 32 (by kernel_rfl))
      clear hS
      simp only [fillTo]
      go_simp
      generalize vals 30 = v30 at h30 ⊢
      subst h30
      generalize vals 32 = v32 at h32 ⊢
      subst h32
      go_wp2
      exact ⟨rfl, SL_eq rfl rfl, hJ, Below.refl _ _⟩
    refine OpsGoal.more 34 35 rfl (fun vals W hJ hS => ?_) ?_
    · have h30 := SL_val rfl (hS 30 (by kernel_rfl))
      have h33 := SL_val rfl (hS 33 (by kernel_rfl))
      clear hS
      simp only [fillTo]
      go_simp
      generalize vals 30 = v30 at h30 ⊢
      subst h30
      generalize vals 33 = v33 at h33 ⊢
      subst h33
      go_wp2
      exact ⟨rfl, SL_eq rfl rfl, hJ, Below.refl _ _⟩
    refine OpsGoal.more 35 36 rfl (fun vals W hJ hS => ?_) ?_
    · have h34 := SL_val rfl (hS 34 (by kernel_rfl))
      clear hS
      simp only [fillTo]
      go_simp
      generalize vals 34 = v34 at h34 ⊢
      subst h34
      go_wp2
      exact ⟨rfl, SL_eq rfl rfl, hJ, Below.refl _ _⟩
    exact trivial
  case hend =>
    intro vals W hJ hS
    have h35 := SL_val rfl (hS 35 (by decide))
    clear hS
    simp only [List.size_toArray, List.length_cons, List.length_nil, Nat.reduceAdd, fillTo]
    go_simp
    generalize vals 35 = v35 at h35 ⊢
    subst h35
    go_wp2
    go_ret
    exact ⟨rfl, below_tr hbel2 hJ⟩
end Go.Proofs.YtlddedddcdhjnaaDoor
