/- The law of names and values. -/
import Derived.Test.YtlddedddcdhjnaaDoorLw
namespace Go.Proofs.YtlddedddcdhjnaaDoor
open Go.RowKit Lb Dig

namespace Lb
theorem chk_name (s : ByteArray) : chkL [(s, { data := #[49] })] = if nameB s.data.toList = true then 0 else 16 := by
  have h1 : valueB ({ data := #[49] } : ByteArray).data.toList = true := by decide
  unfold chkL okL
  simp only [List.length_cons, List.length_nil]
  rw [h1]
  by_cases h : nameB s.data.toList = true
  · rw [gtB_nil h, h]; simp [okL]
  · have h2 : nameB s.data.toList = false := by simpa using h
    rw [h2]; simp
theorem chk_value (s : ByteArray) : chkL [({ data := #[97] }, s)] = if valueB s.data.toList = true then 0 else 16 := by
  have h1 : nameB ({ data := #[97] } : ByteArray).data.toList = true := by decide
  unfold chkL okL
  simp only [List.length_cons, List.length_nil]
  rw [h1, gtB_nil h1]
  by_cases h : valueB s.data.toList = true
  · rw [h]; simp [okL]
  · have h2 : valueB s.data.toList = false := by simpa using h
    rw [h2]; simp
end Lb
/-- One new pair. -/
theorem RowQ.of_one (w : World) (s t : ByteArray) : RowQ (w.alloc (.cells #[.string s, .string t] 38)) (some ⟨w.heap.size, 0, none⟩) [(s, t)] :=
  RowQ.of_rowV (l := [(s, t)]) (RowV.new w [.string s, .string t] _)

set_option maxRecDepth 100000 in
set_option maxHeartbeats 4000000 in
theorem labelNames_walk (s : ByteArray) (hs : s.size ≤ 140737488351232) (w : World) :
    Calls Tryd.prog 6 #[.string s] w fun e w' => e = .returned (.bool true) ∧ Below w.heap.size w w' := by
  have W1 := fun W => lworks_any W
  by_cases h5 : s.size ≤ 500
  · have h5i : (s.size : Int) ≤ 500 := by omega
    have KN := fun (g : Nat) W h => lcheck_any [(s, { data := #[49] })] (some ⟨g, 0, none⟩) 1 1 rfl (by omega) (fun p hp => by simp at hp; subst hp; exact ⟨show s.size ≤ _ by omega, show (1 : Nat) ≤ _ by omega⟩) W h
    have KV := fun (g : Nat) W h => lcheck_any [({ data := #[97] }, s)] (some ⟨g, 0, none⟩) 1 1 rfl (by omega) (fun p hp => by simp at hp; subst hp; exact ⟨show (1 : Nat) ≤ _ by omega, show s.size ≤ _ by omega⟩) W h
    have RN := fun W => rname_any s (by omega) W
    have RV := fun W => rvalue_any s (by omega) W
    rw [chk_name] at KN
    rw [chk_value] at KV
    obtain ⟨N, hN⟩ : ∃ N, nameB s.data.toList = N := ⟨_, rfl⟩
    obtain ⟨V, hV⟩ : ∃ V, valueB s.data.toList = V := ⟨_, rfl⟩
    rw [hN] at KN RN
    rw [hV] at KV RV
    clear hN hV
    have Q1 := fun W => RowQ.of_one W s { data := #[49] }
    have Q2 := fun W => RowQ.of_one W { data := #[97] } s
    cases N <;> cases V
    all_goals
      simp only [if_pos, Bool.false_eq_true, if_false] at KN KV
      go_enter Tryd.func6, Tryd.ntmps6
      go_upto_region 6 with (first
        | (go_at_call 26; refine (W1 _).mono ?_; rintro y w1 ⟨rfl, hb1⟩; clear W1)
        | (go_at_call 20; refine (KN _ _ (Q1 w1)).mono ?_; rintro y w2 ⟨rfl, hb2⟩; clear KN))
      have hbel2 := below_tr hb1 (below_tr ((Below.refl w1.heap.size w1).alloc (Nat.le_refl _) _) hb2)
      go_upto_region 7 with (go_at_call 20; refine (KV _ _ (Q2 w2)).mono ?_; rintro y w3 ⟨rfl, hb3⟩; clear KV)
      have hbel3 := below_tr hbel2 (below_tr ((Below.refl w2.heap.size w2).alloc (Nat.le_refl _) _) hb3)
      go_wp2_with (first
        | (go_at_call 27; refine (RN _).mono ?_; rintro y w4 ⟨rfl, rfl⟩)
        | (go_at_call 28; refine (RV _).mono ?_; rintro y w5 ⟨rfl, rfl⟩))
      go_ret
      exact ⟨rfl, hbel3⟩
  · have h5i : ¬ (s.size : Int) ≤ 500 := by omega
    go_enter Tryd.func6, Tryd.ntmps6
    go_wp2_with (go_at_call 26; refine (W1 _).mono ?_; rintro y w1 ⟨rfl, hb1⟩)
    go_ret
    exact ⟨rfl, hb1⟩
end Go.Proofs.YtlddedddcdhjnaaDoor
