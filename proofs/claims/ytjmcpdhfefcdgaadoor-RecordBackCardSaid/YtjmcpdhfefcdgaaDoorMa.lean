/- Matchers: what is wrong with them. -/
import Derived.Test.YtjmcpdhfefcdgaaDoorLNamesW
import Derived.Test.YtjmcpdhfefcdgaaDoorGen
namespace Go.Proofs.YtjmcpdhfefcdgaaDoor
open Go.RowKit Lb Dig Go.ChangeShapes Go.WideShapes

abbrev Mt := Int × ByteArray × ByteArray
namespace Lb
/-- What is wrong with a matcher. -/
def rightM (m : Mt) : Nat := if m.1 < 1 ∨ 4 < m.1 then 5 else if nameB m.2.1.data.toList = true ∧ (m.2.2.size = 0 ∨ valueB m.2.2.data.toList = true) ∧ ¬ (m.1 = 4 ∧ m.2.2.size ≠ 0) then 0 else 3
def rightsM : List Mt → Nat
  | [] => 0
  | m :: l => if rightM m ≠ 0 then rightM m else rightsM l
def chkM (l : List Mt) : Nat := if 8 < l.length then 8 else rightsM l
theorem rights_drop {l : List Mt} {j : Nat} {m : Mt} (h : l[j]? = some m) : rightsM (l.drop j) = if rightM m ≠ 0 then rightM m else rightsM (l.drop (j + 1)) := by
  have h1 : j < l.length := by
    rcases Nat.lt_or_ge j l.length with h1 | h1
    · exact h1
    · rw [List.getElem?_eq_none h1] at h; cases h
  rw [List.getElem?_eq_getElem h1] at h
  rw [List.drop_eq_getElem_cons h1, Option.some.inj h]
  rfl
theorem chk_one (n v : ByteArray) : chkL [(n, v)] = if nameB n.data.toList = true ∧ valueB v.data.toList = true then 0 else 16 := by
  unfold chkL okL
  simp only [List.length_cons, List.length_nil]
  by_cases h : nameB n.data.toList = true
  · by_cases h2 : valueB v.data.toList = true
    · rw [gtB_nil h, h, h2]; simp [okL]
    · have h3 : valueB v.data.toList = false := by simpa using h2
      rw [h3]; simp
  · have h2 : nameB n.data.toList = false := by simpa using h
    rw [h2]; simp
end Lb
abbrev mtV (m : Mt) : Value := .agg #[.int .i64 m.1, .string m.2.1, .string m.2.2]

/-- The program's variable, and what stands in it. -/
structure MtBox (w : World) (k : Int) (n v : ByteArray) (W1 : World) (p : Nat) : Prop where
  row : RowV W1 p [.int .i64 k, .string n, .string v]
  bel : Below w.heap.size w W1
theorem MtBox.call {w W1 w2 : World} {k : Int} {n v : ByteArray} {p : Nat} (h : MtBox w k n v W1 p) {o : Obj} (hb : Below (W1.alloc o).heap.size (W1.alloc o) w2) : Below w.heap.size w w2 ∧ RowV w2 p [.int .i64 k, .string n, .string v] := by
  have h1 : Below W1.heap.size W1 (W1.alloc o) := (Below.refl _ _).alloc (Nat.le_refl _) _
  have h2 := below_tr h1 hb
  exact ⟨below_tr h.bel h2, h.row.below h2⟩
theorem MtBox.new (w : World) (k : Int) (n v : ByteArray) : MtBox w k n v (w.alloc (.cells #[.int .i64 k, .string n, .string v] 88)) w.heap.size :=
  ⟨RowV.new w [.int .i64 k, .string n, .string v] _, (Below.refl _ _).alloc (Nat.le_refl _) _⟩

set_option maxRecDepth 100000 in
set_option maxHeartbeats 4000000 in
theorem mright_any (k : Int) (n v : ByteArray) (hn : n.size ≤ 4611686018427387904) (hv : v.size ≤ 4611686018427387904) (w : World) :
    Calls Tryd.prog 56 #[.agg #[.int .i64 k, .string n, .string v]] w fun e w' => e = .returned (.int .i64 (rightM (k, n, v) : Nat)) ∧ Below w.heap.size w w' := by
  obtain ⟨E, hE⟩ : ∃ E, Hid (rightM (k, n, v) = E) := ⟨_, Lib.hid rfl⟩
  rw [hE.out]
  have hF : rightM (k, n, v) = if k < 1 ∨ 4 < k then 5 else if nameB n.data.toList = true ∧ (v.size = 0 ∨ valueB v.data.toList = true) ∧ ¬ (k = 4 ∧ v.size ≠ 0) then 0 else 3 := rfl
  rw [hE.out] at hF
  have KN := fun (g : Nat) W h => lcheck_any [(n, v)] (some ⟨g, 0, none⟩) 1 1 rfl (by omega) (fun p hp => by simp at hp; subst hp; exact ⟨hn, hv⟩) W h
  have KD := fun (g : Nat) W h => lcheck_any [(n, { data := #[45] })] (some ⟨g, 0, none⟩) 1 1 rfl (by omega) (fun p hp => by simp at hp; subst hp; exact ⟨hn, show (1 : Nat) ≤ _ by omega⟩) W h
  rw [chk_one] at KN KD
  rw [show valueB ({ data := #[45] } : ByteArray).data.toList = true from by decide] at KD
  obtain ⟨N, hN⟩ : ∃ N, nameB n.data.toList = N := ⟨_, rfl⟩
  obtain ⟨V, hV⟩ : ∃ N, valueB v.data.toList = N := ⟨_, rfl⟩
  rw [hN] at KN KD hF
  rw [hV] at KN hF
  clear hN hV hE
  have hM := MtBox.new w k n v
  go_enter Tryd.func56, Tryd.ntmps56
  go_upto_region 1 with (fail)
  generalize w.alloc (.cells #[.int .i64 k, .string n, .string v] 88) = W1 at hM ⊢
  generalize w.heap.size = p at hM ⊢
  have k0 := (hM.row 0 _ rfl).1
  have k1 := (hM.row 1 _ rfl).1
  have k2 := (hM.row 2 _ rfl).1
  obtain ⟨B4, hB4⟩ : ∃ b, (k == 4) = b := ⟨_, rfl⟩
  have Q1 := RowQ.of_one W1 n v
  have Q2 := RowQ.of_one W1 n { data := #[45] }
  have hbel := hM.bel
  rcases (by omega : k < 1 ∨ (¬ k < 1 ∧ 4 < k) ∨ (¬ k < 1 ∧ ¬ 4 < k)) with h | ⟨h, h4⟩ | ⟨h, h4⟩
  · rw [if_pos (.inl h)] at hF
    subst hF
    clear hB4
    go_wp2
    go_ret
    exact ⟨rfl, hbel⟩
  · rw [if_pos (.inr h4)] at hF
    subst hF
    clear hB4
    go_wp2
    go_ret
    exact ⟨rfl, hbel⟩
  · rw [if_neg (by omega)] at hF
    have hk4 : (k = 4) ↔ B4 = true := by rw [← hB4, beq_iff_eq]
    simp only [hk4] at hF
    clear hk4
    by_cases he : v.size = 0
    · have hvl : v.data.toList = [] := List.length_eq_zero_iff.mp (by rw [← size_toList]; exact he)
      have hem := isEmpty_true hvl
      have hF2 : E = if N = true then 0 else 3 := by rw [hF]; simp [he]
      clear hF he KN hvl Q1
      cases N
      all_goals
        simp at KD hF2
        subst hF2
        cases B4
        all_goals
          go_wp2_with (go_at_call 34; refine (KD _ _ Q2).mono ?_; rintro y w2 ⟨rfl, hb2⟩; obtain ⟨hb3, hx⟩ := hM.call hb2; have x0 := (hx 0 _ rfl).1; have x2 := (hx 2 _ rfl).1)
          go_ret
          exact ⟨rfl, hb3⟩
    · have hem := isEmpty_false (s := v) (by omega)
      have hF2 : E = if N = true ∧ V = true ∧ B4 = false then 0 else 3 := by rw [hF]; simp [he]
      clear hF he KD Q2
      cases N <;> cases V <;> cases B4
      all_goals
        simp at KN hF2
        subst hF2
        go_wp2_with (go_at_call 34; refine (KN _ _ Q1).mono ?_; rintro y w2 ⟨rfl, hb2⟩; obtain ⟨hb3, hx⟩ := hM.call hb2; have x0 := (hx 0 _ rfl).1; have x2 := (hx 2 _ rfl).1)
        go_ret
        exact ⟨rfl, hb3⟩

set_option maxRecDepth 100000 in
set_option maxHeartbeats 4000000 in
theorem rmright_any (k : Int) (n v : ByteArray) (hn : n.size ≤ 4611686018427387904) (hv : v.size ≤ 4611686018427387904) (w : World) :
    Calls Tryd.prog 59 #[.agg #[.int .i64 k, .string n, .string v]] w fun e w' => e = .returned (.int .i64 (rightM (k, n, v) : Nat)) ∧ Below w.heap.size w w' := by
  obtain ⟨E, hE⟩ : ∃ E, Hid (rightM (k, n, v) = E) := ⟨_, Lib.hid rfl⟩
  rw [hE.out]
  have RN := fun W => rname_any n hn W
  have RV := fun W => rvalue_any v hv W
  have hF : rightM (k, n, v) = if k < 1 ∨ 4 < k then 5 else if nameB n.data.toList = true ∧ (v.size = 0 ∨ valueB v.data.toList = true) ∧ ¬ (k = 4 ∧ v.size ≠ 0) then 0 else 3 := rfl
  rw [hE.out] at hF
  obtain ⟨N, hN⟩ : ∃ N, nameB n.data.toList = N := ⟨_, rfl⟩
  obtain ⟨V, hV⟩ : ∃ N, valueB v.data.toList = N := ⟨_, rfl⟩
  rw [hN] at RN hF
  rw [hV] at RV hF
  clear hN hV hE
  have hM := MtBox.new w k n v
  go_enter Tryd.func59, Tryd.ntmps59
  go_upto_region 1 with (fail)
  generalize w.alloc (.cells #[.int .i64 k, .string n, .string v] 88) = W1 at hM ⊢
  generalize w.heap.size = p at hM ⊢
  have k0 := (hM.row 0 _ rfl).1
  have k1 := (hM.row 1 _ rfl).1
  have k2 := (hM.row 2 _ rfl).1
  obtain ⟨B4, hB4⟩ : ∃ b, (k == 4) = b := ⟨_, rfl⟩
  have hbel := hM.bel
  rcases (by omega : k < 1 ∨ (¬ k < 1 ∧ 4 < k) ∨ (¬ k < 1 ∧ ¬ 4 < k)) with h | ⟨h, h4⟩ | ⟨h, h4⟩
  · rw [if_pos (.inl h)] at hF
    subst hF
    clear hB4
    go_wp2
    go_ret
    exact ⟨rfl, hbel⟩
  · rw [if_pos (.inr h4)] at hF
    subst hF
    clear hB4
    go_wp2
    go_ret
    exact ⟨rfl, hbel⟩
  · rw [if_neg (by omega)] at hF
    have hk4 : (k = 4) ↔ B4 = true := by rw [← hB4, beq_iff_eq]
    simp only [hk4] at hF
    clear hk4
    by_cases he : v.size = 0
    · have hvl : v.data.toList = [] := List.length_eq_zero_iff.mp (by rw [← size_toList]; exact he)
      have hem := isEmpty_true hvl
      have hF2 : E = if N = true then 0 else 3 := by rw [hF]; simp [he]
      clear hF he hvl
      cases N <;> cases B4
      all_goals
        simp at hF2
        subst hF2
        go_wp2_with (first
          | (go_at_call 57; refine (RN _).mono ?_; rintro y w4 ⟨rfl, rfl⟩)
          | (go_at_call 58; refine (RV _).mono ?_; rintro y w4 ⟨rfl, rfl⟩))
        go_ret
        exact ⟨rfl, hbel⟩
    · have hem := isEmpty_false (s := v) (by omega)
      have hF2 : E = if N = true ∧ V = true ∧ B4 = false then 0 else 3 := by rw [hF]; simp [he]
      clear hF he
      cases N <;> cases V <;> cases B4
      all_goals
        simp at hF2
        subst hF2
        go_wp2_with (first
          | (go_at_call 57; refine (RN _).mono ?_; rintro y w4 ⟨rfl, rfl⟩)
          | (go_at_call 58; refine (RV _).mono ?_; rintro y w4 ⟨rfl, rfl⟩))
        go_ret
        exact ⟨rfl, hbel⟩
end Go.Proofs.YtjmcpdhfefcdgaaDoor
