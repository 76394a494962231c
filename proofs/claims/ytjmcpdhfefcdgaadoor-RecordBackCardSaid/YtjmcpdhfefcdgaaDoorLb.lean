/- Names and values: what the program and the document tell of a text. -/
import Derived.Test.YtjmcpdhfefcdgaaDoorLShelf
import Derived.Test.YtjmcpdhfefcdgaaDoorMem
import Derived.Test.YtjmcpdhfefcdgaaDoorDigN
import Derived.Lib.OthersKept
namespace Go.Proofs.YtjmcpdhfefcdgaaDoor
open Go.RowKit

namespace Lb
def nameC (b : UInt8) : Bool := decide (97 ≤ b.toNat) && decide (b.toNat ≤ 122) || decide (b.toNat = 95)
def valC (b : UInt8) : Bool := decide (32 ≤ b.toNat) && decide (b.toNat ≤ 126)
def nameB (l : List UInt8) : Bool := decide (1 ≤ l.length) && decide (l.length ≤ 32) && l.all nameC
def valueB (l : List UInt8) : Bool := decide (1 ≤ l.length) && decide (l.length ≤ 64) && l.all valC
def signs : List UInt8 := [97, 98, 99, 100, 101, 102, 103, 104, 105, 106, 107, 108, 109, 110, 111, 112, 113, 114, 115, 116, 117, 118, 119, 120, 121, 122, 95]
theorem signs_at : ∀ n : Fin 256, signs.contains (UInt8.ofNat n.val) = nameC (UInt8.ofNat n.val) := by decide +kernel
theorem signs_nameC (b : UInt8) : signs.contains b = nameC b := by
  have := signs_at ⟨b.toNat, b.toNat_lt⟩
  simpa using this
theorem dropWhile_nil {p : UInt8 → Bool} {l : List UInt8} : l.dropWhile p = [] ↔ l.all p = true := by
  induction l with
  | nil => simp
  | cons a l ih => by_cases h : p a = true <;> simp [h, ih]
theorem trimS_nil (l : List UInt8) : (Lib.trimS l signs = []) ↔ l.all nameC = true := by
  have hp : (fun b => signs.contains b) = nameC := funext signs_nameC
  unfold Lib.trimS Lib.trimLeftS Lib.trimRightS
  rw [hp, dropWhile_nil]
  constructor
  · intro h
    rw [List.all_reverse] at h
    have h2 : ((l.reverse).dropWhile nameC) = [] := by
      cases h3 : l.reverse.dropWhile nameC with
      | nil => rfl
      | cons a r =>
        exfalso
        have hh := List.head?_dropWhile_not nameC l.reverse
        rw [h3] at h hh
        simp at h hh
        rw [h.1] at hh; cases hh
    rw [dropWhile_nil, List.all_reverse] at h2
    exact h2
  · intro h
    have h2 : ((l.reverse).dropWhile nameC) = [] := by rw [dropWhile_nil, List.all_reverse]; exact h
    rw [h2]; rfl
end Lb
open Lb

set_option maxRecDepth 100000 in
set_option maxHeartbeats 2000000 in
theorem lname_any (s : ByteArray) (hs : s.size ≤ 4611686018427387904) (w : World) :
    Calls Tryd.prog 54 #[.string s] w fun e w' => e = .returned (.bool (nameB s.data.toList)) ∧ Below w.heap.size w w' := by
  obtain ⟨T, hT⟩ : ∃ T, Hid (Lib.trimS s.data.toList signs = T) := ⟨_, Lib.hid rfl⟩
  have TR : ∀ W, Calls Tryd.prog 69 #[.string s, .string { data := #[97, 98, 99, 100, 101, 102, 103, 104, 105, 106, 107, 108, 109, 110, 111, 112, 113, 114, 115, 116, 117, 118, 119, 120, 121, 122, 95] }] W fun e w' => e = .returned (.string (mkS T)) ∧ Below W.heap.size W w' := fun W => by
    rw [← hT.out]
    exact Any.strings_Trim_laid Tryd.lays160 (by kernel_rfl) s ⟨#[97, 98, 99, 100, 101, 102, 103, 104, 105, 106, 107, 108, 109, 110, 111, 112, 113, 114, 115, 116, 117, 118, 119, 120, 121, 122, 95]⟩ W (by omega) (by decide) (ascii_of_all (by decide))
  have hsz := Lib.hid (size_toList s)
  by_cases h0 : s.size = 0
  · have hl : s.data.toList = [] := List.length_eq_zero_iff.mp (by rw [← hsz.out]; exact h0)
    have he := isEmpty_true hl
    have hr : nameB s.data.toList = false := by rw [hl]; rfl
    rw [hr]
    clear hl
    go_enter Tryd.func54, Tryd.ntmps54
    go_wp2
    go_ret
    exact ⟨rfl, Below.refl _ _⟩
  · have he := isEmpty_false (s := s) (by omega)
    by_cases h32 : s.size ≤ 32
    · have h32i : (s.size : Int) ≤ 32 := by omega
      have hq : (mkS T).toList.isEmpty = nameB s.data.toList := by
        rw [ByteArray.toList_eq, mkS_data]
        have h1 := trimS_nil s.data.toList
        rw [hT.out] at h1
        unfold nameB
        rw [← hsz.out, decide_eq_true (by omega), decide_eq_true h32, Bool.true_and, Bool.true_and, Bool.eq_iff_iff, List.isEmpty_iff]
        exact h1
      go_enter Tryd.func54, Tryd.ntmps54
      go_wp2_with (go_at_call 69; refine (TR _).mono ?_; rintro y w1 ⟨rfl, hb1⟩)
      go_ret
      exact ⟨rfl, hb1⟩
    · have h32i : ¬ (s.size : Int) ≤ 32 := by omega
      have hr : nameB s.data.toList = false := by unfold nameB; rw [← hsz.out, decide_eq_false h32]; simp
      rw [hr]
      go_enter Tryd.func54, Tryd.ntmps54
      go_wp2
      go_ret
      exact ⟨rfl, Below.refl _ _⟩

set_option maxRecDepth 100000 in
set_option maxHeartbeats 2000000 in
theorem lvalue_any (s : ByteArray) (hs : s.size ≤ 4611686018427387904) (w : World) :
    Calls Tryd.prog 55 #[.string s] w fun e w' => e = .returned (.bool (valueB s.data.toList)) ∧ Below w.heap.size w w' := by
  have hsz := Lib.hid (size_toList s)
  obtain ⟨V, hV⟩ : ∃ V, Hid (valueB s.data.toList = V) := ⟨_, Lib.hid rfl⟩
  rw [hV.out]
  go_enter Tryd.func55, Tryd.ntmps55
  go_wp2
  go_loopw [] (fun wr => ∃ pos : Nat, pos ≤ s.size ∧ wr.heap[w.heap.size]? = some (.stringIter s pos) ∧ Hid ((s.data.toList.take pos).all valC = true) ∧ Below w.heap.size w wr) (fun wr => s.size - wr.iterPos w.heap.size)
  case atStart =>
    exact ⟨0, by omega, by simpa using World.iter_heap w s 0, Lib.hid rfl, (Below.refl _ _).alloc (Nat.le_refl _) _⟩
  case round =>
    obtain ⟨pos, hpl, hit, hall, hbw⟩ := hrel
    by_cases hp : pos < s.size
    · have hsi : s.data.toList[pos]? = some s[pos] := by
        rw [List.getElem?_eq_getElem (by rw [← hsz.out]; exact hp)]; rfl
      have hno : ∀ p : UInt8 → Bool, ¬ p (s[pos]'hp) = true → s.data.toList.all p = false := fun p h => by
        rw [Bool.eq_false_iff]
        intro hh
        exact h (List.all_eq_true.mp hh _ (List.mem_of_getElem? hsi))
      by_cases ha : (s[pos]'hp).toNat < 128
      · have hnx : ∀ ty, (Instr.next (.pointer (some ⟨w.heap.size, 0, none⟩)) true ty).run Tryd.prog wr = _ := fun ty => Lib.run_next_ascii_at wr w.heap.size s pos ty hit hp ha
        have hit2 := Lib.iterAt_heap wr w.heap.size s pos (pos + 1) hit
        have hbw2 := Lib.below_iterAt hbw (k := w.heap.size) (by omega) s (pos + 1)
        by_cases hv : 32 ≤ (s[pos]'hp).toNat ∧ (s[pos]'hp).toNat ≤ 126
        · have h1 : ¬ ((s[pos]'hp).toNat : Int) < 32 := by omega
          have h2 : ((s[pos]'hp).toNat : Int) ≤ 126 := by omega
          have hall2 : Hid ((s.data.toList.take (pos + 1)).all valC = true) := Lib.hid (by
            rw [List.take_add_one, hsi, List.all_append, hall.out]
            simp [valC, hv.1, hv.2])
          clear hv hsi
          go_wp2
          go_roundw
          case rel => exact ⟨pos + 1, by omega, hit2, hall2, hbw2⟩
          case measure =>
            simp only [World.iterPos, hit2, hit]
            omega
        · have hbad := hno valC (fun h => by simp [valC] at h; exact hv h)
          have hr : valueB s.data.toList = false := by unfold valueB; rw [hbad]; simp
          rcases (by omega : (s[pos]'hp).toNat < 32 ∨ (¬ (s[pos]'hp).toNat < 32 ∧ 126 < (s[pos]'hp).toNat)) with h | ⟨h, h3⟩
          · have h1 : ((s[pos]'hp).toNat : Int) < 32 := by omega
            go_wp2
            go_ret
            exact ⟨ret_bool (by rw [← hV.out, hr]), hbw2⟩
          · have h1 : ¬ ((s[pos]'hp).toNat : Int) < 32 := by omega
            have h2 : ¬ ((s[pos]'hp).toNat : Int) ≤ 126 := by omega
            go_wp2
            go_ret
            exact ⟨ret_bool (by rw [← hV.out, hr]), hbw2⟩
      · have hnx : ∀ ty, (Instr.next (.pointer (some ⟨w.heap.size, 0, none⟩)) true ty).run Tryd.prog wr = _ := fun ty => Lib.run_next_any_at wr w.heap.size s pos ty hit hp
        have hhi := (decode_high s pos hp (by omega)).1
        obtain ⟨R, hR⟩ : ∃ R, (Utf8.decode s pos).1 = R := ⟨_, rfl⟩
        obtain ⟨D, hD⟩ : ∃ D, (Utf8.decode s pos).2 = D := ⟨_, rfl⟩
        rw [hR] at hhi
        rw [hR, hD] at hnx
        have hbw2 := Lib.below_iterAt hbw (k := w.heap.size) (by omega) s (pos + D)
        have hbad := hno valC (fun h => by simp [valC] at h; omega)
        have hr : valueB s.data.toList = false := by unfold valueB; rw [hbad]; simp
        have h1 : ¬ (R : Int) < 32 := by omega
        have h2 : ¬ (R : Int) ≤ 126 := by omega
        clear hR hD
        go_wp2
        go_ret
        exact ⟨ret_bool (by rw [← hV.out, hr]), hbw2⟩
    · have hnx : ∀ ty, (Instr.next (.pointer (some ⟨w.heap.size, 0, none⟩)) true ty).run Tryd.prog wr = _ := fun ty => Lib.run_next_end_at wr w.heap.size s pos ty hit hp
      have ht : s.data.toList.take pos = s.data.toList := List.take_of_length_le (by rw [← hsz.out]; omega)
      have hal := hall.out
      rw [ht] at hal
      by_cases h0 : s.size = 0
      · have hl : s.data.toList = [] := List.length_eq_zero_iff.mp (by rw [← hsz.out]; exact h0)
        have he := isEmpty_true hl
        have hr : valueB s.data.toList = false := by rw [hl]; rfl
        clear hl
        go_wp2
        go_ret
        exact ⟨ret_bool (by rw [← hV.out, hr]), hbw⟩
      · have he := isEmpty_false (s := s) (by omega)
        have hr : valueB s.data.toList = decide ((s.size : Int) ≤ 64) := by
          unfold valueB
          rw [hal, ← hsz.out, decide_eq_true (by omega), Bool.true_and, Bool.and_true, Bool.eq_iff_iff]
          simp; omega
        go_wp2
        go_ret
        exact ⟨ret_bool (by rw [← hV.out, hr]), hbw⟩

set_option maxRecDepth 100000 in
set_option maxHeartbeats 2000000 in
theorem rname_any (s : ByteArray) (hs : s.size ≤ 4611686018427387904) (w : World) :
    Calls Tryd.prog 57 #[.string s] w fun e w' => e = .returned (.bool (nameB s.data.toList)) ∧ w' = w := by
  have hsz := Lib.hid (size_toList s)
  obtain ⟨V, hV⟩ : ∃ V, Hid (nameB s.data.toList = V) := ⟨_, Lib.hid rfl⟩
  rw [hV.out]
  go_enter Tryd.func57, Tryd.ntmps57
  go_wp2
  go_loop [3] (fun v3 => ∃ pos : Nat, pos ≤ s.size ∧ v3 = .int .i64 pos ∧ Hid ((s.data.toList.take pos).all nameC = true)) (fun v3 => s.size - (intOf v3).toNat)
  case atStart => exact ⟨0, by omega, rfl, Lib.hid rfl⟩
  case round =>
    obtain ⟨pos, hpl, rfl, hall⟩ := hrel
    by_cases hp : pos < s.size
    · have hpi : (pos : Int) < (s.size : Int) := by omega
      have hsi : s.data.toList[pos]? = some s[pos] := by
        rw [List.getElem?_eq_getElem (by rw [← hsz.out]; exact hp)]; rfl
      have hno : ∀ p : UInt8 → Bool, ¬ p (s[pos]'hp) = true → s.data.toList.all p = false := fun p h => by
        rw [Bool.eq_false_iff]
        intro hh
        exact h (List.all_eq_true.mp hh _ (List.mem_of_getElem? hsi))
      have hall2 : nameC (s[pos]'hp) = true → Hid ((s.data.toList.take (pos + 1)).all nameC = true) := fun h => Lib.hid (by
        rw [List.take_add_one, hsi, List.all_append, hall.out]
        simp [h])
      have hbad : nameC (s[pos]'hp) = false → V = false := fun h => by
        rw [← hV.out]; unfold nameB; rw [hno nameC (by rw [h]; decide)]; simp
      have Hall := Lib.hid hall2
      have Hbad := Lib.hid hbad
      clear hall2 hbad hno hsi
      obtain ⟨b, hb⟩ : ∃ b : UInt8, s[pos]'hp = b := ⟨_, rfl⟩
      rw [hb] at Hall Hbad
      have hbt := b.toNat_lt
      rcases (by omega : (b.toNat < 97 ∧ ¬ b.toNat = 95) ∨ (b.toNat = 95) ∨ (¬ b.toNat < 97 ∧ b.toNat ≤ 122) ∨ (¬ b.toNat < 97 ∧ 122 < b.toNat)) with ⟨h1, h2⟩ | h1 | ⟨h1, h2⟩ | ⟨h1, h2⟩
      · have i1 : (b.toNat : Int) < 97 := by omega
        have i2 : ¬ (b.toNat : Int) = 95 := by omega
        go_wp2
        go_ret
        exact ⟨ret_bool (Hbad.out (by simp [nameC]; omega)).symm, rfl⟩
      · have i1 : (b.toNat : Int) < 97 := by omega
        have i2 : (b.toNat : Int) = 95 := by omega
        go_wp2
        go_round
        case rel => exact ⟨pos + 1, by omega, by go_num, Hall.out (by simp [nameC]; omega)⟩
        case measure => simp [intOf]; omega
      · have i1 : ¬ (b.toNat : Int) < 97 := by omega
        have i2 : (b.toNat : Int) ≤ 122 := by omega
        go_wp2
        go_round
        case rel => exact ⟨pos + 1, by omega, by go_num, Hall.out (by simp [nameC]; omega)⟩
        case measure => simp [intOf]; omega
      · have i1 : ¬ (b.toNat : Int) < 97 := by omega
        have i2 : ¬ (b.toNat : Int) ≤ 122 := by omega
        have i3 : ¬ (b.toNat : Int) = 95 := by omega
        go_wp2
        go_ret
        exact ⟨ret_bool (Hbad.out (by simp [nameC]; omega)).symm, rfl⟩
    · have hpi : ¬ (pos : Int) < (s.size : Int) := by omega
      have ht : s.data.toList.take pos = s.data.toList := List.take_of_length_le (by rw [← hsz.out]; omega)
      have hal := hall.out
      rw [ht] at hal
      by_cases h0 : s.size = 0
      · have h0i : (s.size : Int) = 0 := by omega
        have hr : V = false := by rw [← hV.out]; unfold nameB; rw [← hsz.out, h0]; rfl
        subst hr
        go_wp2
        go_ret
        exact ⟨rfl, rfl⟩
      · have h0i : (1 : Int) ≤ (s.size : Int) := by omega
        have hr : V = decide ((s.size : Int) ≤ 32) := by
          rw [← hV.out]
          unfold nameB
          rw [hal, ← hsz.out, decide_eq_true (by omega), Bool.true_and, Bool.and_true, Bool.eq_iff_iff]
          simp; omega
        subst hr
        go_wp2
        go_ret
        exact ⟨rfl, rfl⟩

set_option maxRecDepth 100000 in
set_option maxHeartbeats 2000000 in
theorem rvalue_any (s : ByteArray) (hs : s.size ≤ 4611686018427387904) (w : World) :
    Calls Tryd.prog 58 #[.string s] w fun e w' => e = .returned (.bool (valueB s.data.toList)) ∧ w' = w := by
  have hsz := Lib.hid (size_toList s)
  obtain ⟨V, hV⟩ : ∃ V, Hid (valueB s.data.toList = V) := ⟨_, Lib.hid rfl⟩
  rw [hV.out]
  go_enter Tryd.func58, Tryd.ntmps58
  go_wp2
  go_loop [3] (fun v3 => ∃ pos : Nat, pos ≤ s.size ∧ v3 = .int .i64 pos ∧ Hid ((s.data.toList.take pos).all valC = true)) (fun v3 => s.size - (intOf v3).toNat)
  case atStart => exact ⟨0, by omega, rfl, Lib.hid rfl⟩
  case round =>
    obtain ⟨pos, hpl, rfl, hall⟩ := hrel
    by_cases hp : pos < s.size
    · have hpi : (pos : Int) < (s.size : Int) := by omega
      have hsi : s.data.toList[pos]? = some s[pos] := by
        rw [List.getElem?_eq_getElem (by rw [← hsz.out]; exact hp)]; rfl
      have hno : ∀ p : UInt8 → Bool, ¬ p (s[pos]'hp) = true → s.data.toList.all p = false := fun p h => by
        rw [Bool.eq_false_iff]
        intro hh
        exact h (List.all_eq_true.mp hh _ (List.mem_of_getElem? hsi))
      have hall2 : valC (s[pos]'hp) = true → Hid ((s.data.toList.take (pos + 1)).all valC = true) := fun h => Lib.hid (by
        rw [List.take_add_one, hsi, List.all_append, hall.out]
        simp [h])
      have hbad : valC (s[pos]'hp) = false → V = false := fun h => by
        rw [← hV.out]; unfold valueB; rw [hno valC (by rw [h]; decide)]; simp
      have Hall := Lib.hid hall2
      have Hbad := Lib.hid hbad
      clear hall2 hbad hno hsi
      obtain ⟨b, hb⟩ : ∃ b : UInt8, s[pos]'hp = b := ⟨_, rfl⟩
      rw [hb] at Hall Hbad
      have hbt := b.toNat_lt
      rcases (by omega : b.toNat < 32 ∨ (¬ b.toNat < 32 ∧ b.toNat ≤ 126) ∨ (¬ b.toNat < 32 ∧ 126 < b.toNat)) with h1 | ⟨h1, h2⟩ | ⟨h1, h2⟩
      · have i1 : (b.toNat : Int) < 32 := by omega
        go_wp2
        go_ret
        exact ⟨ret_bool (Hbad.out (by simp [valC]; omega)).symm, rfl⟩
      · have i1 : ¬ (b.toNat : Int) < 32 := by omega
        have i2 : (b.toNat : Int) ≤ 126 := by omega
        go_wp2
        go_round
        case rel => exact ⟨pos + 1, by omega, by go_num, Hall.out (by simp [valC]; omega)⟩
        case measure => simp [intOf]; omega
      · have i1 : ¬ (b.toNat : Int) < 32 := by omega
        have i2 : ¬ (b.toNat : Int) ≤ 126 := by omega
        go_wp2
        go_ret
        exact ⟨ret_bool (Hbad.out (by simp [valC]; omega)).symm, rfl⟩
    · have hpi : ¬ (pos : Int) < (s.size : Int) := by omega
      have ht : s.data.toList.take pos = s.data.toList := List.take_of_length_le (by rw [← hsz.out]; omega)
      have hal := hall.out
      rw [ht] at hal
      by_cases h0 : s.size = 0
      · have h0i : (s.size : Int) = 0 := by omega
        have hr : V = false := by rw [← hV.out]; unfold valueB; rw [← hsz.out, h0]; rfl
        subst hr
        go_wp2
        go_ret
        exact ⟨rfl, rfl⟩
      · have h0i : (1 : Int) ≤ (s.size : Int) := by omega
        have hr : V = decide ((s.size : Int) ≤ 64) := by
          rw [← hV.out]
          unfold valueB
          rw [hal, ← hsz.out, decide_eq_true (by omega), Bool.true_and, Bool.and_true, Bool.eq_iff_iff]
          simp; omega
        subst hr
        go_wp2
        go_ret
        exact ⟨rfl, rfl⟩
end Go.Proofs.YtjmcpdhfefcdgaaDoor
