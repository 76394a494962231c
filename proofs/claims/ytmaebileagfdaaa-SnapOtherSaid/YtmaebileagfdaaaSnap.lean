/- Great texts in pieces: what the program and the document cut. -/
import Derived.Test.YtmaebileagfdaaaFrame
import Derived.Test.YtmaebileagfdaaaCopy
import Derived.BigRegion
import Derived.Deep.AppendLies
namespace Go.Proofs.Ytmaebileagfdaaa
open Go.RowKit Crc

namespace Snp
def piece (s : List UInt8) (i : Nat) : Nat × List UInt8 := (256 * i, (s.drop (256 * i)).take 256)
def some_ (s : List UInt8) (k : Nat) : List (Nat × List UInt8) := (List.range k).map (piece s)
def pieces (s : List UInt8) : List (Nat × List UInt8) := some_ s ((s.length + 255) / 256)
theorem some_succ (s : List UInt8) (k : Nat) : some_ s (k + 1) = some_ s k ++ [piece s k] := by simp [some_, List.range_succ]
theorem some_len (s : List UInt8) (k : Nat) : (some_ s k).length = k := by simp [some_]
end Snp
open Snp

def encQ (l : List (Nat × List UInt8)) : List Value := (l.map fun x => [Value.int .i64 (x.1 : Nat), .string (mkS x.2)]).flatten
theorem encQ_snoc (l : List (Nat × List UInt8)) (x : Nat × List UInt8) : encQ (l ++ [x]) = encQ l ++ [.int .i64 (x.1 : Nat), .string (mkS x.2)] := by simp [encQ]
theorem encQ_len (l : List (Nat × List UInt8)) : (encQ l).length = l.length * 2 := by
  induction l with
  | nil => rfl
  | cons a l ih => simp only [encQ, List.map_cons, List.flatten_cons, List.length_append, List.length_cons, List.length_nil] at ih ⊢; omega
theorem encQ_get (l : List (Nat × List UInt8)) : ∀ (j : Nat) (x : Nat × List UInt8), l[j]? = some x → (encQ l)[j * 2]? = some (.int .i64 (x.1 : Nat)) ∧ (encQ l)[j * 2 + 1]? = some (.string (mkS x.2)) := by
  induction l with
  | nil => intro j x h; simp at h
  | cons a l ih =>
    intro j x h
    cases j with
    | zero => simp at h; subst h; simp [encQ]
    | succ j =>
      have := ih j x (by simpa using h)
      have e1 : (j + 1) * 2 = j * 2 + 2 := by omega
      have e2 : encQ (a :: l) = .int .i64 (a.1 : Nat) :: .string (mkS a.2) :: encQ l := by simp [encQ]
      rw [e1, e2]
      simpa using this

theorem infoQ {t : TypeId} {z : Value} {n b : Nat} (h : (Try.prog.info? t).map (fun i => (i.zero, i.size, i.bytes)) = some (some z, n, b)) : ∃ i, Try.prog.info? t = some i ∧ i.zero = some z ∧ i.size = n ∧ i.bytes = b := by
  cases hi : Try.prog.info? t with
  | none => rw [hi] at h; simp at h
  | some i => rw [hi] at h; simp at h; exact ⟨i, rfl, h.1, h.2.1, h.2.2⟩

set_option maxRecDepth 100000 in
set_option maxHeartbeats 2000000 in
theorem cut_any (s : ByteArray) (hs : s.size ≤ 1000000000) (w : World) :
    Calls Try.prog 17 #[.string s] w fun e w' => ∃ v, e = .returned v ∧ w'.ownsRow 0 33 2 v (pieces s.data.toList).length (encQ (pieces s.data.toList)) ∧ (∀ g, v.ownBlock = some g → w.heap.size ≤ g) ∧ Below w.heap.size w w' := by
  obtain ⟨i0, hi, hz0, hz1, hz2⟩ := infoQ (t := 33) (z := .agg #[.int .i64 0, .string { data := #[] }]) (n := 2) (b := 24) (by kernel_rfl)
  obtain ⟨S, hS⟩ : ∃ S, Hid (S = s.data.toList) := ⟨_, Lib.hid rfl⟩
  rw [← hS.out]
  have hSl : Hid (S.length = s.size) := Lib.hid (by rw [hS.out, ← size_toList])
  go_enter Try.func17, Try.ntmps17
  go_wp2
  go_loopw [3, 4] (fun v i wr => ∃ (k : Nat), 256 * k ≤ s.size + 255 ∧ i = .int .i64 ((256 * k : Nat) : Int) ∧ wr.ownsRow 0 33 2 v k (encQ (some_ S k)) ∧ Hid (∀ g, v.ownBlock = some g → w.heap.size ≤ g) ∧ Below w.heap.size w wr) (fun _ i _ => s.size + 256 - (intOf i).toNat)
  case atStart => exact ⟨0, by omega, rfl, World.ownsRow_nil _ _ _ _, Lib.hid (fun g hg => by simp [Value.ownBlock] at hg), Below.refl _ _⟩
  case round =>
    obtain ⟨k, hk, rfl, hown, hv, hbel⟩ := hrel
    obtain ⟨A, hA⟩ : ∃ A, Hid (A = 256 * k) := ⟨_, Lib.hid rfl⟩
    rw [← hA.out] at hk ⊢
    by_cases hlt : A < s.size
    · have hlti : (A : Int) < (s.size : Int) := by omega
      have hA0 : (0 : Int) ≤ (A : Int) := by omega
      obtain ⟨M, hM⟩ : ∃ M, Hid (M = min (A + 256) s.size) := ⟨_, Lib.hid rfl⟩
      have hMi : min ((A : Int) + 256) (s.size : Int) = (M : Int) := by rw [hM.out]; omega
      have hMi2 : min (s.size : Int) ((A : Int) + 256) = (M : Int) := by rw [hM.out]; omega
      have hAM : (A : Int) ≤ (M : Int) := by have := hM.out; omega
      have hMs : (M : Int) ≤ (s.size : Int) := by have := hM.out; omega
      have hex : s.extract A M = mkS (piece S k).2 := by
        have := extract_mkS s A (M - A)
        rw [show A + (M - A) = M from by omega] at this
        rw [this, ← hS.out, piece, ← hA.out]
        simp only
        congr 1
        apply List.ext_getElem?
        intro i
        rw [List.getElem?_take, List.getElem?_take]
        have h1 := hSl.out
        have h2 := hM.out
        by_cases h3 : i < M - A
        · rw [if_pos h3, if_pos (by omega)]
        · rw [if_neg h3]
          split
          · rw [List.getElem?_eq_none]
            rw [List.length_drop]; omega
          · rfl
      have hp1 : (piece S k).1 = A := by rw [piece, hA.out]
      obtain ⟨T, hT⟩ : ∃ T, Hid (T = (piece S k).2) := ⟨_, Lib.hid rfl⟩
      rw [← hT.out] at hex
      have Hp1 := Lib.hid hp1
      clear hp1
      have hAs : (A : Int) ≤ (s.size : Int) := by omega
      have hA256 : (A : Int) ≤ (A : Int) + 256 := by omega
      have hn256 : ((A : Int) + 256).toNat = A + 256 := by omega
      have hkb : k ≤ 4000000 := by have := hA.out; omega
      have hnews : ∀ W : World, ∀ (i : Nat) (u : Value), ([Value.int .i64 (A : Nat), .string (mkS T)] : List Value)[i]? = some u → (W.alloc (.cells #[.int .i64 (A : Nat), .string (mkS T)] 33)).cell? (Addr.add ⟨W.heap.size, 0, none⟩ i) = some u := by
        intro W i u hu
        match i, hu with
        | 0, hu => simp at hu; subst hu; simp [Addr.add]
        | 1, hu => simp at hu; subst hu; simp [Addr.add]
        | i + 2, hu => simp at hu
      have hone : ∀ u ∈ ([Value.int .i64 (A : Nat), .string (mkS T)] : List Value), u.oneCell' = true := by
        intro u hu; simp at hu; rcases hu with rfl | rfl <;> rfl
      have Hnews := Lib.hid hnews
      have Hone := Lib.hid hone
      have H63 : Hid (k + 1 ≤ maxLen) := Lib.hid (by unfold maxLen; omega)
      have Hby : Hid ((k + 1) * 24 ≤ 140737488355328) := Lib.hid (by omega)
      clear hnews hone
      rcases (by omega : (s.size : Int) < (A : Int) + 256 ∨ ¬ (s.size : Int) < (A : Int) + 256) with hmm | hmm
      all_goals
        first
          | rw [show M = s.size from by rw [hM.out]; omega] at hex
          | (rw [show M = A + 256 from by rw [hM.out]; omega] at hex; have hle256 : (A : Int) + 256 ≤ (s.size : Int) := by omega)
        go_wp2_with (at_builtin; refine wpList_append_fp rfl _ _ 28 rfl 0 33 i0 (.agg #[.int .i64 0, .string { data := #[] }]) 2 24 Try.underlying28 hi hz0 hz1 hz2 rfl (by decide) u3 k (encQ (some_ S k)) rfl (hown.alloc _) ⟨_, 0, none⟩ 1 1 [.int .i64 (A : Nat), .string (mkS T)] rfl rfl (Hnews.out wr) Hone.out H63.out Hby.out (Nat.zero_le _) ?_; intro v2 w2 ho hgr _ hbk)
        have hbw : Below wr.heap.size wr (wr.alloc (.cells #[.int .i64 (A : Nat), .string (mkS T)] 33)) := (Below.refl _ _).alloc (Nat.le_refl _) _
        have hbel2 : Below w.heap.size w (wr.alloc (.cells #[.int .i64 (A : Nat), .string (mkS T)] 33)) := below_tr hbel hbw
        have hbel3 : Below w.heap.size w w2 := (Chg.grown hgr).below_tr hbel2 (fun g hg e => by have := hv.out g e.symm; omega)
        have hs1 := hbel.size
        have hv2 : ∀ g, v2.ownBlock = some g → w.heap.size ≤ g := fun g hg => by
          rcases hbk with h | h
          · exact hv.out g (by rw [← h]; exact hg)
          · rw [h] at hg; have := Option.some.inj hg; first | omega | (simp at this; omega)
        have Hv2 := Lib.hid hv2
        clear hv2 hbk hgr hbel2 hbw
        go_wp2
        go_roundw
        case rel =>
          have e9 : (256 * (k + 1) : Nat) = A + 256 := by rw [hA.out]; omega
          refine ⟨k + 1, by omega, by rw [e9]; go_num, ?_, Hv2, hbel3⟩
          rw [some_succ, encQ_snoc, Hp1.out, ← hT.out]; exact ho
        case measure => simp [intOf]; omega
    · have hlti : ¬ (A : Int) < (s.size : Int) := by omega
      have hkk : k = (S.length + 255) / 256 := by have := hA.out; have := hSl.out; omega
      have hpc := Lib.hid (show pieces S = some_ S k by rw [hkk]; rfl)
      have hpl := Lib.hid (some_len S k)
      clear hkk
      go_wp2
      go_ret
      exact ⟨_, rfl, by rw [hpc.out, hpl.out]; exact hown, hv.out, hbel⟩

set_option maxRecDepth 100000 in
set_option maxHeartbeats 2000000 in
theorem rcut_any (s : ByteArray) (hs : s.size ≤ 1000000000) (w : World) :
    Calls Try.prog 18 #[.string s] w fun e w' => ∃ v, e = .returned v ∧ w'.ownsRow 0 34 2 v (pieces s.data.toList).length (encQ (pieces s.data.toList)) ∧ (∀ g, v.ownBlock = some g → w.heap.size ≤ g) ∧ Below w.heap.size w w' := by
  obtain ⟨i0, hi, hz0, hz1, hz2⟩ := infoQ (t := 34) (z := .agg #[.int .i64 0, .string { data := #[] }]) (n := 2) (b := 24) (by kernel_rfl)
  obtain ⟨S, hS⟩ : ∃ S, Hid (S = s.data.toList) := ⟨_, Lib.hid rfl⟩
  rw [← hS.out]
  have hSl : Hid (S.length = s.size) := Lib.hid (by rw [hS.out, ← size_toList])
  go_enter Try.func18, Try.ntmps18
  go_wp2
  go_loopw [3, 4] (fun v i wr => ∃ (k : Nat), 256 * k ≤ s.size + 255 ∧ i = .int .i64 ((256 * k : Nat) : Int) ∧ wr.ownsRow 0 34 2 v k (encQ (some_ S k)) ∧ Hid (∀ g, v.ownBlock = some g → w.heap.size ≤ g) ∧ Below w.heap.size w wr) (fun _ i _ => s.size + 256 - (intOf i).toNat)
  case atStart => exact ⟨0, by omega, rfl, World.ownsRow_nil _ _ _ _, Lib.hid (fun g hg => by simp [Value.ownBlock] at hg), Below.refl _ _⟩
  case round =>
    obtain ⟨k, hk, rfl, hown, hv, hbel⟩ := hrel
    obtain ⟨A, hA⟩ : ∃ A, Hid (A = 256 * k) := ⟨_, Lib.hid rfl⟩
    rw [← hA.out] at hk ⊢
    by_cases hlt : A < s.size
    · have hlti : (A : Int) < (s.size : Int) := by omega
      have hA0 : (0 : Int) ≤ (A : Int) := by omega
      obtain ⟨M, hM⟩ : ∃ M, Hid (M = min (A + 256) s.size) := ⟨_, Lib.hid rfl⟩
      have hMi : min ((A : Int) + 256) (s.size : Int) = (M : Int) := by rw [hM.out]; omega
      have hMi2 : min (s.size : Int) ((A : Int) + 256) = (M : Int) := by rw [hM.out]; omega
      have hAM : (A : Int) ≤ (M : Int) := by have := hM.out; omega
      have hMs : (M : Int) ≤ (s.size : Int) := by have := hM.out; omega
      have hex : s.extract A M = mkS (piece S k).2 := by
        have := extract_mkS s A (M - A)
        rw [show A + (M - A) = M from by omega] at this
        rw [this, ← hS.out, piece, ← hA.out]
        simp only
        congr 1
        apply List.ext_getElem?
        intro i
        rw [List.getElem?_take, List.getElem?_take]
        have h1 := hSl.out
        have h2 := hM.out
        by_cases h3 : i < M - A
        · rw [if_pos h3, if_pos (by omega)]
        · rw [if_neg h3]
          split
          · rw [List.getElem?_eq_none]
            rw [List.length_drop]; omega
          · rfl
      have hp1 : (piece S k).1 = A := by rw [piece, hA.out]
      obtain ⟨T, hT⟩ : ∃ T, Hid (T = (piece S k).2) := ⟨_, Lib.hid rfl⟩
      rw [← hT.out] at hex
      have Hp1 := Lib.hid hp1
      clear hp1
      have hAs : (A : Int) ≤ (s.size : Int) := by omega
      have hA256 : (A : Int) ≤ (A : Int) + 256 := by omega
      have hn256 : ((A : Int) + 256).toNat = A + 256 := by omega
      have hkb : k ≤ 4000000 := by have := hA.out; omega
      have hnews : ∀ W : World, ∀ (i : Nat) (u : Value), ([Value.int .i64 (A : Nat), .string (mkS T)] : List Value)[i]? = some u → (W.alloc (.cells #[.int .i64 (A : Nat), .string (mkS T)] 34)).cell? (Addr.add ⟨W.heap.size, 0, none⟩ i) = some u := by
        intro W i u hu
        match i, hu with
        | 0, hu => simp at hu; subst hu; simp [Addr.add]
        | 1, hu => simp at hu; subst hu; simp [Addr.add]
        | i + 2, hu => simp at hu
      have hone : ∀ u ∈ ([Value.int .i64 (A : Nat), .string (mkS T)] : List Value), u.oneCell' = true := by
        intro u hu; simp at hu; rcases hu with rfl | rfl <;> rfl
      have Hnews := Lib.hid hnews
      have Hone := Lib.hid hone
      have H63 : Hid (k + 1 ≤ maxLen) := Lib.hid (by unfold maxLen; omega)
      have Hby : Hid ((k + 1) * 24 ≤ 140737488355328) := Lib.hid (by omega)
      clear hnews hone
      rcases (by omega : (s.size : Int) ≤ (A : Int) + 256 ∨ ¬ (s.size : Int) ≤ (A : Int) + 256) with hmm | hmm
      all_goals
        first
          | rw [show M = s.size from by rw [hM.out]; omega] at hex
          | (rw [show M = A + 256 from by rw [hM.out]; omega] at hex; have hle256 : (A : Int) + 256 ≤ (s.size : Int) := by omega)
        go_wp2_with (at_builtin; refine wpList_append_fp rfl _ _ 30 rfl 0 34 i0 (.agg #[.int .i64 0, .string { data := #[] }]) 2 24 Try.underlying30 hi hz0 hz1 hz2 rfl (by decide) u3 k (encQ (some_ S k)) rfl (hown.alloc _) ⟨_, 0, none⟩ 1 1 [.int .i64 (A : Nat), .string (mkS T)] rfl rfl (Hnews.out wr) Hone.out H63.out Hby.out (Nat.zero_le _) ?_; intro v2 w2 ho hgr _ hbk)
        have hbw : Below wr.heap.size wr (wr.alloc (.cells #[.int .i64 (A : Nat), .string (mkS T)] 34)) := (Below.refl _ _).alloc (Nat.le_refl _) _
        have hbel2 : Below w.heap.size w (wr.alloc (.cells #[.int .i64 (A : Nat), .string (mkS T)] 34)) := below_tr hbel hbw
        have hbel3 : Below w.heap.size w w2 := (Chg.grown hgr).below_tr hbel2 (fun g hg e => by have := hv.out g e.symm; omega)
        have hs1 := hbel.size
        have hv2 : ∀ g, v2.ownBlock = some g → w.heap.size ≤ g := fun g hg => by
          rcases hbk with h | h
          · exact hv.out g (by rw [← h]; exact hg)
          · rw [h] at hg; have := Option.some.inj hg; first | omega | (simp at this; omega)
        have Hv2 := Lib.hid hv2
        clear hv2 hbk hgr hbel2 hbw
        go_wp2
        go_roundw
        case rel =>
          have e9 : (256 * (k + 1) : Nat) = A + 256 := by rw [hA.out]; omega
          refine ⟨k + 1, by omega, by rw [e9]; go_num, ?_, Hv2, hbel3⟩
          rw [some_succ, encQ_snoc, Hp1.out, ← hT.out]; exact ho
        case measure => simp [intOf]; omega
    · have hlti : ¬ (A : Int) < (s.size : Int) := by omega
      have hkk : k = (S.length + 255) / 256 := by have := hA.out; have := hSl.out; omega
      have hpc := Lib.hid (show pieces S = some_ S k by rw [hkk]; rfl)
      have hpl := Lib.hid (some_len S k)
      clear hkk
      go_wp2
      go_ret
      exact ⟨_, rfl, by rw [hpc.out, hpl.out]; exact hown, hv.out, hbel⟩

end Go.Proofs.Ytmaebileagfdaaa
