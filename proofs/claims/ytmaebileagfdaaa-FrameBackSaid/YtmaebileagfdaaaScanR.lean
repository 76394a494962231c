/- The document's scan of frames. -/
import Derived.Test.YtmaebileagfdaaaScan
import Derived.Deep.AppendLies
import Derived.BigRegion
namespace Go.Proofs.Ytmaebileagfdaaa
open Go.RowKit Dig Crc Frm

theorem fvals_eq {l t : List UInt8} {b k e : Nat} (h : Frm.get l = (b, t, k, e)) : fvals (Frm.get l) = .tuple #[.agg #[.int .i64 (b : Nat), .string (mkS t)], .int .i64 (k : Nat), .int .i64 (e : Nat)] := by rw [h]; rfl

def encF (l : List (Nat × List UInt8)) : List Value := (l.map fun x => [Value.int .i64 (x.1 : Nat), .string (mkS x.2)]).flatten
theorem encF_snoc (l : List (Nat × List UInt8)) (x : Nat × List UInt8) : encF (l ++ [x]) = encF l ++ [.int .i64 (x.1 : Nat), .string (mkS x.2)] := by simp [encF]
theorem encF_len (l : List (Nat × List UInt8)) : (encF l).length = l.length * 2 := by
  induction l with
  | nil => rfl
  | cons a l ih => simp only [encF, List.map_cons, List.flatten_cons, List.length_append, List.length_cons, List.length_nil] at ih ⊢; omega
theorem encF_get (l : List (Nat × List UInt8)) : ∀ (j : Nat) (x : Nat × List UInt8), l[j]? = some x → (encF l)[j * 2]? = some (.int .i64 (x.1 : Nat)) ∧ (encF l)[j * 2 + 1]? = some (.string (mkS x.2)) := by
  induction l with
  | nil => intro j x h; simp at h
  | cons a l ih =>
    intro j x h
    cases j with
    | zero => simp at h; subst h; simp [encF]
    | succ j =>
      have := ih j x (by simpa using h)
      have e1 : (j + 1) * 2 = j * 2 + 2 := by omega
      have e2 : encF (a :: l) = .int .i64 (a.1 : Nat) :: .string (mkS a.2) :: encF l := by simp [encF]
      rw [e1, e2]
      simpa using this

theorem info_of {t : TypeId} {z : Value} {n b : Nat} (h : (Try.prog.info? t).map (fun i => (i.zero, i.size, i.bytes)) = some (some z, n, b)) : ∃ i, Try.prog.info? t = some i ∧ i.zero = some z ∧ i.size = n ∧ i.bytes = b := by
  cases hi : Try.prog.info? t with
  | none => rw [hi] at h; simp at h
  | some i => rw [hi] at h; simp at h; exact ⟨i, rfl, h.1, h.2.1, h.2.2⟩
theorem rfinfo : (Try.prog.info? 42).map (fun i => (i.zero, i.size, i.bytes)) = some (some (.agg #[.int .i64 0, .string { data := #[] }]), 2, 24) := by kernel_rfl

set_option maxRecDepth 100000 in
set_option maxHeartbeats 2000000 in
theorem rscan_any (s : ByteArray) (hs : s.size ≤ 1000000000) (w : World) :
    Calls Try.prog 29 #[.string s] w fun e w' => ∃ v, e = .returned (.tuple #[v, .int .i64 ((scan s.data.toList).2.1 : Nat), .int .i64 ((scan s.data.toList).2.2 : Nat)]) ∧
      w'.ownsRow 0 42 2 v (scan s.data.toList).1.length (encF (scan s.data.toList).1) ∧ (∀ g, v.ownBlock = some g → w.heap.size ≤ g) ∧ Below w.heap.size w w' := by
  obtain ⟨i0, hi, hz0, hz1, hz2⟩ := info_of rfinfo
  obtain ⟨S, hS⟩ : ∃ S, Hid (S = s.data.toList) := ⟨_, Lib.hid rfl⟩
  rw [← hS.out]
  have hSl : Hid (S.length = s.size) := Lib.hid (by rw [hS.out, ← size_toList])
  go_enter Try.func29, Try.ntmps29
  go_wp2
  go_loopw [5, 6] (fun v i wr => ∃ (l : List (Nat × List UInt8)) (n : Nat), n ≤ s.size ∧ i = .int .i64 n ∧ Hid (Sofar S l n) ∧ wr.ownsRow 0 42 2 v l.length (encF l) ∧ Hid (∀ g, v.ownBlock = some g → w.heap.size ≤ g) ∧ Below w.heap.size w wr) (fun _ i _ => s.size - (intOf i).toNat)
  case atStart => exact ⟨[], 0, by omega, rfl, Lib.hid (Sofar.zero S), World.ownsRow_nil _ _ _ _, Lib.hid (fun g hg => by simp [Value.ownBlock] at hg), Below.refl _ _⟩
  case round =>
    obtain ⟨l, n, hn, rfl, hso, hown, hv, hbel⟩ := hrel
    by_cases hlt : n < s.size
    · have hlti : (n : Int) < (s.size : Int) := by omega
      have hn0 : (0 : Int) ≤ (n : Int) := by omega
      have hex : s.extract n s.size = mkS (S.drop n) := by
        have := extract_mkS s n (s.size - n)
        rw [show n + (s.size - n) = s.size from by omega] at this
        rw [this, hS.out, List.take_of_length_le]
        rw [List.length_drop, ← size_toList]; omega
      have G1 := fun W => rfget_any (mkS (S.drop n)) (by rw [mkS_size, List.length_drop, hSl.out]; omega) W
      rw [mkS_data] at G1
      have hst := Sofar.stop hso.out (by rw [hSl.out]; exact hlt)
      have hok := Sofar.step hso.out (by rw [hSl.out]; exact hlt)
      have hgn := @get_n (S.drop n)
      rcases hg : Frm.get (S.drop n) with ⟨k, d, m, e⟩
      rw [hg] at hst hok hgn
      rw [fvals_eq hg] at G1
      simp only at hst hok hgn
      have HG := Lib.hid hg
      clear hg
      by_cases he : e = 0
      · subst he
        have hok2 := Lib.hid (hok rfl)
        have hgn2 := hgn rfl
        rw [List.length_drop, hSl.out] at hgn2
        clear hst hok hgn
        have hl5 : 5 * l.length ≤ 1000000000 := by have := hso.out.2.1; omega
        go_wp2_with (first
          | (go_at_call 27; refine (G1 _).mono ?_; rintro e w1 ⟨rfl, hb1⟩; have hown1 := (Chg.of_below (fun _ => False) hb1).owns hown (fun _ _ x => x); have hsz1 := hb1.size)
          | (at_builtin; refine wpList_append_fp rfl _ _ 70 rfl 0 42 i0 (.agg #[.int .i64 0, .string { data := #[] }]) 2 24 Try.underlying70 hi hz0 hz1 hz2 rfl (by decide) _ _ _ rfl ((hown1.alloc _).alloc _) ⟨_, 0, none⟩ 1 1 [.int .i64 (k : Nat), .string (mkS d)] rfl rfl ?c1 ?c2 ?c3 ?c4 ?c5 ?_))
        case c1 =>
          intro j u hu
          match j, hu with
          | 0, hu => simp at hu; subst hu; simp [Addr.add]
          | 1, hu => simp at hu; subst hu; simp [Addr.add]
          | j + 2, hu => simp at hu
        case c2 => intro u hu; simp at hu; rcases hu with rfl | rfl <;> rfl
        case c3 => unfold maxLen; omega
        case c4 => omega
        case c5 => exact Nat.zero_le _
        intro v2 w2 ho hgr _ hbk
        have hbw : Below wr.heap.size wr ((w1.alloc (.cells #[.int .i64 (k : Nat), .string (mkS d)] 42)).alloc (.cells #[.int .i64 (k : Nat), .string (mkS d)] 42)) := (hb1.alloc hb1.size _).alloc (by simp; omega) _
        have hch := (Chg.grown hgr)
        have hbel2 : Below w.heap.size w ((w1.alloc (.cells #[.int .i64 (k : Nat), .string (mkS d)] 42)).alloc (.cells #[.int .i64 (k : Nat), .string (mkS d)] 42)) := below_tr hbel hbw
        have hbel3 : Below w.heap.size w w2 := hch.below_tr hbel2 (fun g hg e => by have := hv.out g e.symm; omega)
        have hs1 := hbel.size
        have hv2 : ∀ g, v2.ownBlock = some g → w.heap.size ≤ g := fun g hg => by
          rcases hbk with h | h
          · exact hv.out g (by rw [← h]; exact hg)
          · rw [h] at hg; have := Option.some.inj hg; omega
        have Hv2 := Lib.hid hv2
        clear hv2 hbk hgr hch hbel2 hbw
        go_wp2
        go_roundw
        case rel =>
          refine ⟨l ++ [(k, d)], n + m, by omega, by go_num, hok2, ?_, Hv2, hbel3⟩
          rw [encF_snoc, List.length_append]; exact ho
        case measure => simp [intOf]; omega
      · have hst := hst he
        have hne : ((e : Int) == 0) = false := by rw [beq_eq_false_iff_ne]; omega
        have Hst := Lib.hid hst
        clear hst hok hgn
        go_wp2_with (go_at_call 27; refine (G1 _).mono ?_; rintro e w1 ⟨rfl, hb1⟩; have hown1 := (Chg.of_below (fun _ => False) hb1).owns hown (fun _ _ x => x))
        go_ret3
        refine ⟨_, by rw [Hst.out]; rfl, by rw [Hst.out]; exact hown1.alloc _, hv.out, (below_tr hbel hb1).alloc (below_tr hbel hb1).size _⟩
    · have hlti : ¬ (n : Int) < (s.size : Int) := by omega
      have hall := Lib.hid (Sofar.all hso.out (by rw [hSl.out]; omega))
      go_wp2
      go_ret3
      exact ⟨_, by rw [hall.out]; rfl, by rw [hall.out]; exact hown, hv.out, hbel⟩
end Go.Proofs.Ytmaebileagfdaaa
