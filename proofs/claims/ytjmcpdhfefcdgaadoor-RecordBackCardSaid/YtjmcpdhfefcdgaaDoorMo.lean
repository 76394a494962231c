/- A copy of matchers. -/
import Derived.Test.YtjmcpdhfefcdgaaDoorMb
import Derived.Laws.StructEq
namespace Go.Proofs.YtjmcpdhfefcdgaaDoor
open Go.RowKit Lb Dig

theorem mtC_one (m : Mt) : ∀ u ∈ mtC m, u.oneCell' = true := by
  intro u hu
  simp only [mtC, List.mem_cons, List.not_mem_nil, or_false] at hu
  rcases hu with rfl | rfl | rfl <;> rfl
theorem minfo : (Tryd.prog.info? 88).map (fun i => (i.zero, i.size, i.bytes)) = some (some (.agg #[.int .i64 0, .string { data := #[] }, .string { data := #[] }]), 3, 40) := by kernel_rfl
theorem RowM.mem {w : World} {a : Option Addr} {l : List Mt} (h : RowM w a l) : ∀ m ∈ l, (Lit.int .i64 m.1).wf = true ∧ m.2.1.size ≤ 140737488351232 ∧ m.2.2.size ≤ 140737488351232 := by
  intro m hm
  obtain ⟨cs, _, h1⟩ := RowG.all h m hm
  exact h1
theorem RowM.src {w : World} {a : Option Addr} {n c : Nat} {l : List Mt} (h : RowM w a l) (hn : l.length = n) (hc : (a = none → c = 0) ∧ n ≤ c) : Src w 3 a n c (encR mtC l) :=
  RowG.src h mtC_len (by decide) (fun cs y hy => hy.1) hn hc
/-- Matchers that one owns. -/
abbrev OwnM (w : World) (B : Nat) (l : List Mt) (v : Value) : Prop := OwnR isMt mtC 3 88 w B l v
theorem OwnM.of_owns {w : World} {B : Nat} {v : Value} {n : Nat} {l : List Mt} (h : w.ownsRow 0 88 3 v n (encR mtC l)) (hR : ∀ m ∈ l, (Lit.int .i64 m.1).wf = true ∧ m.2.1.size ≤ 140737488351232 ∧ m.2.2.size ≤ 140737488351232) (hg : ∀ g, v.ownBlock = some g → B ≤ g) : OwnM w B l v :=
  OwnR.of_owns mtC_len (by decide) h (fun y hy => ⟨rfl, hR y hy⟩) hg
theorem RowM.of_rowV {w : World} {g : Nat} {l : List Mt} (h : RowV w g (encR mtC l)) (hR : ∀ m ∈ l, (Lit.int .i64 m.1).wf = true ∧ m.2.1.size ≤ 140737488351232 ∧ m.2.2.size ≤ 140737488351232) : RowM w (some ⟨g, 0, none⟩) l := by
  refine .inr ⟨_, rfl, fun i y hy => ⟨mtC y, rfl, fun j u hu => ?_, rfl, hR y (List.mem_of_getElem? hy)⟩⟩
  have ha : (⟨g, 0, none⟩ : Addr).add (i * 3 + j) = ⟨g, i * 3 + j, none⟩ := by unfold Addr.add; split <;> simp_all
  rw [ha]
  exact (h _ _ (encR_get mtC_len l i y hy j u hu)).1

theorem bs_toList {a b : ByteArray} : a.toList = b.toList ↔ a = b := by have := bs_eq (a := a) (b := b); rw [Bool.eq_iff_iff] at this; simpa using this
theorem guard_mt : Tryd.prog.eqGuardType Tryd.prog.depth 88 = false := by kernel_rfl

set_option maxRecDepth 100000 in
set_option maxHeartbeats 4000000 in
theorem rmsame_any (l l' : List Mt) (a b : Option Addr) (n c n' c' : Nat) (hn : l.length = n) (hn' : l'.length = n') (hb : n ≤ 4611686018427387904) (hb' : n' ≤ 4611686018427387904) (w : World) (hr : RowM w a l) (hr' : RowM w b l') :
    Calls Tryd.prog 38 #[.slice a n c, .slice b n' c'] w fun e w' => e = .returned (.bool (decide (l = l'))) ∧ Below w.heap.size w w' := by
  obtain ⟨E, hE⟩ : ∃ E, Hid (decide (l = l') = E) := ⟨_, Lib.hid rfl⟩
  rw [hE.out]
  go_enter Tryd.func38, Tryd.ntmps38
  by_cases hnn : n = n'
  · subst hnn
    go_upto_region 4 with (fail)
    go_loopw [5] (fun v5 wr => ∃ (j : Nat), j ≤ n ∧ v5 = .int .i64 j ∧ Hid (l.take j = l'.take j) ∧ Below w.heap.size w wr) (fun v5 _ => n - (intOf v5).toNat)
    case atStart => exact ⟨0, by omega, rfl, Lib.hid rfl, Below.refl _ _⟩
    case round =>
      obtain ⟨j, hj, rfl, htk, hbw⟩ := hrel
      by_cases hlt : j < n
      · have hji : (j : Int) < (n : Int) := by omega
        obtain ⟨⟨k, nm, v⟩, hp⟩ : ∃ p, l[j]? = some p := ⟨_, List.getElem?_eq_getElem (by omega)⟩
        obtain ⟨⟨k', nm', v'⟩, hp'⟩ : ∃ p, l'[j]? = some p := ⟨_, List.getElem?_eq_getElem (by omega)⟩
        obtain ⟨x, rfl⟩ := RowG.some_ hr hp
        obtain ⟨x', rfl⟩ := RowG.some_ hr' hp'
        obtain ⟨c0, c1, c2, _, _, _⟩ := RowM.at3 (RowM.below hr hbw) hp
        obtain ⟨d0, d1, d2, _, _, _⟩ := RowM.at3 (RowM.below hr' hbw) hp'
        have Hp := Lib.hid hp
        have Hp' := Lib.hid hp'
        have hgm := guard_mt
        clear hp hp'
        have hne : Hid (¬ (k, nm, v) = (k', nm', v') → E = false) := Lib.hid (fun h => by
          rw [← hE.out]
          refine decide_eq_false (fun e => ?_)
          subst e
          rw [Hp.out] at Hp'
          exact h (Option.some.inj Hp'.out))
        have hcase : (¬ k = k') ∨ (k = k' ∧ ¬ nm.toList = nm'.toList) ∨ (k = k' ∧ nm = nm' ∧ ¬ v.toList = v'.toList) ∨ (k = k' ∧ nm = nm' ∧ v = v') := by
          rw [bs_toList, bs_toList]
          by_cases h1 : k = k' <;> by_cases h2 : nm = nm' <;> by_cases h3 : v = v' <;> simp [h1, h2, h3]
        go_upto_region 6 with (fail)
        rcases hcase with h1 | ⟨rfl, h1⟩ | ⟨rfl, rfl, h1⟩ | ⟨rfl, rfl, rfl⟩
        · have hE2 : E = false := hne.out (fun e => h1 (by cases e; rfl))
          subst hE2
          go_quiet (fail)
          go_wp2
          go_ret
          exact ⟨rfl, below_drewN hbw _⟩
        · have hE2 : E = false := hne.out (fun e => h1 (by cases e; rfl))
          subst hE2
          go_quiet (fail)
          go_wp2
          go_ret
          exact ⟨rfl, below_drewN hbw _⟩
        · have hE2 : E = false := hne.out (fun e => h1 (by cases e; rfl))
          subst hE2
          go_quiet (fail)
          go_wp2
          go_ret
          exact ⟨rfl, below_drewN hbw _⟩
        · have htk2 : Hid (l.take (j + 1) = l'.take (j + 1)) := Lib.hid (by
            rw [List.take_add_one, List.take_add_one, Hp.out, Hp'.out, htk.out])
          go_quiet (fail)
          go_wp2
          go_roundw
          case rel => exact ⟨j + 1, by omega, by go_num, htk2, below_drewN hbw _⟩
          case measure => simp [intOf]; omega
      · obtain rfl : j = n := by omega
        have hji : ¬ (j : Int) < (j : Int) := by omega
        have hE2 : E = true := by
          rw [← hE.out]
          have := htk.out
          rw [List.take_of_length_le (by omega), List.take_of_length_le (by omega)] at this
          exact decide_eq_true this
        subst hE2
        go_wp2
        go_ret
        exact ⟨rfl, hbw⟩
  · have hni : ¬ (n : Int) = (n' : Int) := by omega
    have hE2 : E = false := by rw [← hE.out]; exact decide_eq_false (fun e => hnn (by rw [← hn, ← hn', e]))
    subst hE2
    go_wp2
    go_ret
    exact ⟨rfl, Below.refl _ _⟩
end Go.Proofs.YtjmcpdhfefcdgaaDoor
