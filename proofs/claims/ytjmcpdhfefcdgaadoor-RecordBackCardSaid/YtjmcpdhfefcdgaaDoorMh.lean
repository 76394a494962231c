/- Matchers read: the document's reader. -/
import Derived.Test.YtjmcpdhfefcdgaaDoorMp
import Derived.Test.YtjmcpdhfefcdgaaDoorMo
import Derived.BigRegion
import Derived.Deep.CutBlock
namespace Go.Proofs.YtjmcpdhfefcdgaaDoor
open Go.RowKit Lb Dig Inn

theorem wf_wrap (n : Int) : (Lit.int .i64 (IntKind.i64.wrap n)).wf = true := by
  unfold Lit.wf
  simp [IntKind.wrap_i64, show IntKind.i64.min = -9223372036854775808 from rfl]
  omega
/-- What a reader of matchers leaves. -/
structure TakeOut (w : World) (x : Nat) (r : List Mt × List UInt8 × Nat) (y : Ending) (w' : World) : Prop where
  ex : ∃ (a : Option Addr) (n c : Nat), y = .returned (.slice a n c) ∧ RowM w' a r.1 ∧ r.1.length = n ∧ InAt w' x r.2.1 r.2.2 ∧ Chg (fun k => k = x) w w'
structure TakeOut2 (w : World) (x : Nat) (r : List Mt × List UInt8 × Nat) (y : Ending) (w' : World) : Prop where
  ex : ∃ (a : Option Addr) (n c : Nat), y = .returned (.slice a n c) ∧ RowM w' a r.1 ∧ r.1.length = n ∧ InAt w' x r.2.1 r.2.2 ∧ Chg (fun k => k = x) w w' ∧ ((a = none → c = 0) ∧ n ≤ c) ∧ (∀ ad, a = some ad → w.heap.size ≤ ad.block)
/-- What stands ahead of each round. -/
structure TkAt (w wt : World) (x n : Nat) (R : List Mt × List UInt8 × Nat) (v4 v5 : Value) : Prop where
  ex : ∃ (i : Nat) (ms : List Mt) (l : List UInt8) (e : Nat), i ≤ n ∧ i ≤ 8 ∧ v5 = .int .u64 i ∧ Hid (ms.length = i) ∧ l.length ≤ 100000 ∧ Hid (R = rdM (n - i) l e ms) ∧ Hid (e = 0 → n ≤ 8) ∧ InAt wt x l e ∧ wt.ownsRow 0 88 3 v4 i (encR mtC ms) ∧ Hid (∀ g, v4.ownBlock = some g → w.heap.size ≤ g) ∧ Hid (∀ m ∈ ms, (Lit.int .i64 m.1).wf = true ∧ m.2.1.size ≤ 100000 ∧ m.2.2.size ≤ 100000) ∧ Chg (fun k => k = x) w wt
theorem row_moreC {w w1 wa w2 : World} {x : Nat} {v1 v2 : Value} (hbel : Chg (fun k => k = x) w w1) (hfr : ∀ g, v1.ownBlock = some g → w.heap.size ≤ g)
    (hc : Chg (fun _ => False) w1 wa) (hgr : wa.grownBy w2 v1.ownBlock) (hbk : v2.ownBlock = v1.ownBlock ∨ v2.ownBlock = some wa.heap.size) :
    Chg (fun k => some k = v1.ownBlock) w1 w2 ∧ (∀ g, v2.ownBlock = some g → w.heap.size ≤ g) ∧ Chg (fun k => k = x) w w2 := by
  have h1 := hbel.size
  have hs := hc.size
  have hch : Chg (fun k => some k = v1.ownBlock) w1 w2 := (hc.mono (fun _ _ x => x.elim)).trans (Chg.grown hgr) (fun _ _ x => x)
  refine ⟨hch, fun g hg => ?_, hbel.trans hch (fun k hk e => by have := hfr k e.symm; omega)⟩
  rcases hbk with h | h
  · exact hfr g (by rw [← h]; exact hg)
  · rw [h] at hg
    have h9 := Option.some.inj hg
    omega

set_option maxRecDepth 100000 in
set_option maxHeartbeats 4000000 in
theorem take2_any (x : Nat) (s : List UInt8) (e0 : Nat) (hs : s.length ≤ 100000) (w : World) (hI0 : InAt w x s e0) :
    Calls Tryd.prog 51 #[.pointer (some ⟨x, 0, none⟩)] w (TakeOut2 w x (takeM s e0)) := by
  obtain ⟨i0, hi, hz0, hz1, hz2⟩ := pinfo_of minfo
  obtain ⟨D, hD⟩ : ∃ D, Hid (takeM s e0 = D) := ⟨_, Lib.hid rfl⟩
  rw [hD.out]
  have hxw : x < w.heap.size := RowV.lt hI0 (by simp)
  go_enter Tryd.func51, Tryd.ntmps51
  obtain ⟨n, l1, e1, hN⟩ : ∃ n l1 e1, Hid (inNum s e0 = (n, l1, e1)) := ⟨_, _, _, Lib.hid rfl⟩
  have IN := fun W h => innum_any x s e0 hs W h
  rw [hN.out] at IN
  obtain ⟨hn64, hl1⟩ : n < 18446744073709551616 ∧ l1.length ≤ 100000 := by
    have h1 := inNum_lt s e0 hs
    rw [hN.out] at h1
    simp only at h1
    omega
  obtain ⟨O, hO⟩ : ∃ O, decide ((n : Int) ≤ 8) = O := ⟨_, rfl⟩
  have hO' : decide (n ≤ 8) = O := by rw [← hO, Bool.eq_iff_iff]; simp; omega
  obtain ⟨e2, hE2⟩ : ∃ e, Hid (inMust e1 O 8 = e) := ⟨_, Lib.hid rfl⟩
  have IM := fun W h => inmust_any x l1 e1 O 8 W h
  rw [hE2.out] at IM
  have hDD : Hid (∀ ms l e3, rdM n l1 e2 [] = (ms, l, e3) → D = (ms, l, if e3 = 0 then chkM ms else e3)) := Lib.hid (fun ms l e3 h => by
    rw [← hD.out]; exact takeM_eq hN.out (by rw [hO', hE2.out]) h)
  have h28 : Hid (e2 = 0 → n ≤ 8) := Lib.hid (fun h => by
    rw [h] at hE2
    have := (inMust_zero hE2.out (by decide)).2
    rw [this] at hO'
    simpa using hO')
  have Hxw := Lib.hid hxw
  clear hxw hO'
  go_upto_region 3 with (first
    | (go_at_call 46; refine (IN _ hI0).mono ?_; rintro y w1 ⟨rfl, hI1, hc1⟩; clear IN)
    | (go_at_call 47; refine (IM _ hI1).mono ?_; rintro y w2 ⟨⟨vm, rfl⟩, hI2, hc2⟩; clear IM))
  have hch2 := hc1.trans hc2 (fun _ _ y => y)
  clear hI0 hI1 hc1 hc2 hO
  go_upto_region 5 with (fail)
  go_loopw [4, 5] (fun v4 v5 wt => TkAt w wt x n (rdM n l1 e2 []) v4 v5) (fun _ v5 _ => n - (intOf v5).toNat)
  case atStart => exact ⟨0, [], l1, e2, by omega, by omega, rfl, Lib.hid rfl, hl1, Lib.hid rfl, h28, hI2, World.ownsRow_nil _ _ _ _, Lib.hid (fun g hg => by simp [Value.ownBlock] at hg), Lib.hid (fun p hp => by simp at hp), hch2⟩
  case round =>
    clear hI2 hch2
    obtain ⟨i, ms, l, e, hil, hi8, rfl, hps, hl5, hR, he8, hI, hown, hfr, hsz, hch⟩ := hrel
    have c1 := (hI 1 _ rfl).1
    by_cases hgo : i < n ∧ e = 0
    · obtain ⟨hin, rfl⟩ := hgo
      have hii : (i : Int) < (n : Int) := by omega
      have h8 := he8.out rfl
      obtain ⟨k, l2, e3, hT0⟩ : ∃ k l' e', Hid (inNum l 0 = (k, l', e')) := ⟨_, _, _, Lib.hid rfl⟩
      obtain ⟨O4, hO4⟩ : ∃ O, decide ((k : Int) ≤ 4) = O := ⟨_, rfl⟩
      have hO4' : decide (k ≤ 4) = O4 := by rw [← hO4, Bool.eq_iff_iff]; simp; omega
      obtain ⟨e4, hT3⟩ : ∃ e', Hid (inMust e3 O4 5 = e') := ⟨_, Lib.hid rfl⟩
      obtain ⟨t, l3, e5, hT1⟩ : ∃ t l' e', Hid (inText l2 e4 32 = (t, l', e')) := ⟨_, _, _, Lib.hid rfl⟩
      obtain ⟨u, l4, e6, hT2⟩ : ∃ t l' e', Hid (inText l3 e5 64 = (t, l', e')) := ⟨_, _, _, Lib.hid rfl⟩
      have s0 := inNum_lt l 0 hl5
      have s1 := inText_size l2 e4 32
      have s2 := inText_size l3 e5 64
      rw [hT0.out] at s0
      rw [hT1.out] at s1
      rw [hT2.out] at s2
      simp only at s0 s1 s2
      have INk := fun W h => innum_any x l 0 hl5 W h
      have IMk := fun W h => inmust_any x l2 e3 O4 5 W h
      have IT1 := fun W h => intext_any x l2 e4 32 (by omega) (by omega) (by omega) W h
      have IT2 := fun W h => intext_any x l3 e5 64 (by omega) (by omega) (by omega) W h
      rw [hT0.out] at INk
      rw [hT3.out] at IMk
      rw [hT1.out] at IT1
      rw [hT2.out] at IT2
      obtain ⟨kz, hkz⟩ : ∃ z, IntKind.i64.wrap (k : Int) = z := ⟨_, rfl⟩
      have hkw : Hid ((Lit.int .i64 kz).wf = true) := Lib.hid (by rw [← hkz]; exact wf_wrap _)
      have hR2 : Hid (rdM n l1 e2 [] = rdM (n - (i + 1)) l4 e6 (ms ++ [(kz, mkS t, mkS u)])) := Lib.hid (by
        rw [hR.out, show n - i = (n - (i + 1)) + 1 from by omega, rdM_succ hT0.out (by rw [hO4', hT3.out]) hT1.out hT2.out, hkz])
      have hsz2 : Hid (∀ m ∈ ms ++ [(kz, mkS t, mkS u)], (Lit.int .i64 m.1).wf = true ∧ m.2.1.size ≤ 100000 ∧ m.2.2.size ≤ 100000) := Lib.hid (fun p hp => by
        rcases List.mem_append.mp hp with h | h
        · exact hsz.out p h
        · simp at h; subst h; simp only [mkS_size]; exact ⟨hkw.out, by omega, by omega⟩)
      have hl45 : l4.length ≤ 100000 := by omega
      have hk64 : k < 18446744073709551616 := s0.1
      clear s0 s1 s2 hO4'
      go_upto_region 9 with (first
        | (go_at_call 46; refine (INk _ hI).mono ?_; rintro y w3 ⟨rfl, hI3, hc3⟩; clear INk)
        | (go_at_call 47; refine (IMk _ hI3).mono ?_; rintro y w4 ⟨⟨vm, rfl⟩, hI4, hc4⟩; clear IMk))
      go_upto_region 10 with (go_at_call 48; refine (IT1 _ hI4).mono ?_; rintro y w5 ⟨rfl, hI5, hc5⟩; clear IT1)
      go_upto_region 11 with (go_at_call 48; refine (IT2 _ hI5).mono ?_; rintro y w6 ⟨rfl, hI6, hc6⟩; clear IT2)
      have hc36 := ((hc3.trans hc4 (fun _ _ y => y)).trans hc5 (fun _ _ y => y)).trans hc6 (fun _ _ y => y)
      have hown6 := hc36.owns hown (fun g hg e => by have h1 := hfr.out g hg; have h2 := Hxw.out; have h3 : g = x := e; omega)
      have hch6 := hch.trans hc36 (fun _ _ y => y)
      clear hI hown hch hI3 hI4 hI5 hc3 hc4 hc5 hc6 hc36 hO4
      go_wp2_with (at_builtin; refine wpList_append_fp rfl _ _ 23 rfl 0 88 i0 (.agg #[.int .i64 0, .string { data := #[] }, .string { data := #[] }]) 3 40 Tryd.underlying23 hi hz0 hz1 hz2 rfl (by decide) _ _ _ rfl (hown6.alloc _) ⟨_, 0, none⟩ 1 1 [.int .i64 kz, .string (mkS t), .string (mkS u)] rfl rfl ?c1 ?c2 ?c3 ?c4 ?c5 ?_)
      case c1 =>
        intro j u hu
        match j, hu with
        | 0, hu => simp at hu; subst hu; simp [Addr.add]
        | 1, hu => simp at hu; subst hu; simp [Addr.add]
        | 2, hu => simp at hu; subst hu; simp [Addr.add]
        | j + 3, hu => simp at hu
      case c2 => intro u hu; simp at hu; rcases hu with rfl | rfl | rfl <;> rfl
      case c3 => unfold maxLen; omega
      case c4 => omega
      case c5 => exact Nat.zero_le _
      intro v2 w7 ho hgr _ hbk
      have hca : Chg (fun _ => False) w6 (w6.alloc (.cells #[.int .i64 kz, .string (mkS t), .string (mkS u)] 88)) := Chg.alloc _ _ _
      obtain ⟨hch7, hfr2, hbel7⟩ := row_moreC hch6 hfr.out hca hgr (by simpa using hbk)
      have hI7 := RowV.keep hI6 hch7 (fun e => by have h1 := hfr.out x e.symm; have := Hxw.out; omega)
      have Hfr2 : Hid (∀ g, v2.ownBlock = some g → w.heap.size ≤ g) := Lib.hid hfr2
      clear hfr2 hbk hgr hch7 hca
      go_wp2
      go_roundw
      case rel =>
        refine ⟨i + 1, _, l4, e6, by omega, by omega, by go_num, Lib.hid (by rw [List.length_append, hps.out]; rfl), hl45, hR2, Lib.hid (fun _ => h8), hI7, ?_, Hfr2, hsz2, hbel7⟩
        rw [encR_snoc]; exact ho
      case measure => simp [intOf]; omega
    · have hR2 : Hid (rdM n l1 e2 [] = (ms, l, e)) := Lib.hid (by
        rw [hR.out]
        by_cases he : e = 0
        · have : ¬ i < n := fun h => hgo ⟨h, he⟩
          rw [show n - i = 0 from by omega]; rfl
        · exact rdM_bad he)
      have hres := Lib.hid (hDD.out _ _ _ hR2.out)
      have hsz3 : ∀ m ∈ ms, (Lit.int .i64 m.1).wf = true ∧ m.2.1.size ≤ 140737488351232 ∧ m.2.2.size ≤ 140737488351232 := fun m hm => by have h := hsz.out m hm; exact ⟨h.1, by omega, by omega⟩
      obtain ⟨a, n1, c, rfl, hpl, hq, hcap, _, _⟩ := OwnM.of_owns hown hsz3 (B := 0) (fun _ _ => Nat.zero_le _)
      obtain rfl : i = n1 := by rw [← hps.out, hpl]
      have Hlow : Hid (∀ ad, a = some ad → w.heap.size ≤ ad.block) := Lib.hid (fun ad e => hfr.out ad.block (by rw [e]; rfl))
      have Hcap := Lib.hid hcap
      clear hcap
      have hqx : ∀ ad, a = some ad → ¬ ad.block = x := fun ad had => by have h1 := hfr.out ad.block (by rw [had]; rfl); have := Hxw.out; omega
      have hgo' : ((i : Int) < (n : Int) ∧ ¬ (e : Int) = 0) ∨ (¬ (i : Int) < (n : Int) ∧ (e : Int) = 0) ∨ (¬ (i : Int) < (n : Int) ∧ ¬ (e : Int) = 0) := by
        rcases Nat.lt_or_ge i n with h1 | h1
        · exact .inl ⟨by omega, fun h => hgo ⟨h1, by omega⟩⟩
        · omega
      have CK := fun W h => rmcheck_any ms a i c hpl (by omega) W h
      obtain ⟨C, hC⟩ : ∃ b, Hid (chkM ms = b) := ⟨_, Lib.hid rfl⟩
      rw [hC.out] at CK hres
      have z1 := (hI 1 _ rfl).2
      clear hgo hown hsz3
      rcases hgo' with ⟨hii, hei⟩ | ⟨hii, hei⟩ | ⟨hii, hei⟩
      · have hD2 : D = (ms, l, e) := by rw [hres.out, if_neg (by omega)]
        subst hD2
        go_wp2
        go_ret
        exact ⟨_, _, _, rfl, hq, hpl, hI, hch, Hcap.out, Hlow.out⟩
      · have hD2 : D = (ms, l, C) := by rw [hres.out, if_pos (by omega)]
        subst hD2
        go_wp2_with (go_at_call 37; refine (CK _ hq).mono ?_; rintro y w4 ⟨rfl, hb4⟩; have hI4 := RowV.below hI hb4; have hq4 := RowM.below hq hb4; have z4 := (hI4 1 _ rfl).2; have y4 := (hI4 1 _ rfl).1; clear CK z1 c1)
        go_ret
        have hs9 : Chg (fun k => k = x) w4 (w4.setCell ⟨x, 1, none⟩ (.int .i64 (C : Nat))) := Chg.setCell w4 ⟨x, 1, none⟩ _
        exact ⟨_, _, _, rfl, RowG.keep hq4 hs9 (fun ad had => hqx ad had) (fun _ _ x => x), hpl, hI4.set 1 (by simp) _, (hch.trans (Chg.of_below _ hb4) (fun _ _ x => x)).trans hs9 (fun _ _ x => x), Hcap.out, Hlow.out⟩
      · have hD2 : D = (ms, l, e) := by rw [hres.out, if_neg (by omega)]
        subst hD2
        go_wp2
        go_ret
        exact ⟨_, _, _, rfl, hq, hpl, hI, hch, Hcap.out, Hlow.out⟩
theorem take_any (x : Nat) (s : List UInt8) (e0 : Nat) (hs : s.length ≤ 100000) (w : World) (hI0 : InAt w x s e0) :
    Calls Tryd.prog 51 #[.pointer (some ⟨x, 0, none⟩)] w (TakeOut w x (takeM s e0)) :=
  (take2_any x s e0 hs w hI0).mono fun _ _ h => by obtain ⟨a, n, c, h1, h2, h3, h4, h5, _⟩ := h; exact ⟨a, n, c, h1, h2, h3, h4, h5⟩

namespace Lb
theorem rdM_len : ∀ (k : Nat) (l : List UInt8) (e : Nat) (ms : List Mt), l.length ≤ 100000 → (rdM k l e ms).2.1.length ≤ l.length := by
  intro k
  induction k with
  | zero => intro l e ms _; exact Nat.le_refl _
  | succ k ih =>
    intro l e ms hl
    by_cases he : e = 0
    · subst he
      rcases h0 : inNum l 0 with ⟨n, l1, e1⟩
      rcases hm : inMust e1 (decide (n ≤ 4)) 5 with e2
      rcases h1 : inText l1 e2 32 with ⟨t, l2, e3⟩
      rcases h2 : inText l2 e3 64 with ⟨u, l3, e4⟩
      have s0 := inNum_lt l 0 hl
      have s1 := inText_size l1 e2 32
      have s2 := inText_size l2 e3 64
      rw [h0] at s0
      rw [h1] at s1
      rw [h2] at s2
      simp only at s0 s1 s2
      rw [rdM_succ h0 hm h1 h2]
      have := ih l3 e4 (ms ++ [(IntKind.i64.wrap (n : Int), mkS t, mkS u)]) (by omega)
      omega
    · rw [rdM_bad he]
      exact Nat.le_refl _
theorem takeM_len (s : List UInt8) (e : Nat) (hs : s.length ≤ 100000) : (takeM s e).2.1.length ≤ s.length := by
  unfold takeM
  have h1 := inNum_lt s e hs
  have h2 := rdM_len (inNum s e).1 (inNum s e).2.1 (inMust (inNum s e).2.2 (decide ((inNum s e).1 ≤ 8)) 8) [] (by omega)
  simp only
  omega
end Lb
structure MgOut2 (w : World) (r : List Mt × Nat × Nat) (y : Ending) (w' : World) : Prop where
  ex : ∃ (a : Option Addr) (n c : Nat), y = .returned (.tuple #[.slice a n c, .int .i64 (r.2.1 : Nat), .int .i64 (r.2.2 : Nat)]) ∧ RowM w' a r.1 ∧ r.1.length = n ∧ Below w.heap.size w w' ∧ ((a = none → c = 0) ∧ n ≤ c) ∧ (∀ ad, a = some ad → w.heap.size ≤ ad.block)
/-- What is got of the front of bytes. -/
structure MgOut (w : World) (r : List Mt × Nat × Nat) (y : Ending) (w' : World) : Prop where
  ex : ∃ (a : Option Addr) (n c : Nat), y = .returned (.tuple #[.slice a n c, .int .i64 (r.2.1 : Nat), .int .i64 (r.2.2 : Nat)]) ∧ RowM w' a r.1 ∧ r.1.length = n ∧ Below w.heap.size w w'

end Go.Proofs.YtjmcpdhfefcdgaaDoor
