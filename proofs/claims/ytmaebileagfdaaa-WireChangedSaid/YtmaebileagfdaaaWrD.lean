/- The program's decoder of messages. -/
import Derived.Test.YtmaebileagfdaaaWrP
namespace Go.Proofs.Ytmaebileagfdaaa
open Go.RowKit Dig Wr

namespace Wr
def zm : Msg := ⟨0, 0, 0, 0, 0, 0, 0, [], ByteArray.empty⟩
/-- The message of bytes, and what is wrong with them. -/
def decW (s : List UInt8) : Nat × Msg := match Frm.get s with
  | (k, d, n, e) => if e ≠ 0 then (e, zm) else if k ≠ 7 then (5, zm) else if n < s.length then (6, zm) else match msgP d with
    | none => (3, zm)
    | some m => if chk m = 0 then (0, m) else (3, zm)
end Wr

structure DeOut (w : World) (r : Nat × Msg) (y : Ending) (w' : World) : Prop where
  ex : Below w.heap.size w w' ∧ ∃ a n c, r.2.rs.length = n ∧ y = .returned (.tuple #[msgV r.2 a n c, .int .i64 (r.1 : Nat)]) ∧ w'.ownsRow 0 9 1 (.slice a n c) n (r.2.rs.map Value.string)

theorem rowS_own {w : World} {base : Nat} {e : TypeId} {a : Option Addr} {n c : Nat} {rs : List ByteArray} (h : w.ownsRow base e 1 (.slice a n c) n (rs.map Value.string)) : RowS w a rs ∧ rs.length = n := by
  have hl : rs.length = n := by have := h.1; simpa using this
  refine ⟨⟨?_⟩, hl⟩
  rcases h.2 with ⟨h1, h0⟩ | ⟨g, cap, cur, hv, _⟩
  · left; exact List.length_eq_zero_iff.mp (by omega)
  · simp only [Value.slice.injEq] at hv
    obtain ⟨rfl, _, rfl⟩ := hv
    refine .inr ⟨_, rfl, fun i r hr => ?_⟩
    exact h.cells (g := g) rfl i _ (by rw [List.getElem?_map, hr]; rfl)

theorem getText_len (l : List UInt8) (most : Int) : (getText l most).1.length ≤ l.length := by
  unfold getText
  rcases getNum l with ⟨n, k, e⟩
  simp only
  split
  · simp
  · split
    · simp
    · split
      · simp
      · simp only [List.length_take, List.length_drop]; omega
theorem get_len (s : List UInt8) : (Frm.get s).2.1.length ≤ s.length := by
  unfold Frm.get
  cases s with
  | nil => simp
  | cons b r =>
    have := getText_len r 65536
    simp only
    repeat' split
    all_goals simp only [List.length_cons, List.length_nil]
    all_goals omega
theorem nums_le : ∀ (n : Nat) (s : List UInt8) (l : List Nat) (r : List UInt8), nums n s = some (l, r) → ∀ x ∈ l, x ≤ 4294967295 := by
  intro n
  induction n with
  | zero => intro s l r h x hx; simp [nums] at h; rw [h.1] at hx; simp at hx
  | succ n ih =>
    intro s l r h x hx
    unfold nums at h
    split at h
    · cases h
    · rename_i hc
      cases h2 : nums n (s.drop (getNum s).2.1) with
      | none => rw [h2] at h; cases h
      | some y =>
        obtain ⟨l2, r2⟩ := y
        rw [h2] at h
        simp only [Option.map_some, Option.some.injEq, Prod.mk.injEq] at h
        rw [← h.1] at hx
        rcases List.mem_cons.mp hx with rfl | hx
        · omega
        · exact ih _ _ _ h2 x hx
theorem texts_len : ∀ (n : Nat) (s : List UInt8) (l : List ByteArray) (r : List UInt8), texts n s = some (l, r) → l.length = n := by
  intro n
  induction n with
  | zero => intro s l r h; simp [texts] at h; rw [h.1]; rfl
  | succ n ih =>
    intro s l r h
    unfold texts at h
    split at h
    · cases h
    · cases h2 : texts n (s.drop (getText s 65536).2.1) with
      | none => rw [h2] at h; cases h
      | some y =>
        obtain ⟨l2, r2⟩ := y
        rw [h2] at h
        simp only [Option.map_some, Option.some.injEq, Prod.mk.injEq] at h
        rw [← h.1, List.length_cons, ih _ _ _ h2]
theorem msg_small {s : List UInt8} {m : Msg} (h : msgP s = some m) : m.rs.length ≤ 4 ∧ MWf m := by
  unfold msgP at h
  cases h1 : nums 8 s with
  | none => rw [h1] at h; cases h
  | some y =>
    obtain ⟨l, r⟩ := y
    rw [h1] at h
    simp only at h
    split at h
    · cases h
    · rename_i hc
      cases h2 : texts (l.getD 7 0) r with
      | none => rw [h2] at h; cases h
      | some z =>
        obtain ⟨rs, r2⟩ := z
        rw [h2] at h
        simp only at h
        split at h
        · cases h
          have hg : ∀ i, l.getD i 0 ≤ 4294967295 := fun i => by
            rw [List.getD_eq_getElem?_getD]
            cases h : l[i]? with
            | none => simp
            | some x => exact nums_le _ _ _ _ h1 x (List.mem_of_getElem? h)
          have hw : ∀ i, (Lit.int .i64 ((l.getD i 0 : Nat) : Int)).wf = true := fun i => by
            have := hg i
            simp only [Lit.wf, IntKind.min, IntKind.max, IntKind.signed, IntKind.bits]
            generalize l.getD i 0 = x at this
            simp; omega
          refine ⟨?_, hw 0, hw 1, hw 2, hw 3, hw 4, hw 5⟩
          show rs.length ≤ 4
          rw [texts_len _ _ _ _ h2]; omega
        · cases h

set_option maxRecDepth 100000 in
set_option maxHeartbeats 4000000 in
theorem wdecode_any (s : ByteArray) (hs : s.size ≤ 100000) (w : World) :
    Calls Try.prog 32 #[.string s] w (DeOut w (decW s.data.toList)) := by
  obtain ⟨k, d, n, e, hG⟩ : ∃ k d n e, Hid (Frm.get s.data.toList = (k, d, n, e)) := ⟨_, _, _, _, Lib.hid rfl⟩
  have FG := fun W => fget_any s (by omega) W
  rw [hG.out] at FG
  unfold fvals at FG
  simp only at FG
  have h0 := RowV.new w (hd9 [] (.slice none 0 0) (.string ByteArray.empty)) 80
  have hb0 : Below w.heap.size w (w.alloc (.cells (hd9 [] (.slice none 0 0) (.string ByteArray.empty)).toArray 80)) := (Below.refl _ _).alloc (Nat.le_refl _) _
  go_enter Try.func32, Try.ntmps32
  go_upto_region 2 with (go_at_call 26; refine (FG _).mono ?_; rintro y w1 ⟨rfl, hb1⟩)
  have h1 := h0.below hb1
  have hb01 := below_tr hb0 hb1
  clear h0 hb0 hb1 FG
  have ML : ∀ W p v0 v1 v2 v3 v4 v5 v6 v7 v8, RowV W p [v0, v1, v2, v3, v4, v5, v6, v7, v8] → (loadVar 80 ⟨p, 0, none⟩).run Try.prog W = .ok (.agg #[v0, v1, v2, v3, v4, v5, v6, v7, v8]) W := fun W p v0 v1 v2 v3 v4 v5 v6 v7 v8 h => h.load _ _ Try.underlying80 rfl (by kernel_rfl)
  obtain ⟨p, hp⟩ : ∃ p, Hid (p = w.heap.size) := ⟨_, Lib.hid rfl⟩
  obtain ⟨q, hq⟩ : ∃ q, Hid (q = w1.heap.size) := ⟨_, Lib.hid rfl⟩
  have hx := RowV.new w1 [.int .i64 (k : Nat), .string (mkS d)] 40
  have hba : Below w1.heap.size w1 (w1.alloc (.cells #[.int .i64 (k : Nat), .string (mkS d)] 40)) := (Below.refl _ _).alloc (Nat.le_refl _) _
  obtain ⟨W2, hW2⟩ : ∃ W2, W2 = w1.alloc (.cells #[.int .i64 (k : Nat), .string (mkS d)] 40) := ⟨_, rfl⟩
  rw [← hW2] at hba ⊢
  have hx2 : RowV W2 w1.heap.size [.int .i64 (k : Nat), .string (mkS d)] := by rw [hW2]; exact hx
  have h2 := h1.below hba
  have hb02 := below_tr hb01 hba
  rw [← hp.out] at h2 ⊢
  rw [← hq.out] at hx2 ⊢
  have hpw : w.heap.size ≤ p := by rw [hp.out]; exact Nat.le_refl _
  clear hW2 hx h1 hba hb01
  have q0 := (hx2 0 _ rfl).1
  have q1 := (hx2 1 _ rfl).1
  have fin : ∀ (W W9 : World) (r9 : RowV W9 p (hd9 [] (.slice none 0 0) (.string ByteArray.empty))) (hb : Below w.heap.size w W) (c9 : Chg (fun k => k = p) W W9) (e' : Nat) (hd : decW s.data.toList = (e', zm)), DeOut w (decW s.data.toList) (.returned (.tuple #[.agg (hd9 [] (.slice none 0 0) (.string ByteArray.empty)).toArray, .int .i64 (e' : Nat)])) W9 := by
    intro W W9 r9 hb c9 e' hd
    rw [hd]
    exact ⟨Chg.below_tr hb c9 (fun k hk e => by omega), none, 0, 0, rfl, rfl, World.ownsRow_nil _ _ _ _⟩
  have Fin := Lib.hid fin
  clear fin
  by_cases he : e = 0
  · subst he
    by_cases hk : k = 7
    · have hki : (k : Int) = 7 := by omega
      by_cases hn : n < s.size
      · have hni : (n : Int) < (s.size : Int) := by omega
        have hd : Hid (decW s.data.toList = (6, zm)) := Lib.hid (by unfold decW; rw [hG.out]; simp only; rw [if_neg (by omega), if_neg (by omega), if_pos (by rw [← size_toList]; exact hn)])
        have b0 := (h2 0 _ rfl).1
        have z0 := (h2 0 _ rfl).2
        have b1 := (h2 1 _ rfl).1
        have z1 := (h2 1 _ rfl).2
        have b2 := (h2 2 _ rfl).1
        have z2 := (h2 2 _ rfl).2
        have b3 := (h2 3 _ rfl).1
        have z3 := (h2 3 _ rfl).2
        have b4 := (h2 4 _ rfl).1
        have z4 := (h2 4 _ rfl).2
        have b5 := (h2 5 _ rfl).1
        have z5 := (h2 5 _ rfl).2
        have b6 := (h2 6 _ rfl).1
        have z6 := (h2 6 _ rfl).2
        have b7 := (h2 7 _ rfl).1
        have z7 := (h2 7 _ rfl).2
        have b8 := (h2 8 _ rfl).1
        have z8 := (h2 8 _ rfl).2
        go_wp2
        generalize hW9 : (((((((((W2.setCell ⟨p, 0, none⟩ _).setCell ⟨p, 1, none⟩ _).setCell ⟨p, 2, none⟩ _).setCell ⟨p, 3, none⟩ _).setCell ⟨p, 4, none⟩ _).setCell ⟨p, 5, none⟩ _).setCell ⟨p, 6, none⟩ _).setCell ⟨p, 7, none⟩ _).setCell ⟨p, 8, none⟩ _) = W9
        obtain ⟨r9, c9, _⟩ := h2.set9 rfl _ _ _ _ _ _ _ _ _ W9 hW9.symm
        refine bodyPost_ret (results_cell_tmp2 rfl _ _ p _ rfl (ML W9 _ _ _ _ _ _ _ _ _ _ r9)) rfl ?_
        exact Fin.out W2 W9 r9 hb02 c9 6 hd.out
      · have hni : ¬ (n : Int) < (s.size : Int) := by omega
        have hdl : (mkS d).size ≤ 100000 := by
          rw [mkS_size]
          have := get_len s.data.toList
          rw [hG.out, ← size_toList] at this
          simp only at this
          omega
        have PA := fun W => parse_any (mkS d) hdl W
        rw [mkS_data] at PA
        have hd : Hid (decW s.data.toList = match msgP d with
          | none => (3, zm)
          | some m => if chk m = 0 then (0, m) else (3, zm)) := Lib.hid (by unfold decW; rw [hG.out]; simp only; rw [if_neg (by omega), if_neg (by omega), if_neg (by rw [← size_toList]; exact hn)])
        go_upto_region 9 with (go_at_call 50; refine (PA _).mono ?_; rintro y w3 ⟨hb3, m, a, n3, c, ok, rfl, hf, ht⟩; unfold msgV)
        have hb03 := below_tr hb02 hb3
        have h3 := h2.below hb3
        obtain ⟨W3, hW3⟩ : ∃ W3, W3 = w3.alloc (.cells #[.int .i64 m.k, .int .i64 m.e, .int .i64 m.b, .int .i64 m.l, .int .i64 m.la, .int .i64 m.ap, .int .u32 (m.su : Nat), .slice a n3 c, .string m.tx] 80) := ⟨_, rfl⟩
        obtain ⟨r, hr⟩ : ∃ r, Hid (r = w3.heap.size) := ⟨_, Lib.hid rfl⟩
        have hm3 : RowV W3 r [.int .i64 m.k, .int .i64 m.e, .int .i64 m.b, .int .i64 m.l, .int .i64 m.la, .int .i64 m.ap, .int .u32 (m.su : Nat), .slice a n3 c, .string m.tx] := by
          rw [hW3, hr.out]; exact RowV.new w3 _ _
        have hb33 : Below w3.heap.size w3 W3 := by rw [hW3]; exact (Below.refl _ _).alloc (Nat.le_refl _) _
        have hb03' := below_tr hb03 hb33
        have h33 := h3.below hb33
        have hrp : p < r := by rw [hr.out]; exact h3.lt (by simp [hd9])
        rw [← hW3, ← hr.out]
        have hp2 : p < W2.heap.size := h2.lt (by simp [hd9])
        clear hW3 h3 hb03 hx2 q0 q1 PA hb02 h2
        have m0 := (hm3 0 _ rfl).1
        have x0 := (hm3 0 _ rfl).2
        have m1 := (hm3 1 _ rfl).1
        have x1 := (hm3 1 _ rfl).2
        have m2 := (hm3 2 _ rfl).1
        have x2 := (hm3 2 _ rfl).2
        have m3 := (hm3 3 _ rfl).1
        have x3 := (hm3 3 _ rfl).2
        have m4 := (hm3 4 _ rfl).1
        have x4 := (hm3 4 _ rfl).2
        have m5 := (hm3 5 _ rfl).1
        have x5 := (hm3 5 _ rfl).2
        have m6 := (hm3 6 _ rfl).1
        have x6 := (hm3 6 _ rfl).2
        have m7 := (hm3 7 _ rfl).1
        have x7 := (hm3 7 _ rfl).2
        have m8 := (hm3 8 _ rfl).1
        have x8 := (hm3 8 _ rfl).2
        cases ok with
        | false =>
          have hd2 : Hid (decW s.data.toList = (3, zm)) := Lib.hid (by rw [hd.out, hf rfl])
          have b0 := (h33 0 _ rfl).1
          have z0 := (h33 0 _ rfl).2
          have b1 := (h33 1 _ rfl).1
          have z1 := (h33 1 _ rfl).2
          have b2 := (h33 2 _ rfl).1
          have z2 := (h33 2 _ rfl).2
          have b3 := (h33 3 _ rfl).1
          have z3 := (h33 3 _ rfl).2
          have b4 := (h33 4 _ rfl).1
          have z4 := (h33 4 _ rfl).2
          have b5 := (h33 5 _ rfl).1
          have z5 := (h33 5 _ rfl).2
          have b6 := (h33 6 _ rfl).1
          have z6 := (h33 6 _ rfl).2
          have b7 := (h33 7 _ rfl).1
          have z7 := (h33 7 _ rfl).2
          have b8 := (h33 8 _ rfl).1
          have z8 := (h33 8 _ rfl).2
          go_wp2
          generalize hW9 : (((((((((W3.setCell ⟨p, 0, none⟩ _).setCell ⟨p, 1, none⟩ _).setCell ⟨p, 2, none⟩ _).setCell ⟨p, 3, none⟩ _).setCell ⟨p, 4, none⟩ _).setCell ⟨p, 5, none⟩ _).setCell ⟨p, 6, none⟩ _).setCell ⟨p, 7, none⟩ _).setCell ⟨p, 8, none⟩ _) = W9
          obtain ⟨r9, c9, _⟩ := h33.set9 rfl _ _ _ _ _ _ _ _ _ W9 hW9.symm
          refine bodyPost_ret (results_cell_tmp2 rfl _ _ p _ rfl (ML W9 _ _ _ _ _ _ _ _ _ _ r9)) rfl ?_
          exact Fin.out W3 W9 r9 hb03' c9 3 hd2.out
        | true =>
          obtain ⟨hmsg, hown, hfr0⟩ := ht rfl
          have hfr : ∀ b, (Value.slice a n3 c).ownBlock = some b → p < b := fun b hb => Nat.lt_of_lt_of_le hp2 (hfr0 b hb)
          clear hfr0
          have hown3 := (Chg.of_below (fun _ => False) hb33).owns hown (fun _ _ x => x)
          obtain ⟨hrs, hrl⟩ := rowS_own hown3
          have hn3 : n3 ≤ 4611686018427387904 := by have := (msg_small hmsg).1; omega
          have CK := wcheck_any m (msg_small hmsg).2 a n3 c hrl hn3 W3 hrs
          obtain ⟨E, hE⟩ : ∃ E, Hid (chk m = E) := ⟨_, Lib.hid rfl⟩
          unfold msgV at CK
          rw [hE.out] at CK
          have Hrl := Lib.hid hrl
          clear hown hrs hrl
          by_cases hE0 : E = 0
          · have hEi : (E : Int) = 0 := by omega
            have hd2 : Hid (decW s.data.toList = (0, m)) := Lib.hid (by rw [hd.out, hmsg]; simp only; rw [if_pos (by rw [hE.out]; exact hE0)])
            go_upto_region 11 with (go_at_call 39; refine CK.mono ?_; rintro y w4 ⟨rfl, hb4⟩)
            have h4 := h33.below hb4
            have hm4 := hm3.below hb4
            have hb04 := below_tr hb03' hb4
            have hown4 := (Chg.of_below (fun _ => False) hb4).owns hown3 (fun _ _ x => x)
            clear h33 hm3 hb03' hb4 hown3 CK m0 m1 m2 m3 m4 m5 m6 m7 m8 x0 x1 x2 x3 x4 x5 x6 x7 x8
            have b0 := (h4 0 _ rfl).1
            have z0 := (h4 0 _ rfl).2
            have b1 := (h4 1 _ rfl).1
            have z1 := (h4 1 _ rfl).2
            have b2 := (h4 2 _ rfl).1
            have z2 := (h4 2 _ rfl).2
            have b3 := (h4 3 _ rfl).1
            have z3 := (h4 3 _ rfl).2
            have b4 := (h4 4 _ rfl).1
            have z4 := (h4 4 _ rfl).2
            have b5 := (h4 5 _ rfl).1
            have z5 := (h4 5 _ rfl).2
            have b6 := (h4 6 _ rfl).1
            have z6 := (h4 6 _ rfl).2
            have b7 := (h4 7 _ rfl).1
            have z7 := (h4 7 _ rfl).2
            have b8 := (h4 8 _ rfl).1
            have z8 := (h4 8 _ rfl).2
            have m0 := (hm4 0 _ rfl).1
            have x0 := (hm4 0 _ rfl).2
            have m1 := (hm4 1 _ rfl).1
            have x1 := (hm4 1 _ rfl).2
            have m2 := (hm4 2 _ rfl).1
            have x2 := (hm4 2 _ rfl).2
            have m3 := (hm4 3 _ rfl).1
            have x3 := (hm4 3 _ rfl).2
            have m4 := (hm4 4 _ rfl).1
            have x4 := (hm4 4 _ rfl).2
            have m5 := (hm4 5 _ rfl).1
            have x5 := (hm4 5 _ rfl).2
            have m6 := (hm4 6 _ rfl).1
            have x6 := (hm4 6 _ rfl).2
            have m7 := (hm4 7 _ rfl).1
            have x7 := (hm4 7 _ rfl).2
            have m8 := (hm4 8 _ rfl).1
            have x8 := (hm4 8 _ rfl).2
            go_wp2
            generalize hW9 : (((((((((w4.setCell ⟨p, 0, none⟩ _).setCell ⟨p, 1, none⟩ _).setCell ⟨p, 2, none⟩ _).setCell ⟨p, 3, none⟩ _).setCell ⟨p, 4, none⟩ _).setCell ⟨p, 5, none⟩ _).setCell ⟨p, 6, none⟩ _).setCell ⟨p, 7, none⟩ _).setCell ⟨p, 8, none⟩ _) = W9
            obtain ⟨r9, c9, _⟩ := h4.set9 rfl _ _ _ _ _ _ _ _ _ W9 hW9.symm
            refine bodyPost_ret (results_cell_tmp2 rfl _ _ p _ rfl (ML W9 _ _ _ _ _ _ _ _ _ _ r9)) rfl ?_
            rw [hd2.out]
            exact ⟨Chg.below_tr hb04 c9 (fun k hk e => by omega), a, n3, c, Hrl.out, rfl, c9.owns hown4 (fun b hb e => by have := hfr b hb; omega)⟩
          · have hEi : ¬ (E : Int) = 0 := by omega
            have hd2 : Hid (decW s.data.toList = (3, zm)) := Lib.hid (by rw [hd.out, hmsg]; simp only; rw [if_neg (by rw [hE.out]; exact hE0)])
            go_upto_region 10 with (go_at_call 39; refine CK.mono ?_; rintro y w4 ⟨rfl, hb4⟩)
            have h4 := h33.below hb4
            have hb04 := below_tr hb03' hb4
            have b0 := (h4 0 _ rfl).1
            have z0 := (h4 0 _ rfl).2
            have b1 := (h4 1 _ rfl).1
            have z1 := (h4 1 _ rfl).2
            have b2 := (h4 2 _ rfl).1
            have z2 := (h4 2 _ rfl).2
            have b3 := (h4 3 _ rfl).1
            have z3 := (h4 3 _ rfl).2
            have b4 := (h4 4 _ rfl).1
            have z4 := (h4 4 _ rfl).2
            have b5 := (h4 5 _ rfl).1
            have z5 := (h4 5 _ rfl).2
            have b6 := (h4 6 _ rfl).1
            have z6 := (h4 6 _ rfl).2
            have b7 := (h4 7 _ rfl).1
            have z7 := (h4 7 _ rfl).2
            have b8 := (h4 8 _ rfl).1
            have z8 := (h4 8 _ rfl).2
            go_wp2
            generalize hW9 : (((((((((w4.setCell ⟨p, 0, none⟩ _).setCell ⟨p, 1, none⟩ _).setCell ⟨p, 2, none⟩ _).setCell ⟨p, 3, none⟩ _).setCell ⟨p, 4, none⟩ _).setCell ⟨p, 5, none⟩ _).setCell ⟨p, 6, none⟩ _).setCell ⟨p, 7, none⟩ _).setCell ⟨p, 8, none⟩ _) = W9
            obtain ⟨r9, c9, _⟩ := h4.set9 rfl _ _ _ _ _ _ _ _ _ W9 hW9.symm
            refine bodyPost_ret (results_cell_tmp2 rfl _ _ p _ rfl (ML W9 _ _ _ _ _ _ _ _ _ _ r9)) rfl ?_
            exact Fin.out w4 W9 r9 hb04 c9 3 hd2.out
    · have hki : ¬ (k : Int) = 7 := by omega
      have hd : Hid (decW s.data.toList = (5, zm)) := Lib.hid (by unfold decW; rw [hG.out]; simp only; rw [if_neg (by omega), if_pos hk])
      have b0 := (h2 0 _ rfl).1
      have z0 := (h2 0 _ rfl).2
      have b1 := (h2 1 _ rfl).1
      have z1 := (h2 1 _ rfl).2
      have b2 := (h2 2 _ rfl).1
      have z2 := (h2 2 _ rfl).2
      have b3 := (h2 3 _ rfl).1
      have z3 := (h2 3 _ rfl).2
      have b4 := (h2 4 _ rfl).1
      have z4 := (h2 4 _ rfl).2
      have b5 := (h2 5 _ rfl).1
      have z5 := (h2 5 _ rfl).2
      have b6 := (h2 6 _ rfl).1
      have z6 := (h2 6 _ rfl).2
      have b7 := (h2 7 _ rfl).1
      have z7 := (h2 7 _ rfl).2
      have b8 := (h2 8 _ rfl).1
      have z8 := (h2 8 _ rfl).2
      go_wp2
      generalize hW9 : (((((((((W2.setCell ⟨p, 0, none⟩ _).setCell ⟨p, 1, none⟩ _).setCell ⟨p, 2, none⟩ _).setCell ⟨p, 3, none⟩ _).setCell ⟨p, 4, none⟩ _).setCell ⟨p, 5, none⟩ _).setCell ⟨p, 6, none⟩ _).setCell ⟨p, 7, none⟩ _).setCell ⟨p, 8, none⟩ _) = W9
      obtain ⟨r9, c9, _⟩ := h2.set9 rfl _ _ _ _ _ _ _ _ _ W9 hW9.symm
      refine bodyPost_ret (results_cell_tmp2 rfl _ _ p _ rfl (ML W9 _ _ _ _ _ _ _ _ _ _ r9)) rfl ?_
      exact Fin.out W2 W9 r9 hb02 c9 5 hd.out
  · have hei : ¬ (e : Int) = 0 := by omega
    have hd : Hid (decW s.data.toList = (e, zm)) := Lib.hid (by unfold decW; rw [hG.out]; simp only; rw [if_pos he])
    have b0 := (h2 0 _ rfl).1
    have z0 := (h2 0 _ rfl).2
    have b1 := (h2 1 _ rfl).1
    have z1 := (h2 1 _ rfl).2
    have b2 := (h2 2 _ rfl).1
    have z2 := (h2 2 _ rfl).2
    have b3 := (h2 3 _ rfl).1
    have z3 := (h2 3 _ rfl).2
    have b4 := (h2 4 _ rfl).1
    have z4 := (h2 4 _ rfl).2
    have b5 := (h2 5 _ rfl).1
    have z5 := (h2 5 _ rfl).2
    have b6 := (h2 6 _ rfl).1
    have z6 := (h2 6 _ rfl).2
    have b7 := (h2 7 _ rfl).1
    have z7 := (h2 7 _ rfl).2
    have b8 := (h2 8 _ rfl).1
    have z8 := (h2 8 _ rfl).2
    go_wp2
    generalize hW9 : (((((((((W2.setCell ⟨p, 0, none⟩ _).setCell ⟨p, 1, none⟩ _).setCell ⟨p, 2, none⟩ _).setCell ⟨p, 3, none⟩ _).setCell ⟨p, 4, none⟩ _).setCell ⟨p, 5, none⟩ _).setCell ⟨p, 6, none⟩ _).setCell ⟨p, 7, none⟩ _).setCell ⟨p, 8, none⟩ _) = W9
    obtain ⟨r9, c9, _⟩ := h2.set9 rfl _ _ _ _ _ _ _ _ _ W9 hW9.symm
    refine bodyPost_ret (results_cell_tmp2 rfl _ _ p _ rfl (ML W9 _ _ _ _ _ _ _ _ _ _ r9)) rfl ?_
    exact Fin.out W2 W9 r9 hb02 c9 e hd.out
end Go.Proofs.Ytmaebileagfdaaa
