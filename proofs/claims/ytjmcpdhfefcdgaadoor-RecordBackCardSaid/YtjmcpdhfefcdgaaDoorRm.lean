/- Records read by the program: the whole. -/
import Derived.Test.YtjmcpdhfefcdgaaDoorRl
namespace Go.Proofs.YtjmcpdhfefcdgaaDoor
open Go.RowKit Lb Dig Inn

namespace Lb
theorem inNum_suf (l : List UInt8) (e : Nat) : (inNum l e).2.1 <:+ l := by
  unfold inNum; split
  · exact List.suffix_rfl
  · exact List.drop_suffix _ _
theorem inText_suf (l : List UInt8) (e : Nat) (m : Int) : (inText l e m).2.1 <:+ l := by
  unfold inText; split
  · exact List.suffix_rfl
  · exact List.drop_suffix _ _
theorem rdM_suf : ∀ (k : Nat) (l : List UInt8) (e : Nat) (ms : List Mt), (rdM k l e ms).2.1 <:+ l := by
  intro k
  induction k with
  | zero => intro l e ms; exact List.suffix_rfl
  | succ k ih =>
    intro l e ms
    by_cases he : e = 0
    · subst he
      rcases h0 : inNum l 0 with ⟨n, l1, e1⟩
      rcases hm : inMust e1 (decide (n ≤ 4)) 5 with e2
      rcases h1 : inText l1 e2 32 with ⟨t, l2, e3⟩
      rcases h2 : inText l2 e3 64 with ⟨u, l3, e4⟩
      have s0 := inNum_suf l 0
      have s1 := inText_suf l1 e2 32
      have s2 := inText_suf l2 e3 64
      rw [h0] at s0
      rw [h1] at s1
      rw [h2] at s2
      rw [rdM_succ h0 hm h1 h2]
      exact (ih _ _ _).trans (s2.trans (s1.trans s0))
    · rw [rdM_bad he]; exact List.suffix_rfl
theorem rdS_len : ∀ (k : Nat) (l : List UInt8) (e : Nat) (ss : List Smp) {r : List Smp} {l' : List UInt8} {e' : Nat}, rdS k l e ss = (r, l', e') → r.length ≤ ss.length + k := by
  intro k
  induction k with
  | zero => intro l e ss r l' e' h; simp [rdS] at h; rw [← h.1]; exact Nat.le_refl _
  | succ k ih =>
    intro l e ss r l' e' h
    by_cases he : e = 0
    · subst he
      rcases h1 : inText l 0 1024 with ⟨t, l1, e1⟩
      rcases h2 : inLab t e1 with ⟨ls, e2⟩
      rcases h3 : inSig l1 e2 with ⟨a, l2, e3⟩
      rcases h4 : inNum l2 e3 with ⟨v, l3, e4⟩
      rw [rdS_succ h1 h2 h3 h4] at h
      have := ih _ _ _ h
      rw [List.length_append, List.length_singleton] at this
      omega
    · rw [rdS_bad he] at h; simp only [Prod.mk.injEq] at h; rw [← h.1]; omega
theorem takeM_suf (s : List UInt8) (e : Nat) : (takeM s e).2.1 <:+ s := by
  unfold takeM; exact (rdM_suf _ _ _ _).trans (inNum_suf s e)
theorem takeM_drop {s l : List UInt8} {ms : List Mt} {e : Nat} (h : takeM s 0 = (ms, l, e)) : s.drop (s.length - l.length) = l := by
  have := takeM_suf s 0
  rw [h] at this
  exact (List.suffix_iff_eq_drop.mp this).symm
end Lb
theorem OwnC.otherF {F : Nat → Prop} {w w' : World} {B : Nat} {css : List (List Value)} {sm : List Smp} {v : Value} (h : OwnC w B css sm v) (hc : Chg F w w') (hF : ∀ k, F k → k < B) : OwnC w' B css sm v := by
  refine ⟨h.len, fun i cs s h1 h2 => ?_, hc.owns h.own (fun g hg f => by have := h.low g hg; have := hF _ f; omega), h.low, h.lab⟩
  have he := h.each i cs s h1 h2
  obtain ⟨a, n, c, e1, e2, e3⟩ := he
  refine ⟨a, n, c, e1, ?_, e3⟩
  by_cases hs : s.1 = []
  · exact ⟨.inl hs⟩
  · exact e2.keep hc (fun ad e f => by have := h.lab i cs s ad n c h1 h2 hs (by rw [e1, e]; rfl); have := hF _ f; omega)
/-- A record all of whose rows lie above a line. -/
structure RecFr (W : World) (B : Nat) (k : Int) (sm : List Smp) (ms : List Mt) (fr tt : Int) (a : Option Addr) (n c : Nat) (b : Option Addr) (n' c' : Nat) : Prop where
  own : ∃ css, OwnC W B css sm (.slice a n c)
  len : sm.length = n
  mat : RowM W b ms
  len' : ms.length = n'
  le : n ≤ 4611686018427387904
  le' : n' ≤ 4611686018427387904
  rf : -9223372036854775808 ≤ fr ∧ fr < 9223372036854775808
  rt : -9223372036854775808 ≤ tt ∧ tt < 9223372036854775808
  low : ∀ ad, b = some ad → B ≤ ad.block
theorem RecFr.otherF {F : Nat → Prop} {W W' : World} {B : Nat} {k : Int} {sm : List Smp} {ms : List Mt} {fr tt : Int} {a : Option Addr} {n c : Nat} {b : Option Addr} {n' c' : Nat} (h : RecFr W B k sm ms fr tt a n c b n' c') (hc : Chg F W W') (hF : ∀ k, F k → k < B) : RecFr W' B k sm ms fr tt a n c b n' c' := by
  obtain ⟨css, ho⟩ := h.own
  exact ⟨⟨css, ho.otherF hc hF⟩, h.len, RowG.keep h.mat hc (fun ad e f => by have := h.low ad e; have := hF _ f; omega) (fun _ _ x => x), h.len', h.le, h.le', h.rf, h.rt, h.low⟩
theorem RecFr.recIn {W : World} {B : Nat} {k : Int} {sm : List Smp} {ms : List Mt} {fr tt : Int} {a : Option Addr} {n c : Nat} {b : Option Addr} {n' c' : Nat} (h : RecFr W B k sm ms fr tt a n c b n' c') : RecIn W k sm ms fr tt a n c b n' c' := by
  obtain ⟨css, ho⟩ := h.own
  obtain ⟨a4, c4, hv4, hrow4, _⟩ := ho.row
  cases hv4
  exact ⟨hrow4, h.len, h.mat, h.len', h.le, h.le', h.rf, h.rt⟩
/-- What the program's reader of records leaves. -/
structure DcOut (w : World) (R : Rcd × Nat) (y : Ending) (w' : World) : Prop where
  ex : ∃ (a : Option Addr) (n c : Nat) (b : Option Addr) (n' c' : Nat), y = .returned (.tuple #[.agg #[.int .i64 R.1.k, .slice a n c, .slice b n' c', .int .i64 R.1.fr, .int .i64 R.1.tt], .int .i64 (R.2 : Nat)]) ∧ RecIn w' R.1.k R.1.sm R.1.ms R.1.fr R.1.tt a n c b n' c' ∧ Below w.heap.size w w'
theorem recIn_zero (w : World) : RecIn w 0 [] [] 0 0 none 0 0 none 0 0 := ⟨.inl rfl, rfl, .inl rfl, rfl, by omega, by omega, by omega, by omega⟩
/-- Where Decode stands: the record q, the error r, the reader x. -/
structure DAt (w W : World) (q r x : Nat) (row : List Value) (l : List UInt8) : Prop where
  cq : RowV W q row
  cr : RowV W r [.int .i64 0]
  cx : RdAt W x l
  bel : Below w.heap.size w W
  hq : w.heap.size ≤ q
  hr : w.heap.size ≤ r
  hx : w.heap.size ≤ x
  qr : r ≠ q
  qx : x ≠ q
  rx : x ≠ r
theorem DAt.below {w W W' : World} {q r x : Nat} {row : List Value} {l : List UInt8} (h : DAt w W q r x row l) (hb : Below W.heap.size W W') : DAt w W' q r x row l :=
  ⟨h.cq.below hb, h.cr.below hb, RowV.below h.cx hb, below_tr h.bel hb, h.hq, h.hr, h.hx, h.qr, h.qx, h.rx⟩
theorem DAt.read {w W W' : World} {q r x : Nat} {row : List Value} {l l' : List UInt8} (h : DAt w W q r x row l) (hc : Chg (fun k => k = x) W W') (hx : RdAt W' x l') : DAt w W' q r x row l' :=
  ⟨h.cq.keep hc (fun e => h.qx e.symm), h.cr.keep hc (fun e => h.rx e.symm), hx, Chg.below_tr h.bel hc (fun k hk e => by have h1 : k = x := e; have := h.hx; omega), h.hq, h.hr, h.hx, h.qr, h.qx, h.rx⟩
theorem DAt.lost {w W W' : World} {q r x : Nat} {row : List Value} {l : List UInt8} (h : DAt w W q r x row l) (hc : Chg (fun k => k = x) W W') : RowV W' q row ∧ RowV W' r [.int .i64 0] ∧ Below w.heap.size w W' :=
  ⟨h.cq.keep hc (fun e => h.qx e.symm), h.cr.keep hc (fun e => h.rx e.symm), Chg.below_tr h.bel hc (fun k hk e => by have h1 : k = x := e; have := h.hx; omega)⟩
theorem DAt.set {w W : World} {q r x : Nat} {row : List Value} {l : List UInt8} (h : DAt w W q r x row l) (i : Nat) (hi : i < row.length) (v : Value) : DAt w (W.setCell ⟨q, i, none⟩ v) q r x (row.set i v) l := by
  have hc := Chg.setCell W ⟨q, i, none⟩ v
  exact ⟨h.cq.set i hi v, h.cr.keep hc h.qr, RowV.keep h.cx hc h.qx, Chg.below_tr h.bel hc (fun k hk e => by have h1 : k = q := e; have := h.hq; omega), h.hq, h.hr, h.hx, h.qr, h.qx, h.rx⟩
/-- The last region: two loads, the check, two stores. -/
structure InvF (w0 : World) (q r : Nat) (row : List Value) (C : Nat) (D : Nat → Bool) (vals : Nat → Value) (W : World) : Prop where
  chg : Chg (fun k => k = q ∨ k = r) w0 W
  cq : RowV W q row
  res : D 4 = false → RowV W r [.int .i64 0]
  fin : D 4 = true → RowV W r [.int .i64 (C : Nat)]
  v0 : D 0 = true → vals 0 = .agg row.toArray
  v1 : D 1 = true → vals 1 = .agg row.toArray
  v2 : D 2 = true → vals 2 = .int .i64 (C : Nat)
theorem InvF.step {w0 : World} {q r : Nat} {row : List Value} {C : Nat} {D : Nat → Bool} {vals : Nat → Value} {W W' : World} (h : InvF w0 q r row C D vals W) (i : Nat) (hi : i < 3) (h4 : D 4 = false) (v : Value) (hb : Below W.heap.size W W') (hv : v = if i = 2 then .int .i64 (C : Nat) else .agg row.toArray) : InvF w0 q r row C (fun j => j == i || D j) (upd vals i v) W' := by
  have k : ∀ j, (j == i || D j) = true → j ≠ i → D j = true := fun j e n => by
    have : (j == i) = false := by simpa using n
    rw [this, Bool.false_or] at e; exact e
  refine ⟨h.chg.trans (Chg.of_below (fun k => k = q ∨ k = r) hb) (fun _ _ x => x), h.cq.below hb, fun _ => (h.res h4).below hb, fun e => ?_, fun e => ?_, fun e => ?_, fun e => ?_⟩
  · have := k 4 e (by omega); rw [h4] at this; cases this
  all_goals
    unfold upd
    split
    · rename_i hj; subst hj; simpa using hv
    · rename_i hj
      have e2 := k _ e hj
      first | exact h.v0 e2 | exact h.v1 e2 | exact h.v2 e2
theorem InvF.ld0 {w0 : World} {q r : Nat} {row : List Value} {C : Nat} {D : Nat → Bool} {vals : Nat → Value} {W : World} (h : InvF w0 q r row C D vals W) : InvF w0 q r row C (fun j => j == 0 || D j) (upd vals 0 (.agg row.toArray)) W := by
  have k : ∀ j, (j == 0 || D j) = true → j ≠ 0 → D j = true := fun j e n => by
    have : (j == 0) = false := by simpa using n
    rw [this, Bool.false_or] at e; exact e
  refine ⟨h.chg, h.cq, fun e => h.res (by simpa using e), fun e => h.fin (k 4 e (by omega)), fun e => ?_, fun e => ?_, fun e => ?_⟩
  · unfold upd; rw [if_pos rfl]
  · unfold upd; rw [if_neg (by omega)]; exact h.v1 (k _ e (by omega))
  · unfold upd; rw [if_neg (by omega)]; exact h.v2 (k _ e (by omega))
theorem InvF.st3 {w0 : World} {q r : Nat} {row : List Value} {C : Nat} {D : Nat → Bool} {vals : Nat → Value} {W W' : World} (h : InvF w0 q r row C D vals W) (hqr : r ≠ q) (v : Value) (hq : RowV W' q row) (hc : Chg (fun k => k = q) W W') : InvF w0 q r row C (fun j => j == 3 || D j) (upd vals 3 v) W' := by
  have k : ∀ j, (j == 3 || D j) = true → j ≠ 3 → D j = true := fun j e n => by
    have : (j == 3) = false := by simpa using n
    rw [this, Bool.false_or] at e; exact e
  refine ⟨h.chg.trans hc (fun _ _ x => .inl x), hq, fun e => (h.res (by simpa using e)).keep hc hqr, fun e => (h.fin (k 4 e (by omega))).keep hc hqr, fun e => ?_, fun e => ?_, fun e => ?_⟩
  all_goals
    unfold upd
    rw [if_neg (by omega)]
    first | exact h.v0 (k _ e (by omega)) | exact h.v1 (k _ e (by omega)) | exact h.v2 (k _ e (by omega))
theorem InvF.st4 {w0 : World} {q r : Nat} {row : List Value} {C : Nat} {D : Nat → Bool} {vals : Nat → Value} {W : World} (h : InvF w0 q r row C D vals W) (hqr : r ≠ q) (h4 : D 4 = false) (v : Value) : InvF w0 q r row C (fun j => j == 4 || D j) (upd vals 4 v) (W.setCell ⟨r, 0, none⟩ (.int .i64 (C : Nat))) := by
  have k : ∀ j, (j == 4 || D j) = true → j ≠ 4 → D j = true := fun j e n => by
    have : (j == 4) = false := by simpa using n
    rw [this, Bool.false_or] at e; exact e
  have hc := Chg.setCell W ⟨r, 0, none⟩ (.int .i64 (C : Nat))
  refine ⟨h.chg.trans hc (fun _ _ x => .inr x), h.cq.keep hc (fun e => hqr e.symm), (fun e => by simp at e), fun _ => (h.res h4).set 0 (by simp) _, fun e => ?_, fun e => ?_, fun e => ?_⟩
  all_goals
    unfold upd
    rw [if_neg (by omega)]
    first | exact h.v0 (k _ e (by omega)) | exact h.v1 (k _ e (by omega)) | exact h.v2 (k _ e (by omega))

set_option maxRecDepth 100000 in
set_option maxHeartbeats 8000000 in
theorem rdec_any (s : ByteArray) (hs : s.size ≤ 100000) (w : World) :
    Calls Tryd.prog 17 #[.string s] w (DcOut w (decR s.data.toList)) := by
  have hmf : ∀ (fn : Fn) (first cap : Array Value) (w : World), (Instr.makeFunc fn first cap).run Tryd.prog w = .ok (.func fn first cap) w := fun _ _ _ _ => rfl
  obtain ⟨D, hD⟩ : ∃ D, Hid (decR s.data.toList = D) := ⟨_, Lib.hid rfl⟩
  rw [hD.out]
  have Q0 := RowV.new w zRow 25
  have B0 : Below w.heap.size w (w.alloc (.cells zRow.toArray 25)) := (Below.refl _ _).alloc (Nat.le_refl _) _
  have hz0 : (w.alloc (.cells zRow.toArray 25)).heap.size = w.heap.size + 1 := by simp
  have R0 := RowV.new (w.alloc (.cells zRow.toArray 25)) [.int .i64 0] 28
  rw [hz0] at R0
  have B1 : Below (w.alloc (.cells zRow.toArray 25)).heap.size (w.alloc (.cells zRow.toArray 25)) ((w.alloc (.cells zRow.toArray 25)).alloc (.cells #[.int .i64 0] 28)) := (Below.refl _ _).alloc (Nat.le_refl _) _
  have hz1 : ((w.alloc (.cells zRow.toArray 25)).alloc (.cells #[.int .i64 0] 28)).heap.size = w.heap.size + 1 + 1 := by simp
  have Q1 := Q0.below B1
  have B01 := below_tr B0 B1
  clear Q0 B0 B1 hz0
  go_enter_defers Tryd.func17, Tryd.ntmps17
  go_upto_region 3 with (fail)
  change RowV ((w.alloc (.cells #[.int .i64 0, .slice none 0 0, .slice none 0 0, .int .i64 0, .int .i64 0] 25)).alloc (.cells #[.int .i64 0] 28)) _ _ at Q1 R0
  change Below w.heap.size w ((w.alloc (.cells #[.int .i64 0, .slice none 0 0, .slice none 0 0, .int .i64 0, .int .i64 0] 25)).alloc (.cells #[.int .i64 0] 28)) at B01
  change ((w.alloc (.cells #[.int .i64 0, .slice none 0 0, .slice none 0 0, .int .i64 0, .int .i64 0] 25)).alloc (.cells #[.int .i64 0] 28)).heap.size = _ at hz1
  generalize (w.alloc (.cells #[.int .i64 0, .slice none 0 0, .slice none 0 0, .int .i64 0, .int .i64 0] 25)).alloc (.cells #[.int .i64 0] 28) = w1 at Q1 R0 B01 hz1 ⊢
  have Hz1 := Lib.hid hz1
  clear hz1
  obtain ⟨q, hq⟩ : ∃ q, Hid (q = w.heap.size) := ⟨_, Lib.hid rfl⟩
  obtain ⟨r, hr⟩ : ∃ r, Hid (r = w.heap.size + 1) := ⟨_, Lib.hid rfl⟩
  rw [← hr.out] at R0 ⊢
  rw [← hq.out] at Q1 ⊢
  have X0 := RowV.new w1 [.string s] 71
  have B2 : Below w1.heap.size w1 (w1.alloc (.cells #[.string s] 71)) := (Below.refl _ _).alloc (Nat.le_refl _) _
  go_upto_region 4 with (fail)
  generalize w1.alloc (.cells #[.string s] 71) = w2 at X0 B2 ⊢
  obtain ⟨x, hx⟩ : ∃ x, Hid (x = w1.heap.size) := ⟨_, Lib.hid rfl⟩
  rw [← hx.out] at X0 ⊢
  have hqrx : w.heap.size ≤ q ∧ w.heap.size ≤ r ∧ w.heap.size ≤ x ∧ r ≠ q ∧ x ≠ q ∧ x ≠ r ∧ q < x ∧ r < x := by have := hq.out; have := hr.out; have := hx.out; have := Hz1.out; omega
  obtain ⟨q1, q2, q3, q4, q5, q6, q7, q8⟩ := hqrx
  have hA : DAt w w2 q r x zRow s.data.toList := ⟨Q1.below B2, R0.below B2, by unfold RdAt; rw [mkS_toList]; exact X0, below_tr B01 B2, q1, q2, q3, q4, q5, q6⟩
  clear Q1 R0 B01 Hz1 X0 B2 hx hq hr
  have hsl : s.data.toList.length ≤ 100000 := by rw [← size_toList]; exact hs
  obtain ⟨kk, k1, e1, hN⟩ : ∃ n k e, Hid (getNum s.data.toList = (n, k, e)) := ⟨_, _, _, Lib.hid rfl⟩
  have RN := fun W h => rnum_any x s.data.toList hsl W h
  rw [hN.out] at RN
  simp only at RN
  have hi0 := inNum_get hN.out
  obtain ⟨l1, hl1⟩ : ∃ l1, Hid (s.data.toList.drop k1 = l1) := ⟨_, Lib.hid rfl⟩
  have hl1s : l1.length ≤ 100000 := by rw [← hl1.out, List.length_drop]; omega
  have hkk64 := (getNum_facts hN.out).1
  rw [hl1.out] at RN hi0
  by_cases he1 : e1 = 0
  · have He1 := Lib.hid he1
    subst he1
    go_upto_region 5 with (go_at_call 41; refine (RN _ hA.cx).mono ?_; rintro y w3 ⟨hc3, hok3, _⟩; obtain ⟨rfl, hr3⟩ := hok3 rfl)
    have hA3 := hA.read hc3 hr3
    clear hA hc3 hr3 RN
    rcases (by omega : kk = 1 ∨ kk = 2 ∨ (kk ≠ 1 ∧ kk ≠ 2)) with hk | hk | hk
    · have hkb : ((kk : Int) == 1) = true := by rw [beq_iff_eq]; omega
      have hwk : IntKind.i64.wrap (kk : Int) = (kk : Int) := wrap_i64_id _ (by omega) (by omega)
      obtain ⟨n, l2, e3, hn⟩ : ∃ n l e, Hid (inNum l1 0 = (n, l, e)) := ⟨_, _, _, Lib.hid rfl⟩
      obtain ⟨e4, he4⟩ : ∃ e, Hid (inMust e3 (decide (1 ≤ n) && decide (n ≤ 32)) 2 = e) := ⟨_, Lib.hid rfl⟩
      obtain ⟨sm, l, e5, hss⟩ : ∃ ss l e, Hid (rdS n l2 e4 [] = (ss, l, e)) := ⟨_, _, _, Lib.hid rfl⟩
      have CM := fun W h => rcommit_any x l1 n l2 l e3 e4 e5 sm hl1s hn he4 hss W h
      have hbd : Hid (D = finR (⟨1, sm, [], 0, 0⟩, l, e5)) := Lib.hid (by
        rw [← hD.out, decR_eq hi0 (show inMust 0 (decide (kk = 1) || decide (kk = 2)) 5 = 0 from by rw [decide_eq_true hk]; rfl), hk, body_one hn.out he4.out hss.out])
      by_cases he5 : e5 = 0
      · subst he5
        have hsl32 : sm.length ≤ 100000 := by
          have h9 := rdS_len n l2 e4 [] hss.out
          have h4 : e4 = 0 := by
            by_cases h : e4 = 0
            · exact h
            · have h8 := hss.out
              rw [rdS_bad h] at h8
              simp only [Prod.mk.injEq] at h8
              omega
          obtain ⟨_, hb⟩ := inMust_zero (he4.out.trans h4) (by decide)
          simp at hb h9
          omega
        have hfin : Hid (D = finR (⟨(kk : Int), sm, [], 0, 0⟩, l, 0)) := Lib.hid (by rw [hbd.out, hk]; rfl)
        have hB : q < w3.heap.size ∧ r < w3.heap.size := by have h1 := hA3.cq.lt (by simp); have h2 := hA3.cr.lt (by simp); exact ⟨h1, h2⟩
        have z1 := (hA3.cq 1 _ rfl).2
        have Hk := Lib.hid hk
        clear hk
        go_upto_region 8 with (fail)
        go_upto_region 15 with (go_at_call 42; refine (CM _ hA3.cx).mono ?_; rintro y w4 ⟨hc4, hok4, _⟩; obtain ⟨v, css, rfl, hown, hr4⟩ := hok4 rfl; obtain ⟨a, c, rfl, _, _⟩ := hown.row; have hA4 := hA3.read hc4 hr4; have y1 := (hA4.cq 1 _ rfl).1; have z1 := (hA4.cq 1 _ rfl).2)
        have hA := hA4.set 1 (by simp) (.slice a sm.length c)
        simp only [List.set_cons_succ, List.set_cons_zero] at hA
        have hF : RecFr (w4.setCell ⟨q, 1, none⟩ (.slice a sm.length c)) w3.heap.size (kk : Int) sm [] 0 0 a sm.length c none 0 0 := RecFr.otherF ⟨⟨css, hown⟩, rfl, .inl rfl, rfl, by omega, by omega, by omega, by omega, fun ad h => by cases h⟩ (Chg.setCell w4 ⟨q, 1, none⟩ (.slice a sm.length c)) (fun k e => by have h1 : k = q := e; omega)
        generalize w4.setCell ⟨q, 1, none⟩ (.slice a sm.length c) = w5 at hA hF ⊢
        obtain ⟨n, hnn⟩ : ∃ n, sm.length = n := ⟨_, rfl⟩
        rw [hnn] at hA hF ⊢
        obtain ⟨b, hbn⟩ : ∃ b : Option Addr, b = none := ⟨_, rfl⟩
        have k0 := (hA.cq 0 _ rfl).1
        have z0 := (hA.cq 0 _ rfl).2
        clear hbn hown hss hn he4 hbd hA4 hA3 hr4 hc4 y1 z1 CM hnn hsl32
        -- the common end: hA, hF, hfin, kk
        go_upto_region 16 with (fail)
        have hA5 := hA.set 0 (by simp) (.int .i64 (kk : Int))
        have hF5 := hF.otherF (Chg.setCell w5 ⟨q, 0, none⟩ (.int .i64 (kk : Int))) (fun k e => by have h1 : k = q := e; omega)
        generalize w5.setCell ⟨q, 0, none⟩ (.int .i64 (kk : Int)) = w15 at hA5 hF5 ⊢
        simp only [List.set_cons_zero] at hA5
        clear hA hF
        have cx0 := (hA5.cx 0 _ rfl).1
        by_cases hll : l = []
        · have hemp : (mkS l).toList.isEmpty = true := by rw [ByteArray.toList_eq, mkS_data, hll]; rfl
          have Hll := Lib.hid hll
          clear hll
          go_upto_region 17 with (go_at_call 33; refine (rcheck_any _ _ _).mono ?_; rintro y w16 ⟨hck, rfl⟩; first | (obtain rfl := hck) | (obtain ⟨vv, rfl⟩ := hck))
          have CK := fun W h => rchk_any (kk : Int) sm [] 0 0 a n c none 0 0 W h
          obtain ⟨C, hC⟩ : ∃ C, Hid (chkR (kk : Int) sm [] 0 0 = C) := ⟨_, Lib.hid rfl⟩
          rw [hC.out] at CK
          have hfin2 : Hid (D = if C ≠ 0 then (zR, C) else (⟨(kk : Int), sm, [], 0, 0⟩, 0)) := Lib.hid (by rw [hfin.out]; unfold finR; simp only; rw [if_neg (by simp), if_neg (by simp [Hll.out]), hC.out])
          refine wp_region_inv_list (by kernel_rfl) (by kernel_rfl) (InvF w16 q r [.int .i64 (kk : Int), .slice a n c, .slice none 0 0, .int .i64 0, .int .i64 0] C) ?h0 ?hop ?hend
          case h0 => exact ⟨⟨rfl, rfl, rfl, Nat.le_refl _, fun _ _ _ => rfl⟩, hA5.cq, (fun _ => hA5.cr), (fun h => by cases h), (fun h => by cases h), (fun h => by cases h), (fun h => by cases h)⟩
          case hop =>
            refine ⟨fun D vals W hI hD hd hc => ?_, fun D vals W hI hD hd hc => ?_, fun D vals W hI hD hd hc => ?_, fun D vals W hI hD hd hc => ?_, fun D vals W hI hD hd hc => ?_, trivial⟩
            · have e0 := (hI.cq 0 _ rfl).1
              have e1 := (hI.cq 1 _ rfl).1
              have e2 := (hI.cq 2 _ rfl).1
              have e3 := (hI.cq 3 _ rfl).1
              have e4 := (hI.cq 4 _ rfl).1
              have Hst := Lib.hid hI.ld0
              clear hd hc hI
              simp only [fillTo]
              go_simp
              go_wp2
              exact ⟨rfl, Hst.out, trivial, trivial⟩
            · have h4 : D 4 = false := by
                cases h : D 4 with
                | false => rfl
                | true => have h2 := hc 4 2 h (by kernel_rfl); have := hc 2 1 h2 (by kernel_rfl); rw [hD] at this; cases this
              have e0 := (hI.cq 0 _ rfl).1
              have e1 := (hI.cq 1 _ rfl).1
              have e2 := (hI.cq 2 _ rfl).1
              have e3 := (hI.cq 3 _ rfl).1
              have e4 := (hI.cq 4 _ rfl).1
              have Hst := Lib.hid (hI.step 1 (by decide) h4 _ (Below.refl _ _) rfl)
              clear hd hc hI
              simp only [fillTo]
              go_simp
              go_wp2
              exact ⟨rfl, Hst.out, trivial, trivial⟩
            · have h4 : D 4 = false := by
                cases h : D 4 with
                | false => rfl
                | true => have := hc 4 2 h (by kernel_rfl); rw [hD] at this; cases this
              have hv1 : vals 1 = .agg #[.int .i64 (kk : Int), .slice a n c, .slice none 0 0, .int .i64 0, .int .i64 0] := hI.v1 (hd 1 (by kernel_rfl))
              have hrin := (hF5.otherF hI.chg (fun k e => by omega)).recIn
              have Hst := Lib.hid (fun W' hg => hI.step (W' := W') 2 (by decide) h4 _ hg rfl)
              clear hd hc hI
              simp only [fillTo]
              go_simp
              go_wp2_with (go_at_call 14; refine (CK _ hrin).mono ?_; rintro y w17 ⟨rfl, hb17⟩)
              exact ⟨rfl, Hst.out _ hb17, trivial, trivial⟩
            · have hv0 : vals 0 = .agg #[.int .i64 (kk : Int), .slice a n c, .slice none 0 0, .int .i64 0, .int .i64 0] := hI.v0 (hd 0 (by kernel_rfl))
              have e0 := (hI.cq 0 _ rfl).1
              have e1 := (hI.cq 1 _ rfl).1
              have e2 := (hI.cq 2 _ rfl).1
              have e3 := (hI.cq 3 _ rfl).1
              have e4 := (hI.cq 4 _ rfl).1
              have f0 := (hI.cq 0 _ rfl).2
              have f1 := (hI.cq 1 _ rfl).2
              have f2 := (hI.cq 2 _ rfl).2
              have f3 := (hI.cq 3 _ rfl).2
              have f4 := (hI.cq 4 _ rfl).2
              have Hcq := Lib.hid hI.cq
              have Hst := Lib.hid (fun W' v h1 h2 => hI.st3 (W' := W') hA5.qr v h1 h2)
              clear hd hc hI
              simp only [fillTo]
              go_simp
              go_wp2
              generalize hW9 : (((((W.setCell ⟨q, 0, none⟩ _).setCell ⟨q, 1, none⟩ _).setCell ⟨q, 2, none⟩ _).setCell ⟨q, 3, none⟩ _).setCell ⟨q, 4, none⟩ _) = W9
              obtain ⟨r9, c9⟩ := Hcq.out.set5 rfl _ _ _ _ _ W9 hW9.symm
              exact ⟨rfl, Hst.out W9 _ r9 c9, trivial, trivial⟩
            · have h4 : D 4 = false := by simpa using hD
              have hv2 : vals 2 = .int .i64 (C : Nat) := hI.v2 (hd 2 (by kernel_rfl))
              have g0 := (hI.res h4 0 _ rfl).1
              have g1 := (hI.res h4 0 _ rfl).2
              have Hst := Lib.hid (fun v => hI.st4 hA5.qr h4 v)
              clear hd hc hI
              simp only [fillTo]
              go_simp
              go_wp2
              exact ⟨rfl, Hst.out _, trivial, trivial⟩
          case hend =>
            intro vals W hI
            have hrW := hI.fin rfl
            have hqW := hI.cq
            have hrin := (hF5.otherF hI.chg (fun k e => by omega)).recIn
            have hbW : Below w.heap.size w W := Chg.below_tr hA5.bel hI.chg (fun k hk e => by omega)
            clear hI
            simp only [List.size_toArray, List.length_cons, List.length_nil, Nat.reduceAdd, fillTo]
            go_simp
            go_wp2
            by_cases hC0 : C = 0
            · subst hC0
              have hD9 : D = (⟨(kk : Int), sm, [], 0, 0⟩, 0) := by rw [hfin2.out]; simp
              subst hD9
              exact dleave_ok q r W _ _ _ _ _ hqW hrW rfl rfl ⟨_, _, _, _, _, _, rfl, hrin, hbW⟩
            · have hD9 : D = (zR, C) := by rw [hfin2.out, if_pos hC0]
              subst hD9
              exact dleave_err q r W (C : Nat) (by omega) hA5.qr _ _ _ _ _ hqW hrW rfl rfl (fun W' hc => ⟨_, _, _, _, _, _, rfl, recIn_zero _, Chg.below_tr hbW hc (fun k hk e => by have h1 : k = q := e; omega)⟩)
        · have hemp : (mkS l).toList.isEmpty = false := by
            rw [ByteArray.toList_eq, mkS_data]
            cases l with
            | nil => exact absurd rfl hll
            | cons a l => rfl
          have hD9 : D = (zR, 6) := by rw [hfin.out]; unfold finR; simp only; rw [if_neg (by simp), if_pos hll]
          subst hD9
          clear hll
          go_wp2_with (go_at_call 33; refine (rcheck_any _ _ _).mono ?_; rintro y w16 ⟨hck, rfl⟩; first | (obtain rfl := hck) | (obtain ⟨vv, rfl⟩ := hck))
          exact dleave_bad q r _ 6 (by decide) hA5.qr _ _ _ _ _ _ hA5.cq hA5.cr rfl rfl (fun W' hc => ⟨_, _, _, _, _, _, rfl, recIn_zero _, Chg.below_tr hA5.bel hc (fun k hk e => by omega)⟩)
      · have hD9 : D = (zR, e5) := by rw [hbd.out]; exact finR_bad rfl he5
        have He5 := Lib.hid he5
        subst hD9
        clear he5
        go_wp2_with (go_at_call 42; refine (CM _ hA3.cx).mono ?_; rintro y w4 ⟨hc4, _, hbad4⟩; obtain rfl := hbad4 He5.out)
        obtain ⟨b1, b2, b3⟩ := hA3.lost hc4
        exact dleave_bad q r _ (e5 : Nat) (by have := He5.out; omega) q4 _ _ _ _ _ _ b1 b2 rfl rfl (fun W' hc => ⟨_, _, _, _, _, _, rfl, recIn_zero _, Chg.below_tr b3 hc (fun k hk e => by omega)⟩)
    · have hkb : ((kk : Int) == 1) = false := by rw [beq_eq_false_iff_ne]; omega
      have hkb2 : ((kk : Int) == 2) = true := by rw [beq_iff_eq]; omega
      have hwk : IntKind.i64.wrap (kk : Int) = (kk : Int) := wrap_i64_id _ (by omega) (by omega)
      obtain ⟨ms, l2, e3, hT⟩ : ∃ ms l e, Hid (takeM l1 0 = (ms, l, e)) := ⟨_, _, _, Lib.hid rfl⟩
      have hgm : getM l1 = if e3 ≠ 0 then ([], 0, e3) else (ms, l1.length - l2.length, 0) := by unfold getM; rw [hT.out]
      have MG := fun W => mget2_any (mkS l1) (by rw [mkS_size]; exact hl1s) W
      rw [mkS_data] at MG
      have hB : q < w3.heap.size ∧ r < w3.heap.size ∧ x < w3.heap.size := ⟨hA3.cq.lt (by simp), hA3.cr.lt (by simp), RowV.lt hA3.cx (by simp)⟩
      have cx0 := (hA3.cx 0 _ rfl).1
      have hde : Hid (∀ fr tt l3 l4 e4 e5, inSig l2 e3 = (fr, l3, e4) → inSig l3 e4 = (tt, l4, e5) → D = finR (⟨(kk : Int), [], ms, fr, tt⟩, l4, e5)) := Lib.hid (fun fr tt l3 l4 e4 e5 h1 h2 => by
        rw [← hD.out, decR_eq hi0 (show inMust 0 (decide (kk = 1) || decide (kk = 2)) 5 = 0 from by rw [decide_eq_true hk, Bool.or_true]; rfl), body_two (by omega) hT.out h1 h2, hwk])
      have Hk := Lib.hid hk
      clear hk
      by_cases he3 : e3 = 0
      · subst he3
        rw [if_neg (by simp)] at hgm
        have hm8 : ms.length ≤ 8 := by have := (getM_facts l1).1; rw [hgm] at this; exact this
        rw [hgm] at MG
        have hdr := takeM_drop hT.out
        obtain ⟨K, hK⟩ : ∃ K, Hid (l1.length - l2.length = K) := ⟨_, Lib.hid rfl⟩
        rw [hK.out] at hdr MG
        have hKl : K ≤ l1.length := by rw [← hK.out]; omega
        have SK := fun W h => rskip_any x l1 K 0 hKl W h
        rw [hdr] at SK
        have hl2s : l2.length ≤ 100000 := by rw [← hdr, List.length_drop]; omega
        obtain ⟨nf, kf, e4, hS1⟩ : ∃ n k e, Hid (getNum l2 = (n, k, e)) := ⟨_, _, _, Lib.hid rfl⟩
        have RS1 := fun W h => rsigned_any x l2 hl2s W h
        rw [hS1.out] at RS1
        simp only at RS1
        have hfr := zag_rng nf (getNum_facts hS1.out).1
        have hs1 := inSig_ok hS1.out
        obtain ⟨l3, hl3⟩ : ∃ l3, Hid (l2.drop kf = l3) := ⟨_, Lib.hid rfl⟩
        obtain ⟨fr, hfr'⟩ : ∃ z, Hid (zag nf = z) := ⟨_, Lib.hid rfl⟩
        have hl3s : l3.length ≤ 100000 := by rw [← hl3.out, List.length_drop]; omega
        rw [hl3.out, hfr'.out] at RS1 hs1
        rw [hfr'.out] at hfr
        obtain ⟨nt, kt, e5, hS2⟩ : ∃ n k e, Hid (getNum l3 = (n, k, e)) := ⟨_, _, _, Lib.hid rfl⟩
        have RS2 := fun W h => rsigned_any x l3 hl3s W h
        rw [hS2.out] at RS2
        simp only at RS2
        have htt := zag_rng nt (getNum_facts hS2.out).1
        have hs2 := inSig_ok hS2.out
        obtain ⟨l, hl⟩ : ∃ l, Hid (l3.drop kt = l) := ⟨_, Lib.hid rfl⟩
        obtain ⟨tt, htt'⟩ : ∃ z, Hid (zag nt = z) := ⟨_, Lib.hid rfl⟩
        rw [hl.out, htt'.out] at RS2 hs2
        rw [htt'.out] at htt
        have Hs1 := Lib.hid hs1
        have Hs2 := Lib.hid hs2
        clear hs1 hs2 hgm hdr
        go_upto_region 12 with (first
          | (go_at_call 43; refine (MG _).mono ?_; rintro y w4 ⟨b, n', c', rfl, hm4, hn4, hb4, _, hlow4⟩; have hA4 := hA3.below hb4)
          | (go_at_call 44; refine (SK _ hA4.cx).mono ?_; rintro y w5 ⟨hc5, hok5, _⟩; obtain ⟨⟨vv, rfl⟩, hr5⟩ := hok5 rfl))
        have hA5 := hA4.read hc5 hr5
        have hF4 : RecFr w4 w3.heap.size (kk : Int) [] ms fr tt none 0 0 b n' c' := ⟨⟨[], OwnC.nil _ _⟩, rfl, hm4, hn4, by omega, by have h9 : ms.length = n' := hn4; omega, hfr, htt, hlow4⟩
        have hF5 := hF4.otherF hc5 (fun k e => by have h1 : k = x := e; omega)
        have y2 := (hA5.cq 2 _ rfl).1
        have z2 := (hA5.cq 2 _ rfl).2
        clear hA4 hF4 hc5 hr5 hm4 hb4 MG SK cx0 hA3
        go_upto_region 13 with (fail)
        have hA6 := hA5.set 2 (by simp) (.slice b n' c')
        simp only [List.set_cons_succ, List.set_cons_zero] at hA6
        have hF6 := hF5.otherF (Chg.setCell w5 ⟨q, 2, none⟩ (.slice b n' c')) (fun k e => by have h1 : k = q := e; omega)
        generalize w5.setCell ⟨q, 2, none⟩ (.slice b n' c') = w6 at hA6 hF6 ⊢
        clear hA5 hF5 y2 z2
        by_cases he4 : e4 = 0
        · subst he4
          go_upto_region 14 with (go_at_call 45; refine (RS1 _ hA6.cx).mono ?_; rintro y w7 ⟨hc7, hok7, _⟩; obtain ⟨rfl, hr7⟩ := hok7 rfl; have hA7 := hA6.read hc7 hr7; have y3 := (hA7.cq 3 _ rfl).1; have z3 := (hA7.cq 3 _ rfl).2)
          have hA8 := hA7.set 3 (by simp) (.int .i64 fr)
          simp only [List.set_cons_succ, List.set_cons_zero] at hA8
          have hF8 := (hF6.otherF hc7 (fun k e => by have h1 : k = x := e; omega)).otherF (Chg.setCell w7 ⟨q, 3, none⟩ (.int .i64 fr)) (fun k e => by have h1 : k = q := e; omega)
          generalize w7.setCell ⟨q, 3, none⟩ (.int .i64 fr) = w8 at hA8 hF8 ⊢
          clear hA6 hF6 hA7 hc7 hr7 y3 z3 RS1
          by_cases he5 : e5 = 0
          · subst he5
            have hfin : Hid (D = finR (⟨(kk : Int), [], ms, fr, tt⟩, l, 0)) := Lib.hid (hde.out _ _ _ _ _ _ Hs1.out Hs2.out)
            go_upto_region 15 with (go_at_call 45; refine (RS2 _ hA8.cx).mono ?_; rintro y w9 ⟨hc9, hok9, _⟩; obtain ⟨rfl, hr9⟩ := hok9 rfl; have hA9 := hA8.read hc9 hr9; have y4 := (hA9.cq 4 _ rfl).1; have z4 := (hA9.cq 4 _ rfl).2)
            have hA := hA9.set 4 (by simp) (.int .i64 tt)
            simp only [List.set_cons_succ, List.set_cons_zero] at hA
            have hF := (hF8.otherF hc9 (fun k e => by have h1 : k = x := e; omega)).otherF (Chg.setCell w9 ⟨q, 4, none⟩ (.int .i64 tt)) (fun k e => by have h1 : k = q := e; omega)
            generalize w9.setCell ⟨q, 4, none⟩ (.int .i64 tt) = w10 at hA hF ⊢
            have k0 := (hA.cq 0 _ rfl).1
            have z0 := (hA.cq 0 _ rfl).2
            clear hA8 hF8 hA9 hc9 hr9 y4 z4 RS2 hde Hs1 Hs2
            -- the common end: hA, hF, hfin, kk
            go_upto_region 16 with (fail)
            have hA5 := hA.set 0 (by simp) (.int .i64 (kk : Int))
            have hF5 := hF.otherF (Chg.setCell w10 ⟨q, 0, none⟩ (.int .i64 (kk : Int))) (fun k e => by have h1 : k = q := e; omega)
            generalize w10.setCell ⟨q, 0, none⟩ (.int .i64 (kk : Int)) = w15 at hA5 hF5 ⊢
            simp only [List.set_cons_zero] at hA5
            clear hA hF
            have cx0 := (hA5.cx 0 _ rfl).1
            by_cases hll : l = []
            · have hemp : (mkS l).toList.isEmpty = true := by rw [ByteArray.toList_eq, mkS_data, hll]; rfl
              have Hll := Lib.hid hll
              clear hll
              go_upto_region 17 with (go_at_call 33; refine (rcheck_any _ _ _).mono ?_; rintro y w16 ⟨hck, rfl⟩; first | (obtain rfl := hck) | (obtain ⟨vv, rfl⟩ := hck))
              have CK := fun W h => rchk_any (kk : Int) [] ms fr tt none 0 0 b n' c' W h
              obtain ⟨C, hC⟩ : ∃ C, Hid (chkR (kk : Int) [] ms fr tt = C) := ⟨_, Lib.hid rfl⟩
              rw [hC.out] at CK
              have hfin2 : Hid (D = if C ≠ 0 then (zR, C) else (⟨(kk : Int), [], ms, fr, tt⟩, 0)) := Lib.hid (by rw [hfin.out]; unfold finR; simp only; rw [if_neg (by simp), if_neg (by simp [Hll.out]), hC.out])
              refine wp_region_inv_list (by kernel_rfl) (by kernel_rfl) (InvF w16 q r [.int .i64 (kk : Int), .slice none 0 0, .slice b n' c', .int .i64 fr, .int .i64 tt] C) ?h0 ?hop ?hend
              case h0 => exact ⟨⟨rfl, rfl, rfl, Nat.le_refl _, fun _ _ _ => rfl⟩, hA5.cq, (fun _ => hA5.cr), (fun h => by cases h), (fun h => by cases h), (fun h => by cases h), (fun h => by cases h)⟩
              case hop =>
                refine ⟨fun D vals W hI hD hd hc => ?_, fun D vals W hI hD hd hc => ?_, fun D vals W hI hD hd hc => ?_, fun D vals W hI hD hd hc => ?_, fun D vals W hI hD hd hc => ?_, trivial⟩
                · have e0 := (hI.cq 0 _ rfl).1
                  have e1 := (hI.cq 1 _ rfl).1
                  have e2 := (hI.cq 2 _ rfl).1
                  have e3 := (hI.cq 3 _ rfl).1
                  have e4 := (hI.cq 4 _ rfl).1
                  have Hst := Lib.hid hI.ld0
                  clear hd hc hI
                  simp only [fillTo]
                  go_simp
                  go_wp2
                  exact ⟨rfl, Hst.out, trivial, trivial⟩
                · have h4 : D 4 = false := by
                    cases h : D 4 with
                    | false => rfl
                    | true => have h2 := hc 4 2 h (by kernel_rfl); have := hc 2 1 h2 (by kernel_rfl); rw [hD] at this; cases this
                  have e0 := (hI.cq 0 _ rfl).1
                  have e1 := (hI.cq 1 _ rfl).1
                  have e2 := (hI.cq 2 _ rfl).1
                  have e3 := (hI.cq 3 _ rfl).1
                  have e4 := (hI.cq 4 _ rfl).1
                  have Hst := Lib.hid (hI.step 1 (by decide) h4 _ (Below.refl _ _) rfl)
                  clear hd hc hI
                  simp only [fillTo]
                  go_simp
                  go_wp2
                  exact ⟨rfl, Hst.out, trivial, trivial⟩
                · have h4 : D 4 = false := by
                    cases h : D 4 with
                    | false => rfl
                    | true => have := hc 4 2 h (by kernel_rfl); rw [hD] at this; cases this
                  have hv1 : vals 1 = .agg #[.int .i64 (kk : Int), .slice none 0 0, .slice b n' c', .int .i64 fr, .int .i64 tt] := hI.v1 (hd 1 (by kernel_rfl))
                  have hrin := (hF5.otherF hI.chg (fun k e => by omega)).recIn
                  have Hst := Lib.hid (fun W' hg => hI.step (W' := W') 2 (by decide) h4 _ hg rfl)
                  clear hd hc hI
                  simp only [fillTo]
                  go_simp
                  go_wp2_with (go_at_call 14; refine (CK _ hrin).mono ?_; rintro y w17 ⟨rfl, hb17⟩)
                  exact ⟨rfl, Hst.out _ hb17, trivial, trivial⟩
                · have hv0 : vals 0 = .agg #[.int .i64 (kk : Int), .slice none 0 0, .slice b n' c', .int .i64 fr, .int .i64 tt] := hI.v0 (hd 0 (by kernel_rfl))
                  have e0 := (hI.cq 0 _ rfl).1
                  have e1 := (hI.cq 1 _ rfl).1
                  have e2 := (hI.cq 2 _ rfl).1
                  have e3 := (hI.cq 3 _ rfl).1
                  have e4 := (hI.cq 4 _ rfl).1
                  have f0 := (hI.cq 0 _ rfl).2
                  have f1 := (hI.cq 1 _ rfl).2
                  have f2 := (hI.cq 2 _ rfl).2
                  have f3 := (hI.cq 3 _ rfl).2
                  have f4 := (hI.cq 4 _ rfl).2
                  have Hcq := Lib.hid hI.cq
                  have Hst := Lib.hid (fun W' v h1 h2 => hI.st3 (W' := W') hA5.qr v h1 h2)
                  clear hd hc hI
                  simp only [fillTo]
                  go_simp
                  go_wp2
                  generalize hW9 : (((((W.setCell ⟨q, 0, none⟩ _).setCell ⟨q, 1, none⟩ _).setCell ⟨q, 2, none⟩ _).setCell ⟨q, 3, none⟩ _).setCell ⟨q, 4, none⟩ _) = W9
                  obtain ⟨r9, c9⟩ := Hcq.out.set5 rfl _ _ _ _ _ W9 hW9.symm
                  exact ⟨rfl, Hst.out W9 _ r9 c9, trivial, trivial⟩
                · have h4 : D 4 = false := by simpa using hD
                  have hv2 : vals 2 = .int .i64 (C : Nat) := hI.v2 (hd 2 (by kernel_rfl))
                  have g0 := (hI.res h4 0 _ rfl).1
                  have g1 := (hI.res h4 0 _ rfl).2
                  have Hst := Lib.hid (fun v => hI.st4 hA5.qr h4 v)
                  clear hd hc hI
                  simp only [fillTo]
                  go_simp
                  go_wp2
                  exact ⟨rfl, Hst.out _, trivial, trivial⟩
              case hend =>
                intro vals W hI
                have hrW := hI.fin rfl
                have hqW := hI.cq
                have hrin := (hF5.otherF hI.chg (fun k e => by omega)).recIn
                have hbW : Below w.heap.size w W := Chg.below_tr hA5.bel hI.chg (fun k hk e => by omega)
                clear hI
                simp only [List.size_toArray, List.length_cons, List.length_nil, Nat.reduceAdd, fillTo]
                go_simp
                go_wp2
                by_cases hC0 : C = 0
                · subst hC0
                  have hD9 : D = (⟨(kk : Int), [], ms, fr, tt⟩, 0) := by rw [hfin2.out]; simp
                  subst hD9
                  exact dleave_ok q r W _ _ _ _ _ hqW hrW rfl rfl ⟨_, _, _, _, _, _, rfl, hrin, hbW⟩
                · have hD9 : D = (zR, C) := by rw [hfin2.out, if_pos hC0]
                  subst hD9
                  exact dleave_err q r W (C : Nat) (by omega) hA5.qr _ _ _ _ _ hqW hrW rfl rfl (fun W' hc => ⟨_, _, _, _, _, _, rfl, recIn_zero _, Chg.below_tr hbW hc (fun k hk e => by have h1 : k = q := e; omega)⟩)
            · have hemp : (mkS l).toList.isEmpty = false := by
                rw [ByteArray.toList_eq, mkS_data]
                cases l with
                | nil => exact absurd rfl hll
                | cons a l => rfl
              have hD9 : D = (zR, 6) := by rw [hfin.out]; unfold finR; simp only; rw [if_neg (by simp), if_pos hll]
              subst hD9
              clear hll
              go_wp2_with (go_at_call 33; refine (rcheck_any _ _ _).mono ?_; rintro y w16 ⟨hck, rfl⟩; first | (obtain rfl := hck) | (obtain ⟨vv, rfl⟩ := hck))
              exact dleave_bad q r _ 6 (by decide) hA5.qr _ _ _ _ _ _ hA5.cq hA5.cr rfl rfl (fun W' hc => ⟨_, _, _, _, _, _, rfl, recIn_zero _, Chg.below_tr hA5.bel hc (fun k hk e => by omega)⟩)
          · have hD9 : D = (zR, e5) := by rw [hde.out _ _ _ _ _ _ Hs1.out Hs2.out]; exact finR_bad rfl he5
            have He5 := Lib.hid he5
            subst hD9
            clear he5
            go_wp2_with (go_at_call 45; refine (RS2 _ hA8.cx).mono ?_; rintro y w9 ⟨hc9, _, hbad9⟩; obtain rfl := hbad9 He5.out)
            obtain ⟨b1, b2, b3⟩ := hA8.lost hc9
            exact dleave_bad q r _ (e5 : Nat) (by have := He5.out; omega) q4 _ _ _ _ _ _ b1 b2 rfl rfl (fun W' hc => ⟨_, _, _, _, _, _, rfl, recIn_zero _, Chg.below_tr b3 hc (fun k hk e => by omega)⟩)
        · have hD9 : D = (zR, e4) := by rw [hde.out _ _ _ _ _ _ Hs1.out (inSig_bad he4)]; exact finR_bad rfl he4
          have He4 := Lib.hid he4
          subst hD9
          clear he4
          go_wp2_with (go_at_call 45; refine (RS1 _ hA6.cx).mono ?_; rintro y w7 ⟨hc7, _, hbad7⟩; obtain rfl := hbad7 He4.out)
          obtain ⟨b1, b2, b3⟩ := hA6.lost hc7
          exact dleave_bad q r _ (e4 : Nat) (by have := He4.out; omega) q4 _ _ _ _ _ _ b1 b2 rfl rfl (fun W' hc => ⟨_, _, _, _, _, _, rfl, recIn_zero _, Chg.below_tr b3 hc (fun k hk e => by omega)⟩)
      · rw [if_pos he3] at hgm
        rw [hgm] at MG
        have SK := fun W h => rskip_any x l1 0 e3 (Nat.zero_le _) W h
        have hD9 : D = (zR, e3) := by rw [hde.out _ _ _ _ _ _ (inSig_bad he3) (inSig_bad he3)]; exact finR_bad rfl he3
        have He3 := Lib.hid he3
        subst hD9
        clear he3 hgm
        go_wp2_with (first
          | (go_at_call 43; refine (MG _).mono ?_; rintro y w4 ⟨b, n', c', rfl, _, _, hb4, _, _⟩; have hA4 := hA3.below hb4)
          | (go_at_call 44; refine (SK _ hA4.cx).mono ?_; rintro y w5 ⟨hc5, _, hbad5⟩; obtain rfl := hbad5 He3.out))
        obtain ⟨b1, b2, b3⟩ := hA4.lost hc5
        exact dleave_bad q r _ (e3 : Nat) (by have := He3.out; omega) q4 _ _ _ _ _ _ b1 b2 rfl rfl (fun W' hc => ⟨_, _, _, _, _, _, rfl, recIn_zero _, Chg.below_tr b3 hc (fun k hk e => by omega)⟩)
    · have hk1 : ((kk : Int) == 1) = false := by rw [beq_eq_false_iff_ne]; omega
      have hk2 : ((kk : Int) == 2) = false := by rw [beq_eq_false_iff_ne]; omega
      have hD9 : D = (zR, 5) := by
        rw [← hD.out, decR_eq hi0 (show inMust 0 (decide (kk = 1) || decide (kk = 2)) 5 = 5 from by rw [decide_eq_false hk.1, decide_eq_false hk.2]; rfl)]
        exact finR_bad (body_bad (by decide)) (by decide)
      subst hD9
      have e0 := (hA3.cq 0 _ rfl).1
      have e1 := (hA3.cq 1 _ rfl).1
      have e2 := (hA3.cq 2 _ rfl).1
      have e3 := (hA3.cq 3 _ rfl).1
      have e4 := (hA3.cq 4 _ rfl).1
      have f0 := (hA3.cq 0 _ rfl).2
      have f1 := (hA3.cq 1 _ rfl).2
      have f2 := (hA3.cq 2 _ rfl).2
      have f3 := (hA3.cq 3 _ rfl).2
      have f4 := (hA3.cq 4 _ rfl).2
      have g0 := (hA3.cr 0 _ rfl).1
      have g1 := (hA3.cr 0 _ rfl).2
      go_wp2
      generalize hW9 : (((((w3.setCell ⟨q, 0, none⟩ _).setCell ⟨q, 1, none⟩ _).setCell ⟨q, 2, none⟩ _).setCell ⟨q, 3, none⟩ _).setCell ⟨q, 4, none⟩ _) = W9
      obtain ⟨r9, c9⟩ := hA3.cq.set5 rfl _ _ _ _ _ W9 hW9.symm
      have cr9 := hA3.cr.keep c9 q4
      have c10 := Chg.setCell W9 ⟨r, 0, none⟩ (.int .i64 5)
      exact dleave_err q r _ 5 (by decide) q4 _ _ _ _ _ (r9.keep c10 (fun e => q4 e.symm)) (cr9.set 0 (by simp) _) rfl rfl (fun W' hc => ⟨_, _, _, _, _, _, rfl, recIn_zero _, Chg.below_tr (Chg.below_tr (Chg.below_tr hA3.bel c9 (fun k hk e => by have h1 : k = q := e; omega)) c10 (fun k hk e => by have h1 : k = r := e; omega)) hc (fun k hk e => by have h1 : k = q := e; omega)⟩)
  · have hD9 : D = (zR, e1) := by
      rw [← hD.out, decR_eq hi0 (inMust_bad he1)]
      exact finR_bad (body_bad he1) he1
    have He1 := Lib.hid he1
    subst hD9
    clear he1
    go_wp2_with (go_at_call 41; refine (RN _ hA.cx).mono ?_; rintro y w3 ⟨hc3, _, hbad3⟩; obtain rfl := hbad3 He1.out)
    obtain ⟨b1, b2, b3⟩ := hA.lost hc3
    exact dleave_bad q r _ (e1 : Nat) (by have := He1.out; omega) q4 _ _ _ _ _ _ b1 b2 rfl rfl (fun W' hc => ⟨_, _, _, _, _, _, rfl, recIn_zero _, Chg.below_tr b3 hc (fun k hk e => by omega)⟩)
end Go.Proofs.YtjmcpdhfefcdgaaDoor
