/- Records: plain, and what the program's check finds. -/
import Derived.Test.YtjmcpdhfefcdgaaDoorRa
import Derived.Test.YtjmcpdhfefcdgaaDoorMo
import Derived.Test.YtjmcpdhfefcdgaaDoorLf
namespace Go.Proofs.YtjmcpdhfefcdgaaDoor
open Go.RowKit Lb Dig Go.ChangeShapes Go.WideShapes

abbrev Smp := List Pr × Int × Nat
namespace Lb
def badS (sm : List Smp) : Bool := sm.any fun s => decide (chkL s.1 ≠ 0)
/-- What is wrong with a record. -/
def chkR (k : Int) (sm : List Smp) (ms : List Mt) (fr tt : Int) : Nat :=
  if k = 1 then (if ms.length ≠ 0 ∨ fr ≠ 0 ∨ tt ≠ 0 then 3 else if sm.length < 1 ∨ 32 < sm.length then 2 else if badS sm = true then 16 else 0)
  else if k = 2 then (if sm.length ≠ 0 then 3 else if chkM ms ≠ 0 then chkM ms else if tt < fr then 9 else 0) else 5
theorem bad_drop {sm : List Smp} {j : Nat} {s : Smp} (h : sm[j]? = some s) : badS (sm.drop j) = (decide (chkL s.1 ≠ 0) || badS (sm.drop (j + 1))) := by
  have h1 : j < sm.length := by
    rcases Nat.lt_or_ge j sm.length with h1 | h1
    · exact h1
    · rw [List.getElem?_eq_none h1] at h; cases h
  rw [List.getElem?_eq_getElem h1] at h
  rw [List.drop_eq_getElem_cons h1, Option.some.inj h]
  rfl
end Lb
/-- A sample's cells: its labels lie somewhere, its time, its value. -/
def isSm (w : World) (cs : List Value) (s : Smp) : Prop :=
  ∃ (a : Option Addr) (n c : Nat), cs = [.slice a n c, .int .i64 s.2.1, .int .u64 (s.2.2 : Nat)] ∧ RowQ w a s.1 ∧ s.1.length = n ∧ ((a = none → c = 0) ∧ n ≤ c) ∧ n * 32 ≤ 140737488351232 ∧ (∀ p ∈ s.1, p.1.size ≤ 140737488351232 ∧ p.2.size ≤ 140737488351232) ∧ (-9223372036854775808 ≤ s.2.1 ∧ s.2.1 < 9223372036854775808) ∧ s.2.2 < 18446744073709551616
theorem isSm.below {w w' : World} {cs : List Value} {s : Smp} (h : isSm w cs s) (hb : Below w.heap.size w w') : isSm w' cs s := by
  obtain ⟨a, n, c, h1, h2, h3⟩ := h
  exact ⟨a, n, c, h1, h2.below hb, h3⟩
abbrev RowSm (w : World) (a : Option Addr) (l : List Smp) : Prop := RowG isSm 3 w a l
theorem RowSm.below {w w' : World} {a : Option Addr} {l : List Smp} (h : RowSm w a l) (hb : Below w.heap.size w w') : RowSm w' a l := RowG.keep h (Chg.of_below (fun _ => False) hb) (fun _ _ x => x) (fun _ _ x => x.below hb)
theorem RowSm.at3 {w : World} {x : Addr} {l : List Smp} (h : RowSm w (some x) l) {i : Nat} {s : Smp} (hy : l[i]? = some s) :
    ∃ (a : Option Addr) (n c : Nat), w.cell? (x.add (i * 3)) = some (.slice a n c) ∧ w.cell? ⟨(x.add (i * 3)).block, (x.add (i * 3)).off + 1, none⟩ = some (.int .i64 s.2.1) ∧ w.cell? ⟨(x.add (i * 3)).block, (x.add (i * 3)).off + 2, none⟩ = some (.int .u64 (s.2.2 : Nat)) ∧
      RowQ w a s.1 ∧ s.1.length = n ∧ ((a = none → c = 0) ∧ n ≤ c) ∧ n * 32 ≤ 140737488351232 ∧ (∀ p ∈ s.1, p.1.size ≤ 140737488351232 ∧ p.2.size ≤ 140737488351232) ∧ (-9223372036854775808 ≤ s.2.1 ∧ s.2.1 < 9223372036854775808) ∧ s.2.2 < 18446744073709551616 := by
  obtain ⟨cs, _, h2, a, n, c, rfl, h3⟩ := RowG.at_ h hy
  have c1 := h2 1 _ rfl
  have c2 := h2 2 _ rfl
  rw [add_field _ _ _ (by decide)] at c1 c2
  exact ⟨a, n, c, h2 0 _ rfl, c1, c2, h3⟩
/-- A record, its rows lying somewhere. -/
structure RecIn (w : World) (k : Int) (sm : List Smp) (ms : List Mt) (fr tt : Int) (a : Option Addr) (n c : Nat) (b : Option Addr) (n' c' : Nat) : Prop where
  sam : RowSm w a sm
  len : sm.length = n
  mat : RowM w b ms
  len' : ms.length = n'
  le : n ≤ 4611686018427387904
  le' : n' ≤ 4611686018427387904
  rf : -9223372036854775808 ≤ fr ∧ fr < 9223372036854775808
  rt : -9223372036854775808 ≤ tt ∧ tt < 9223372036854775808
theorem RecIn.below {w w' : World} {k : Int} {sm : List Smp} {ms : List Mt} {fr tt : Int} {a : Option Addr} {n c : Nat} {b : Option Addr} {n' c' : Nat} (h : RecIn w k sm ms fr tt a n c b n' c') (hb : Below w.heap.size w w') : RecIn w' k sm ms fr tt a n c b n' c' :=
  ⟨RowSm.below h.sam hb, h.len, RowM.below h.mat hb, h.len', h.le, h.le', h.rf, h.rt⟩

theorem load_errno (W : World) (q : Nat) (v : Value) (h : RowV W q [v]) : (loadVar 28 ⟨q, 0, none⟩).run Tryd.prog W = .ok v W := by
  have hc := (h 0 _ rfl).1
  simp [loadVar, Sem.run_bind, Tryd.isAgg28, hc]
section
variable {R : Ending → World → Prop} {tmps : Array Value}
/-- A frame of Check is left, nothing was thrown. -/
theorem leave_ok (q : Nat) (W : World) (v : Value) (hq : RowV W q [v]) (ht : tmps.getD 2 undef = .pointer (some ⟨q, 0, none⟩)) (hR : R (.returned v) W) :
    Leaves Tryd.prog Tryd.f14 tmps R [{ target := .fn (Fn.func 32) #[], args := #[.pointer (some ⟨q, 0, none⟩)] }] .returning W := by
  refine leaves_cons (f := 32) (args := #[.pointer (some ⟨q, 0, none⟩)]) (by simp) (by simp [go_sem]) ?_
  refine (caught_idle q W).mono ?_
  rintro e u' w'' ⟨⟨v2, rfl⟩, rfl, rfl⟩
  exact ⟨_, results_cell_tmp1 rfl _ _ q _ ht (load_errno _ q v hq), hR⟩
/-- An error was thrown. -/
theorem leave_bad (q : Nat) (W : World) (e : Int) (v : Value) (hq : RowV W q [v]) (ht : tmps.getD 2 undef = .pointer (some ⟨q, 0, none⟩)) (hR : R (.returned (.int .i64 e)) (W.setCell ⟨q, 0, none⟩ (.int .i64 e))) :
    Leaves Tryd.prog Tryd.f14 tmps R [{ target := .fn (Fn.func 32) #[], args := #[.pointer (some ⟨q, 0, none⟩)] }] (.panicking (thrown e)) W := by
  refine leaves_cons (f := 32) (args := #[.pointer (some ⟨q, 0, none⟩)]) (by simp) (by simp [go_sem]) ?_
  refine (caught_thrown q e v W (hq 0 _ rfl).1 (hq 0 _ rfl).2).mono ?_
  rintro e u' w'' ⟨⟨v2, rfl⟩, rfl, rfl⟩
  exact ⟨_, results_cell_tmp1 rfl _ _ q _ ht (load_errno _ q _ (hq.set 0 (by simp) _)), hR⟩
end
/-- What stands in Check's memory. -/
structure CkAt (w W : World) (p q : Nat) (row : List Value) (x : Value) : Prop where
  box : RowV W p row
  res : RowV W q [x]
  bel : Below w.heap.size w W
  hq : w.heap.size ≤ q
  ne : p ≠ q
theorem CkAt.below {w W W' : World} {p q : Nat} {row : List Value} {x : Value} (h : CkAt w W p q row x) (hb : Below W.heap.size W W') : CkAt w W' p q row x :=
  ⟨h.box.below hb, h.res.below hb, below_tr h.bel hb, h.hq, h.ne⟩
theorem CkAt.set {w W : World} {p q : Nat} {row : List Value} {x : Value} (h : CkAt w W p q row x) (y : Value) : CkAt w (W.setCell ⟨q, 0, none⟩ y) p q row y :=
  ⟨h.box.keep (Chg.setCell W ⟨q, 0, none⟩ _) h.ne, h.res.set 0 (by simp) _, Chg.below_tr h.bel (Chg.setCell W ⟨q, 0, none⟩ _) (fun j hj e => by have h1 : j = q := e; have := h.hq; omega), h.hq, h.ne⟩
theorem CkAt.new (w : World) (row : List Value) (x : Value) (t1 t2 : TypeId) : CkAt w ((w.alloc (.cells row.toArray t1)).alloc (.cells #[x] t2)) w.heap.size (w.heap.size + 1) row x := by
  have hs : (w.alloc (.cells row.toArray t1)).heap.size = w.heap.size + 1 := by simp
  have h1 := RowV.new w row t1
  have b1 : Below w.heap.size w (w.alloc (.cells row.toArray t1)) := (Below.refl _ _).alloc (Nat.le_refl _) _
  have h2 := RowV.new (w.alloc (.cells row.toArray t1)) [x] t2
  have b2 : Below (w.alloc (.cells row.toArray t1)).heap.size (w.alloc (.cells row.toArray t1)) ((w.alloc (.cells row.toArray t1)).alloc (.cells #[x] t2)) := (Below.refl _ _).alloc (Nat.le_refl _) _
  rw [hs] at h2
  exact ⟨h1.below b2, h2, below_tr b1 b2, by omega, by omega⟩

set_option maxRecDepth 100000 in
set_option maxHeartbeats 8000000 in
theorem rchk_any (k : Int) (sm : List Smp) (ms : List Mt) (fr tt : Int) (a : Option Addr) (n c : Nat) (b : Option Addr) (n' c' : Nat) (w : World) (hr : RecIn w k sm ms fr tt a n c b n' c') :
    Calls Tryd.prog 14 #[.agg #[.int .i64 k, .slice a n c, .slice b n' c', .int .i64 fr, .int .i64 tt]] w fun e w' => e = .returned (.int .i64 (chkR k sm ms fr tt : Nat)) ∧ Below w.heap.size w w' := by
  obtain ⟨E, hE⟩ : ∃ E, Hid (chkR k sm ms fr tt = E) := ⟨_, Lib.hid rfl⟩
  rw [hE.out]
  have hC := CkAt.new w [.int .i64 k, .slice a n c, .slice b n' c', .int .i64 fr, .int .i64 tt] (.int .i64 0) 25 28
  go_enter_defers Tryd.func14, Tryd.ntmps14
  go_upto_region 2 with (fail)
  change CkAt w ((w.alloc (.cells #[.int .i64 k, .slice a n c, .slice b n' c', .int .i64 fr, .int .i64 tt] 25)).alloc (.cells #[.int .i64 0] 28)) _ _ _ _ at hC
  generalize (w.alloc (.cells #[.int .i64 k, .slice a n c, .slice b n' c', .int .i64 fr, .int .i64 tt] 25)).alloc (.cells #[.int .i64 0] 28) = W1 at hC ⊢
  generalize w.heap.size + 1 = q at hC ⊢
  generalize hp : w.heap.size = p at hC ⊢
  clear hp
  obtain ⟨hsam, hn, hmat, hn', hle, hle', _, _⟩ := hr
  have k0 := (hC.box 0 _ rfl).1
  have k1 := (hC.box 1 _ rfl).1
  have k2 := (hC.box 2 _ rfl).1
  have k3 := (hC.box 3 _ rfl).1
  have k4 := (hC.box 4 _ rfl).1
  have z0 := (hC.res 0 _ rfl).2
  have y0 := (hC.res 0 _ rfl).1
  have hsam1 := RowSm.below hsam hC.bel
  have hmat1 := RowM.below hmat hC.bel
  clear hsam hmat
  rcases Decidable.em (k = 1) with rfl | hk1
  · have hch : Hid (E = if ms.length ≠ 0 ∨ fr ≠ 0 ∨ tt ≠ 0 then 3 else if sm.length < 1 ∨ 32 < sm.length then 2 else if badS sm = true then 16 else 0) := Lib.hid (by rw [← hE.out]; unfold chkR; rw [if_pos rfl])
    clear hE
    obtain ⟨B1, hB1⟩ : ∃ x, ((n' : Int) == 0) = x := ⟨_, rfl⟩
    obtain ⟨B2, hB2⟩ : ∃ x, (fr == 0) = x := ⟨_, rfl⟩
    obtain ⟨B3, hB3⟩ : ∃ x, (tt == 0) = x := ⟨_, rfl⟩
    have H123 : Hid ((ms.length ≠ 0 ∨ fr ≠ 0 ∨ tt ≠ 0) ↔ ¬ (B1 = true ∧ B2 = true ∧ B3 = true)) := Lib.hid (by
      rw [← hB1, ← hB2, ← hB3, hn']; simp only [beq_iff_eq]; omega)
    by_cases h3 : B1 = true ∧ B2 = true ∧ B3 = true
    · obtain ⟨rfl, rfl, rfl⟩ := h3
      have hch2 : Hid (E = if n < 1 ∨ 32 < n then 2 else if badS sm = true then 16 else 0) := Lib.hid (by rw [hch.out, if_neg (by rw [H123.out]; simp), hn])
      clear H123 hch
      rcases (by omega : n < 1 ∨ (1 ≤ n ∧ 32 < n) ∨ (1 ≤ n ∧ n ≤ 32)) with h1 | ⟨h1, h32⟩ | ⟨h1, h32⟩
      · have hi : ¬ (1 : Int) ≤ (n : Int) := by omega
        have hE2 : E = 2 := by rw [hch2.out, if_pos (.inl h1)]
        subst hE2
        go_wp2_with (first
          | (go_at_call 33; refine (rcheck_any _ _ _).mono ?_; rintro y w2 ⟨h, rfl⟩; first | (obtain rfl := h) | (obtain ⟨vv, rfl⟩ := h)))
        exact leave_bad q _ _ _ hC.res rfl ⟨rfl, (hC.set _).bel⟩
      · have hi : (1 : Int) ≤ (n : Int) := by omega
        have hi2 : ¬ (n : Int) ≤ 32 := by omega
        have hdb : decide ((n : Int) ≤ 32) = false := decide_eq_false hi2
        have hE2 : E = 2 := by rw [hch2.out, if_pos (.inr h32)]
        subst hE2
        go_wp2_with (first
          | (go_at_call 33; refine (rcheck_any _ _ _).mono ?_; rintro y w2 ⟨h, rfl⟩; first | (obtain rfl := h) | (obtain ⟨vv, rfl⟩ := h)))
        exact leave_bad q _ _ _ hC.res rfl ⟨rfl, (hC.set _).bel⟩
      · have hi : (1 : Int) ≤ (n : Int) := by omega
        have hi2 : (n : Int) ≤ 32 := by omega
        have hE2 : Hid (E = if badS (sm.drop 0) = true then 16 else 0) := Lib.hid (by rw [hch2.out, if_neg (by omega), List.drop_zero])
        clear hch2
        go_upto_region 8 with (go_at_call 33; refine (rcheck_any _ _ _).mono ?_; rintro y w2 ⟨h, rfl⟩; first | (obtain rfl := h) | (obtain ⟨vv, rfl⟩ := h))
        go_loopw [39] (fun v39 wt => ∃ (j : Nat), j ≤ n ∧ v39 = .int .i64 j ∧ Hid (E = if badS (sm.drop j) = true then 16 else 0) ∧ RowSm wt a sm ∧ CkAt w wt p q [.int .i64 1, .slice a n c, .slice b n' c', .int .i64 fr, .int .i64 tt] (.int .i64 0)) (fun v39 _ => n - (intOf v39).toNat)
        case atStart => exact ⟨0, by omega, rfl, hE2, hsam1, hC⟩
        case round =>
          clear hC hsam1 hmat1 k0 k1 k2 k3 k4 z0 y0
          obtain ⟨j, hj, rfl, hok, hrow, hC⟩ := hrel
          by_cases hlt : j < n
          · have hji : (j : Int) < (n : Int) := by omega
            obtain ⟨⟨ls, t, v⟩, hp⟩ : ∃ p, sm[j]? = some p := ⟨_, List.getElem?_eq_getElem (by omega)⟩
            obtain ⟨x, rfl⟩ := RowG.some_ hrow hp
            obtain ⟨la, ln, lc, c0, c1, c2, hq, hln, _, hb32, hsz, _, _⟩ := RowSm.at3 hrow hp
            simp only at c1 c2 hq hln hsz
            have hstep := Lib.hid (bad_drop hp)
            have LC := fun W h => lcheck_any ls la ln lc hln (by omega) (fun p hp => by have := hsz p hp; omega) W h
            obtain ⟨C, hCC⟩ : ∃ C, Hid (chkL ls = C) := ⟨_, Lib.hid rfl⟩
            rw [hCC.out] at LC
            have R1 := RowV.new wr [.slice la ln lc, .int .i64 t, .int .u64 (v : Nat)] 43
            have B1 : Below wr.heap.size wr (wr.alloc (.cells #[.slice la ln lc, .int .i64 t, .int .u64 (v : Nat)] 43)) := (Below.refl _ _).alloc (Nat.le_refl _) _
            clear hp hsz
            go_upto_region 10 with (fail)
            generalize wr.alloc (.cells #[.slice la ln lc, .int .i64 t, .int .u64 (v : Nat)] 43) = w3 at R1 B1 ⊢
            generalize wr.heap.size = g at R1 ⊢
            have r0 := (R1 0 _ rfl).1
            have hC3 := hC.below B1
            have hrow3 := RowSm.below hrow B1
            have hq3 := hq.below B1
            clear hC hrow hq c0 c1 c2 R1 B1
            by_cases hC0 : C = 0
            · have hCb : ((C : Int) == 0) = true := by rw [beq_iff_eq]; omega
              have hnext : Hid (E = if badS (sm.drop (j + 1)) = true then 16 else 0) := Lib.hid (by rw [hok.out, hstep.out]; simp only; rw [hCC.out, decide_eq_false (by simpa using hC0), Bool.false_or])
              go_wp2_with (first
                | (go_at_call 34; refine (LC _ hq3).mono ?_; rintro y w4 ⟨rfl, hb4⟩)
                | (go_at_call 33; refine (rcheck_any _ _ _).mono ?_; rintro y w5 ⟨h, rfl⟩; first | (obtain rfl := h) | (obtain ⟨vv, rfl⟩ := h)))
              go_roundw
              case rel => exact ⟨j + 1, by omega, by go_num, hnext, RowSm.below hrow3 hb4, hC3.below hb4⟩
              case measure => simp [intOf]; omega
            · have hCb : ((C : Int) == 0) = false := by rw [beq_eq_false_iff_ne]; omega
              have hE3 : E = 16 := by rw [hok.out, hstep.out]; simp only; rw [hCC.out, decide_eq_true (by simpa using hC0), Bool.true_or, if_pos rfl]
              subst hE3
              go_wp2_with (first
                | (go_at_call 34; refine (LC _ hq3).mono ?_; rintro y w4 ⟨rfl, hb4⟩)
                | (go_at_call 33; refine (rcheck_any _ _ _).mono ?_; rintro y w5 ⟨h, rfl⟩; first | (obtain rfl := h) | (obtain ⟨vv, rfl⟩ := h)))
              have hC4 := hC3.below hb4
              exact leave_bad q _ _ _ hC4.res rfl ⟨rfl, (hC4.set _).bel⟩
          · obtain rfl : j = n := by omega
            have hji : ¬ (j : Int) < (j : Int) := by omega
            have hE3 : E = 0 := by rw [hok.out, show sm.drop j = [] from List.drop_eq_nil_iff.mpr (by omega)]; rfl
            subst hE3
            have z0 := (hC.res 0 _ rfl).2
            have y0 := (hC.res 0 _ rfl).1
            go_wp2
            exact leave_ok q _ _ (hC.set _).res rfl ⟨rfl, (hC.set _).bel⟩
    · have hE2 : E = 3 := by rw [hch.out, if_pos (by rw [H123.out]; exact h3)]
      subst hE2
      rcases (show (B1 = false ∨ (B1 = true ∧ B2 = false) ∨ (B1 = true ∧ B2 = true ∧ B3 = false)) by revert h3; cases B1 <;> cases B2 <;> cases B3 <;> simp) with rfl | ⟨rfl, rfl⟩ | ⟨rfl, rfl, rfl⟩
      all_goals
        go_wp2_with (go_at_call 33; refine (rcheck_any _ _ _).mono ?_; rintro y w2 ⟨h, rfl⟩; first | (obtain rfl := h) | (obtain ⟨vv, rfl⟩ := h))
        exact leave_bad q _ _ _ hC.res rfl ⟨rfl, (hC.set _).bel⟩
  · have hk1b : (k == 1) = false := by rw [beq_eq_false_iff_ne]; exact hk1
    rcases Decidable.em (k = 2) with rfl | hk2
    · have hch : Hid (E = if n ≠ 0 then 3 else if chkM ms ≠ 0 then chkM ms else if tt < fr then 9 else 0) := Lib.hid (by rw [← hE.out]; unfold chkR; rw [if_neg hk1, if_pos rfl, hn])
      clear hE
      have MC := fun W h => mcheck_any ms b n' c' hn' hle' W h
      obtain ⟨C, hCC⟩ : ∃ C, Hid (chkM ms = C) := ⟨_, Lib.hid rfl⟩
      rw [hCC.out] at MC hch
      by_cases hn0 : n = 0
      · have hnb : ((n : Int) == 0) = true := by rw [beq_iff_eq]; omega
        have hch2 : Hid (E = if C ≠ 0 then C else if tt < fr then 9 else 0) := Lib.hid (by rw [hch.out, if_neg (by omega)])
        clear hch
        by_cases hC0 : C = 0
        · have hCb : ((C : Int) == 0) = true := by rw [beq_iff_eq]; omega
          by_cases hft : fr ≤ tt
          · have hE2 : E = 0 := by rw [hch2.out, if_neg (by omega), if_neg (by omega)]
            subst hE2
            go_upto_region 17 with (first
              | (go_at_call 35; refine (MC _ hmat1).mono ?_; rintro y w4 ⟨rfl, hb4⟩; have hC4 := hC.below hb4; have k3 := (hC4.box 3 _ rfl).1; have k4 := (hC4.box 4 _ rfl).1; have z4 := (hC4.res 0 _ rfl).2; have y4 := (hC4.res 0 _ rfl).1)
              | (go_at_call 33; refine (rcheck_any _ _ _).mono ?_; rintro y w5 ⟨h, rfl⟩; first | (obtain rfl := h) | (obtain ⟨vv, rfl⟩ := h)))
            go_wp2
            exact leave_ok q _ _ (hC4.set _).res rfl ⟨rfl, (hC4.set _).bel⟩
          · have hE2 : E = 9 := by rw [hch2.out, if_neg (by omega), if_pos (by omega)]
            have hdb : decide (fr ≤ tt) = false := decide_eq_false hft
            subst hE2
            go_wp2_with (first
              | (go_at_call 35; refine (MC _ hmat1).mono ?_; rintro y w4 ⟨rfl, hb4⟩; have hC4 := hC.below hb4; have k3 := (hC4.box 3 _ rfl).1; have k4 := (hC4.box 4 _ rfl).1; have z4 := (hC4.res 0 _ rfl).2; have y4 := (hC4.res 0 _ rfl).1)
              | (go_at_call 33; refine (rcheck_any _ _ _).mono ?_; rintro y w5 ⟨h, rfl⟩; first | (obtain rfl := h) | (obtain ⟨vv, rfl⟩ := h)))
            exact leave_bad q _ _ _ hC4.res rfl ⟨rfl, (hC4.set _).bel⟩
        · have hCb : ((C : Int) == 0) = false := by rw [beq_eq_false_iff_ne]; omega
          have hE2 : E = C := by rw [hch2.out, if_pos hC0]
          subst hE2
          go_wp2_with (first
            | (go_at_call 35; refine (MC _ hmat1).mono ?_; rintro y w4 ⟨rfl, hb4⟩; have hC4 := hC.below hb4)
            | (go_at_call 33; refine (rcheck_any _ _ _).mono ?_; rintro y w5 ⟨h, rfl⟩; first | (obtain rfl := h) | (obtain ⟨vv, rfl⟩ := h)))
          exact leave_bad q _ _ _ hC4.res rfl ⟨rfl, (hC4.set _).bel⟩
      · have hnb : ((n : Int) == 0) = false := by rw [beq_eq_false_iff_ne]; omega
        have hE2 : E = 3 := by rw [hch.out, if_pos hn0]
        subst hE2
        go_wp2_with (go_at_call 33; refine (rcheck_any _ _ _).mono ?_; rintro y w2 ⟨h, rfl⟩; first | (obtain rfl := h) | (obtain ⟨vv, rfl⟩ := h))
        exact leave_bad q _ _ _ hC.res rfl ⟨rfl, (hC.set _).bel⟩
    · have hk2b : (k == 2) = false := by rw [beq_eq_false_iff_ne]; exact hk2
      have hE2 : E = 5 := by rw [← hE.out]; unfold chkR; rw [if_neg hk1, if_neg hk2]
      subst hE2
      go_wp2
      exact leave_ok q _ _ (hC.set _).res rfl ⟨rfl, (hC.set _).bel⟩
end Go.Proofs.YtjmcpdhfefcdgaaDoor
