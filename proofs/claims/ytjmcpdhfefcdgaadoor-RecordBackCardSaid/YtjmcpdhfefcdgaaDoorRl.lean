/- Records read by the program. -/
import Derived.Test.YtjmcpdhfefcdgaaDoorRk
import Derived.Test.YtjmcpdhfefcdgaaDoorDetI
namespace Go.Proofs.YtjmcpdhfefcdgaaDoor
open Go.RowKit Lb Dig Inn

abbrev zRow : List Value := [.int .i64 0, .slice none 0 0, .slice none 0 0, .int .i64 0, .int .i64 0]
theorem dec1_ok (r q : Nat) (w : World) (h : RowV w r [.int .i64 0]) :
    CallsD Tryd.prog 40 #[.pointer (some ⟨r, 0, none⟩), .pointer (some ⟨q, 0, none⟩)] .returning w fun e u' w' => u' = .returning ∧ ((∃ v, e = .returned v) ∧ w' = w) := by
  have c0 := (h 0 _ rfl).1
  go_enter_d Tryd.func40, Tryd.ntmps40
  go_wp2
  go_end0
  exact ⟨⟨_, rfl⟩, rfl⟩
theorem dec1_bad (r q : Nat) (e : Int) (he : ¬ e = 0) (y0 y1 y2 y3 y4 : Value) (w : World) (h : RowV w r [.int .i64 e]) (hq : RowV w q [y0, y1, y2, y3, y4]) :
    CallsD Tryd.prog 40 #[.pointer (some ⟨r, 0, none⟩), .pointer (some ⟨q, 0, none⟩)] .returning w fun y u' w' => u' = .returning ∧ ((∃ v, y = .returned v) ∧ RowV w' q zRow ∧ Chg (fun k => k = q) w w') := by
  have c0 := (h 0 _ rfl).1
  have e0 := (hq 0 _ rfl).1
  have e1 := (hq 1 _ rfl).1
  have e2 := (hq 2 _ rfl).1
  have e3 := (hq 3 _ rfl).1
  have e4 := (hq 4 _ rfl).1
  have f0 := (hq 0 _ rfl).2
  have f1 := (hq 1 _ rfl).2
  have f2 := (hq 2 _ rfl).2
  have f3 := (hq 3 _ rfl).2
  have f4 := (hq 4 _ rfl).2
  have Hq := Lib.hid hq
  clear hq h
  go_enter_d Tryd.func40, Tryd.ntmps40
  go_wp2
  generalize hW9 : (((((w.setCell ⟨q, 0, none⟩ _).setCell ⟨q, 1, none⟩ _).setCell ⟨q, 2, none⟩ _).setCell ⟨q, 3, none⟩ _).setCell ⟨q, 4, none⟩ _) = W9
  obtain ⟨r9, c9⟩ := Hq.out.set5 rfl _ _ _ _ _ W9 hW9.symm
  go_end0
  exact ⟨⟨_, rfl⟩, r9, c9⟩
theorem results_cell2 {P : Program} {fn : Func} {p u : Tmp} {t1 t2 : TypeId} (h : fn.results = #[.cell p t1, .cell u t2]) (tmps : Array Value) (w : World) (g g2 : Nat) (x y : Value)
    (hp : tmps.getD p undef = .pointer (some ⟨g, 0, none⟩)) (hl : (loadVar t1 ⟨g, 0, none⟩).run P w = .ok x w) (hp2 : tmps.getD u undef = .pointer (some ⟨g2, 0, none⟩)) (hl2 : (loadVar t2 ⟨g2, 0, none⟩).run P w = .ok y w) :
    (results fn tmps).run P w = .ok (.tuple #[x, y]) w := by
  have hp' : tmps[p]?.getD undef = .pointer (some ⟨g, 0, none⟩) := by simpa using hp
  have hp2' : tmps[u]?.getD undef = .pointer (some ⟨g2, 0, none⟩) := by simpa using hp2
  simp [results, h, hp', hp2', asAddr, hl, hl2]
section
variable {R : Ending → World → Prop} {tmps : Array Value}
/-- The deferred calls of Decode. -/
abbrev dDefers (r q : Nat) : List Deferred := [{ target := .fn (Fn.func 32) #[], args := #[.pointer (some ⟨r, 0, none⟩)] }, { target := .fn (Fn.func 40) #[.pointer (some ⟨r, 0, none⟩), .pointer (some ⟨q, 0, none⟩)], args := #[] }]
theorem dleave2_ok (q r : Nat) (W : World) (v0 v1 v2 v3 v4 : Value) (hq : RowV W q [v0, v1, v2, v3, v4]) (hr : RowV W r [.int .i64 0]) (ht : tmps.getD 2 undef = .pointer (some ⟨q, 0, none⟩)) (ht3 : tmps.getD 3 undef = .pointer (some ⟨r, 0, none⟩)) (hR : R (.returned (.tuple #[.agg #[v0, v1, v2, v3, v4], .int .i64 0])) W) :
    Leaves Tryd.prog Tryd.f17 tmps R [{ target := .fn (Fn.func 40) #[.pointer (some ⟨r, 0, none⟩), .pointer (some ⟨q, 0, none⟩)], args := #[] }] .returning W := by
  refine leaves_cons (f := 40) (args := #[.pointer (some ⟨r, 0, none⟩), .pointer (some ⟨q, 0, none⟩)]) (by simp) (by simp [go_sem]) ?_
  refine (dec1_ok r q W hr).mono ?_
  rintro e u' w'' ⟨rfl, ⟨v2, rfl⟩, rfl⟩
  exact ⟨_, results_cell2 rfl _ _ q r _ _ ht (load_record _ q _ _ _ _ _ hq) ht3 (load_errno _ r _ hr), hR⟩
theorem dleave2_bad (q r : Nat) (W : World) (e : Int) (he : ¬ e = 0) (hqr : r ≠ q) (v0 v1 v2 v3 v4 : Value) (hq : RowV W q [v0, v1, v2, v3, v4]) (hr : RowV W r [.int .i64 e]) (ht : tmps.getD 2 undef = .pointer (some ⟨q, 0, none⟩)) (ht3 : tmps.getD 3 undef = .pointer (some ⟨r, 0, none⟩))
    (hR : ∀ W', Chg (fun k => k = q) W W' → R (.returned (.tuple #[.agg #[.int .i64 0, .slice none 0 0, .slice none 0 0, .int .i64 0, .int .i64 0], .int .i64 e])) W') :
    Leaves Tryd.prog Tryd.f17 tmps R [{ target := .fn (Fn.func 40) #[.pointer (some ⟨r, 0, none⟩), .pointer (some ⟨q, 0, none⟩)], args := #[] }] .returning W := by
  refine leaves_cons (f := 40) (args := #[.pointer (some ⟨r, 0, none⟩), .pointer (some ⟨q, 0, none⟩)]) (by simp) (by simp [go_sem]) ?_
  refine (dec1_bad r q e he _ _ _ _ _ W hr hq).mono ?_
  rintro y u' w'' ⟨rfl, ⟨v2, rfl⟩, h9, c9⟩
  exact ⟨_, results_cell2 rfl _ _ q r _ _ ht (load_record _ q _ _ _ _ _ h9) ht3 (load_errno _ r _ (hr.keep c9 hqr)), hR _ c9⟩
theorem dleave_ok (q r : Nat) (W : World) (v0 v1 v2 v3 v4 : Value) (hq : RowV W q [v0, v1, v2, v3, v4]) (hr : RowV W r [.int .i64 0]) (ht : tmps.getD 2 undef = .pointer (some ⟨q, 0, none⟩)) (ht3 : tmps.getD 3 undef = .pointer (some ⟨r, 0, none⟩)) (hR : R (.returned (.tuple #[.agg #[v0, v1, v2, v3, v4], .int .i64 0])) W) :
    Leaves Tryd.prog Tryd.f17 tmps R (dDefers r q) .returning W := by
  refine leaves_cons (f := 32) (args := #[.pointer (some ⟨r, 0, none⟩)]) (by simp) (by simp [go_sem]) ?_
  refine (caught_idle r W).mono ?_
  rintro e u' w'' ⟨⟨v2, rfl⟩, rfl, rfl⟩
  exact dleave2_ok q r _ _ _ _ _ _ hq hr ht ht3 hR
theorem dleave_err (q r : Nat) (W : World) (e : Int) (he : ¬ e = 0) (hqr : r ≠ q) (v0 v1 v2 v3 v4 : Value) (hq : RowV W q [v0, v1, v2, v3, v4]) (hr : RowV W r [.int .i64 e]) (ht : tmps.getD 2 undef = .pointer (some ⟨q, 0, none⟩)) (ht3 : tmps.getD 3 undef = .pointer (some ⟨r, 0, none⟩))
    (hR : ∀ W', Chg (fun k => k = q) W W' → R (.returned (.tuple #[.agg #[.int .i64 0, .slice none 0 0, .slice none 0 0, .int .i64 0, .int .i64 0], .int .i64 e])) W') :
    Leaves Tryd.prog Tryd.f17 tmps R (dDefers r q) .returning W := by
  refine leaves_cons (f := 32) (args := #[.pointer (some ⟨r, 0, none⟩)]) (by simp) (by simp [go_sem]) ?_
  refine (caught_idle r W).mono ?_
  rintro y u' w'' ⟨⟨v2, rfl⟩, rfl, rfl⟩
  exact dleave2_bad q r _ e he hqr _ _ _ _ _ hq hr ht ht3 hR
theorem dleave_bad (q r : Nat) (W : World) (e : Int) (he : ¬ e = 0) (hqr : r ≠ q) (v v0 v1 v2 v3 v4 : Value) (hq : RowV W q [v0, v1, v2, v3, v4]) (hr : RowV W r [v]) (ht : tmps.getD 2 undef = .pointer (some ⟨q, 0, none⟩)) (ht3 : tmps.getD 3 undef = .pointer (some ⟨r, 0, none⟩))
    (hR : ∀ W', Chg (fun k => k = q ∨ k = r) W W' → R (.returned (.tuple #[.agg #[.int .i64 0, .slice none 0 0, .slice none 0 0, .int .i64 0, .int .i64 0], .int .i64 e])) W') :
    Leaves Tryd.prog Tryd.f17 tmps R (dDefers r q) (.panicking (thrown e)) W := by
  refine leaves_cons (f := 32) (args := #[.pointer (some ⟨r, 0, none⟩)]) (by simp) (by simp [go_sem]) ?_
  refine (caught_thrown r e v W (hr 0 _ rfl).1 (hr 0 _ rfl).2).mono ?_
  rintro y u' w'' ⟨⟨v2, rfl⟩, rfl, rfl⟩
  have hc := Chg.setCell W ⟨r, 0, none⟩ (.int .i64 e)
  exact dleave2_bad q r _ e he hqr _ _ _ _ _ (hq.keep hc (fun h => hqr h.symm)) (hr.set 0 (by simp) _) ht ht3 (fun W' h9 => hR W' ((hc.mono (fun _ _ h => .inr h)).trans h9 (fun _ _ h => .inl h)))
end
end Go.Proofs.YtjmcpdhfefcdgaaDoor
