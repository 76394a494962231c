/- Samples that one owns; a copy of a record. -/
import Derived.Test.YtjmcpdhfefcdgaaDoorRb
import Derived.Test.YtjmcpdhfefcdgaaDoorLo
import Derived.Test.YtjmcpdhfefcdgaaDoorMj
namespace Go.Proofs.YtjmcpdhfefcdgaaDoor
open Go.RowKit Lb Dig

theorem flat3 : ∀ (css : List (List Value)), (∀ cs ∈ css, cs.length = 3) → ∀ (i : Nat) (cs : List Value), css[i]? = some cs → ∀ j v, cs[j]? = some v → css.flatten[i * 3 + j]? = some v := by
  intro css
  induction css with
  | nil => intro _ i cs h; simp at h
  | cons a l ih =>
    intro h3 i cs h j v hv
    have ha := h3 a (List.mem_cons_self ..)
    cases i with
    | zero =>
      simp at h; subst h
      have hj : j < a.length := by
        rcases Nat.lt_or_ge j a.length with h1 | h1
        · exact h1
        · rw [List.getElem?_eq_none h1] at hv; cases hv
      rw [List.flatten_cons, Nat.zero_mul, Nat.zero_add, List.getElem?_append_left hj]; exact hv
    | succ i =>
      have := ih (fun c hc => h3 c (List.mem_cons_of_mem _ hc)) i cs (by simpa using h) j v hv
      rw [List.flatten_cons, List.getElem?_append_right (by omega), ha, show (i + 1) * 3 + j - 3 = i * 3 + j from by omega]; exact this
theorem RowQ.block_lt {w : World} {ad : Addr} {l : List Pr} (h : RowQ w (some ad) l) (hl : l ≠ []) : ad.block < w.heap.size := by
  rcases h.row with h0 | ⟨x, hx, hc⟩
  · exact absurd h0 hl
  · cases hx
    cases l with
    | nil => exact absurd rfl hl
    | cons p l =>
      have h1 := World.block_lt_of_cell? w _ (hc 0 p rfl).1
      have h2 : (ad.add (0 * 2)).block = ad.block := by unfold Addr.add; split <;> rfl
      rw [h2] at h1; exact h1
/-- A sample's cells, its labels apart from a row's own block. -/
def isSmA (v : Value) (w : World) (cs : List Value) (s : Smp) : Prop :=
  ∃ (a : Option Addr) (n c : Nat), cs = [.slice a n c, .int .i64 s.2.1, .int .u64 (s.2.2 : Nat)] ∧ RowQ w a s.1 ∧ s.1.length = n ∧ ((a = none → c = 0) ∧ n ≤ c) ∧ n * 32 ≤ 140737488351232 ∧ (∀ p ∈ s.1, p.1.size ≤ 140737488351232 ∧ p.2.size ≤ 140737488351232) ∧ (-9223372036854775808 ≤ s.2.1 ∧ s.2.1 < 9223372036854775808) ∧ s.2.2 < 18446744073709551616 ∧ (s.1 ≠ [] → ∀ ad, a = some ad → v.ownBlock ≠ some ad.block)
theorem isSmA.len {v : Value} {w : World} {cs : List Value} {s : Smp} (h : isSmA v w cs s) : cs.length = 3 := by
  obtain ⟨a, n, c, rfl, _⟩ := h; rfl
theorem isSmA.isSm {v : Value} {w : World} {cs : List Value} {s : Smp} (h : isSmA v w cs s) : isSm w cs s := by
  obtain ⟨a, n, c, h1, h2, h3, h4, h5, h6, h7, h8, _⟩ := h
  exact ⟨a, n, c, h1, h2, h3, h4, h5, h6, h7, h8⟩
theorem isSmA.one {v : Value} {w : World} {cs : List Value} {s : Smp} (h : isSmA v w cs s) : ∀ u ∈ cs, u.oneCell' = true := by
  obtain ⟨a, n, c, rfl, _⟩ := h
  intro u hu
  simp only [List.mem_cons, List.not_mem_nil, or_false] at hu
  rcases hu with rfl | rfl | rfl <;> rfl
/-- The same behind a change of other blocks than the labels' own. -/
theorem isSmA.keep {F : Nat → Prop} {v v' : Value} {w w' : World} {cs : List Value} {s : Smp} (h : isSmA v w cs s) (hc : Chg F w w') (hF : ∀ k, k < w.heap.size → F k → v.ownBlock = some k) (hv : v'.ownBlock = v.ownBlock ∨ ∀ k, v'.ownBlock = some k → w.heap.size ≤ k) : isSmA v' w' cs s := by
  obtain ⟨a, n, c, h1, h2, h3, h4, h5, h6, h7, h8, h9⟩ := h
  by_cases he : s.1 = []
  · exact ⟨a, n, c, h1, ⟨.inl he⟩, h3, h4, h5, h6, h7, h8, fun h => absurd he h⟩
  · have hlt : ∀ ad, a = some ad → ad.block < w.heap.size := fun ad e => by subst e; exact h2.block_lt he
    refine ⟨a, n, c, h1, h2.keep hc (fun ad e f => h9 he ad e (hF _ (hlt ad e) f)), h3, h4, h5, h6, h7, h8, fun _ ad e f => ?_⟩
    rcases hv with hv | hv
    · rw [hv] at f; exact h9 he ad e f
    · have := hv _ f; have := hlt ad e; omega
/-- A row of samples that one owns. -/
structure OwnC (w : World) (B : Nat) (css : List (List Value)) (sm : List Smp) (v : Value) : Prop where
  len : css.length = sm.length
  each : ∀ (i : Nat) (cs : List Value) (s : Smp), css[i]? = some cs → sm[i]? = some s → isSmA v w cs s
  own : w.ownsRow 0 43 3 v sm.length css.flatten
  low : ∀ g, v.ownBlock = some g → B ≤ g
  lab : ∀ (i : Nat) (cs : List Value) (s : Smp) (ad : Addr) (n c : Nat), css[i]? = some cs → sm[i]? = some s → s.1 ≠ [] → cs[0]? = some (.slice (some ad) n c) → B ≤ ad.block
theorem OwnC.nil (w : World) (B : Nat) : OwnC w B [] [] (.slice none 0 0) := ⟨rfl, fun i cs s h => by simp at h, World.ownsRow_nil _ _ _ _, (fun g h => by simp [Value.ownBlock] at h), fun i cs s ad n c h => by simp at h⟩
theorem OwnC.three {w : World} {B : Nat} {css : List (List Value)} {sm : List Smp} {v : Value} (h : OwnC w B css sm v) : ∀ cs ∈ css, cs.length = 3 := by
  intro cs hcs
  obtain ⟨i, hi⟩ := List.mem_iff_getElem?.mp hcs
  have hlt : i < css.length := (List.getElem?_eq_some_iff.mp hi).1
  obtain ⟨s, hs⟩ : ∃ s, sm[i]? = some s := ⟨_, List.getElem?_eq_getElem (by rw [← h.len]; exact hlt)⟩
  exact (h.each i cs s hi hs).len
theorem OwnC.row {w : World} {B : Nat} {css : List (List Value)} {sm : List Smp} {v : Value} (h : OwnC w B css sm v) : ∃ a c, v = .slice a sm.length c ∧ RowSm w a sm ∧ ((a = none → c = 0) ∧ sm.length ≤ c) := by
  rcases h.own.2 with ⟨h1, h0⟩ | ⟨g, cap, cur, h1, _, _, h2, _⟩
  · exact ⟨none, 0, by rw [h1, h0], .inl (List.length_eq_zero_iff.mp h0), ⟨fun _ => rfl, by omega⟩⟩
  · refine ⟨some ⟨g, 0, none⟩, cap, h1, .inr ⟨_, rfl, fun i s hs => ?_⟩, ⟨fun e => (by cases e), h2⟩⟩
    have hlt : i < sm.length := (List.getElem?_eq_some_iff.mp hs).1
    obtain ⟨cs, hcs⟩ : ∃ cs, css[i]? = some cs := ⟨_, List.getElem?_eq_getElem (by rw [h.len]; exact hlt)⟩
    have he := h.each i cs s hcs hs
    exact ⟨cs, he.len, fun j u hu => h.own.cells (g := g) (by rw [h1]; rfl) _ _ (flat3 css h.three i cs hcs j u hu), he.isSm⟩
theorem owns_ltR {w : World} {base : Nat} {e : TypeId} {size : Nat} {v : Value} {n : Nat} {xs : List Value} (h : w.ownsRow base e size v n xs) {g : Nat} (hg : v.ownBlock = some g) : g < w.heap.size := by
  rcases h.2 with ⟨rfl, _⟩ | ⟨g', cap, cur, rfl, _, hgg, _⟩
  · simp [Value.ownBlock] at hg
  · have e : g' = g := by simpa [Value.ownBlock] using hg
    subst e
    rcases Nat.lt_or_ge g' w.heap.size with h' | h'
    · exact h'
    · simp [Array.getElem?_eq_none h'] at hgg
theorem OwnC.chg {F : Nat → Prop} {w w' : World} {B : Nat} {css : List (List Value)} {sm : List Smp} {v : Value} (h : OwnC w B css sm v) (hc : Chg F w w') (hF : ∀ k, k < w.heap.size → ¬ F k) : OwnC w' B css sm v :=
  ⟨h.len, fun i cs s h1 h2 => (h.each i cs s h1 h2).keep hc (fun k hk f => absurd f (hF k hk)) (.inl rfl), hc.owns h.own (fun g hg f => hF g (owns_ltR h.own hg) f), h.low, h.lab⟩
theorem OwnC.below {w w' : World} {B : Nat} {css : List (List Value)} {sm : List Smp} {v : Value} (h : OwnC w B css sm v) (hb : Below w.heap.size w w') : OwnC w' B css sm v :=
  h.chg (Chg.of_below (fun _ => False) hb) (fun _ _ f => f)
/-- A change of a block below which nothing of this lies. -/
theorem OwnC.other {w w' : World} {B : Nat} {css : List (List Value)} {sm : List Smp} {v : Value} (h : OwnC w B css sm v) {x : Nat} (hc : Chg (fun k => k = x) w w') (hx : x < B) : OwnC w' B css sm v := by
  refine ⟨h.len, fun i cs s h1 h2 => ?_, hc.owns h.own (fun g hg f => by have := h.low g hg; omega), h.low, h.lab⟩
  have he := h.each i cs s h1 h2
  obtain ⟨a, n, c, e1, e2, e3⟩ := he
  refine ⟨a, n, c, e1, ?_, e3⟩
  by_cases hs : s.1 = []
  · exact ⟨.inl hs⟩
  · exact e2.keep hc (fun ad e f => by have := h.lab i cs s ad n c h1 h2 hs (by rw [e1, e]; rfl); omega)
theorem OwnC.mono {w : World} {B B' : Nat} {css : List (List Value)} {sm : List Smp} {v : Value} (h : OwnC w B css sm v) (hB : B' ≤ B) : OwnC w B' css sm v :=
  ⟨h.len, h.each, h.own, fun g hg => Nat.le_trans hB (h.low g hg), fun i cs s ad n c h1 h2 h3 h4 => Nat.le_trans hB (h.lab i cs s ad n c h1 h2 h3 h4)⟩
/-- One more. -/
theorem OwnC.push {w wa w2 : World} {B : Nat} {css : List (List Value)} {sm : List Smp} {v v2 : Value} {cs : List Value} {s : Smp} (h : OwnC w B css sm v) (hs : isSmA v w cs s) (hsl : ∀ (ad : Addr) (n c : Nat), s.1 ≠ [] → cs[0]? = some (.slice (some ad) n c) → B ≤ ad.block) (hB : B ≤ w.heap.size)
    (hc : Chg (fun _ => False) w wa) (hgr : wa.grownBy w2 v.ownBlock) (hbk : v2.ownBlock = v.ownBlock ∨ v2.ownBlock = some wa.heap.size) (ho : w2.ownsRow 0 43 3 v2 (sm.length + 1) (css.flatten ++ cs)) :
    OwnC w2 B (css ++ [cs]) (sm ++ [s]) v2 := by
  have hch : Chg (fun k => some k = v.ownBlock) w w2 := (hc.mono (fun _ _ x => x.elim)).trans (Chg.grown hgr) (fun _ _ x => x)
  have hsz := hc.size
  have hv : v2.ownBlock = v.ownBlock ∨ ∀ k, v2.ownBlock = some k → w.heap.size ≤ k := by
    rcases hbk with h1 | h1
    · exact .inl h1
    · exact .inr (fun k hk => by rw [h1] at hk; cases hk; exact hsz)
  refine ⟨by rw [List.length_append, List.length_append, h.len]; rfl, fun i cs' s' h1 h2 => ?_, ?_, fun g hg => ?_, fun i cs' s' ad n c h1 h2 h3 h4 => ?_⟩
  · rcases Nat.lt_or_ge i css.length with hlt | hge
    · rw [List.getElem?_append_left hlt] at h1
      rw [List.getElem?_append_left (by rw [← h.len]; exact hlt)] at h2
      exact (h.each i cs' s' h1 h2).keep hch (fun k _ f => f.symm) hv
    · rw [List.getElem?_append_right hge] at h1
      rw [List.getElem?_append_right (by rw [← h.len]; exact hge), ← h.len] at h2
      have h0 : i - css.length = 0 := by
        rcases Nat.eq_zero_or_pos (i - css.length) with h9 | h9
        · exact h9
        · rw [List.getElem?_eq_none (by rw [List.length_singleton]; omega)] at h1; cases h1
      rw [h0] at h1 h2
      cases h1; cases h2
      exact hs.keep hch (fun k _ f => f.symm) hv
  · rw [List.length_append, List.flatten_append]
    simpa using ho
  · rcases hbk with h1 | h1
    · rw [h1] at hg; exact h.low g hg
    · rw [h1] at hg; cases hg; omega
  · rcases Nat.lt_or_ge i css.length with hlt | hge
    · rw [List.getElem?_append_left hlt] at h1
      rw [List.getElem?_append_left (by rw [← h.len]; exact hlt)] at h2
      exact h.lab i cs' s' ad n c h1 h2 h3 h4
    · rw [List.getElem?_append_right hge] at h1
      rw [List.getElem?_append_right (by rw [← h.len]; exact hge), ← h.len] at h2
      have h0 : i - css.length = 0 := by
        rcases Nat.eq_zero_or_pos (i - css.length) with h9 | h9
        · exact h9
        · rw [List.getElem?_eq_none (by rw [List.length_singleton]; omega)] at h1; cases h1
      rw [h0] at h1 h2
      cases h1; cases h2
      exact hsl ad n c h3 h4
theorem sinfo : (Tryd.prog.info? 43).map (fun i => (i.zero, i.size, i.bytes)) = some (some (.agg #[.slice none 0 0, .int .i64 0, .int .u64 0]), 3, 40) := by kernel_rfl
/-- A record of one's own. -/
structure RecOut (w : World) (k : Int) (sm : List Smp) (ms : List Mt) (fr tt : Int) (y : Ending) (w' : World) : Prop where
  ex : ∃ (a : Option Addr) (n c : Nat) (b : Option Addr) (n' c' : Nat) (css : List (List Value)), y = .returned (.agg #[.int .i64 k, .slice a n c, .slice b n' c', .int .i64 fr, .int .i64 tt]) ∧ RecIn w' k sm ms fr tt a n c b n' c' ∧ OwnC w' w.heap.size css sm (.slice a n c) ∧ ((a = none → c = 0) ∧ n ≤ c) ∧ ((b = none → c' = 0) ∧ n' ≤ c') ∧ Below w.heap.size w w'
/-- Where the copying of samples stands. -/
structure OwAt (w1 wt : World) (n : Nat) (sm : List Smp) (v3 v4 : Value) : Prop where
  ex : ∃ (j : Nat) (css : List (List Value)), j ≤ n ∧ v4 = .int .i64 j ∧ OwnC wt w1.heap.size css (sm.take j) v3 ∧ Below w1.heap.size w1 wt

theorem RowV.set5 {w : World} {B : Nat} {xs : List Value} (h : RowV w B xs) (hl : xs.length = 5) (v0 v1 v2 v3 v4 : Value) (W : World)
    (hW : W = (((((w.setCell ⟨B, 0, none⟩ v0).setCell ⟨B, 1, none⟩ v1).setCell ⟨B, 2, none⟩ v2).setCell ⟨B, 3, none⟩ v3).setCell ⟨B, 4, none⟩ v4)) :
    RowV W B [v0, v1, v2, v3, v4] ∧ Chg (fun k => k = B) w W := by
  match xs, hl with
  | [y0, y1, y2, y3, y4], _ =>
    have h1 := (((((h.set 0 (by simp) v0).set 1 (by simp) v1).set 2 (by simp) v2).set 3 (by simp) v3).set 4 (by simp) v4)
    rw [hW]
    exact ⟨h1, ((((Chg.setCell w ⟨B, 0, none⟩ v0).trans (Chg.setCell _ ⟨B, 1, none⟩ v1) (fun _ _ x => x)).trans (Chg.setCell _ ⟨B, 2, none⟩ v2) (fun _ _ x => x)).trans (Chg.setCell _ ⟨B, 3, none⟩ v3) (fun _ _ x => x)).trans (Chg.setCell _ ⟨B, 4, none⟩ v4) (fun _ _ x => x)⟩
theorem load_record (W : World) (p : Nat) (v0 v1 v2 v3 v4 : Value) (h : RowV W p [v0, v1, v2, v3, v4]) : (loadVar 25 ⟨p, 0, none⟩).run Tryd.prog W = .ok (.agg #[v0, v1, v2, v3, v4]) W := h.load 25 _ Tryd.underlying25 rfl (by kernel_rfl)

set_option maxRecDepth 100000 in
set_option maxHeartbeats 8000000 in
theorem rown_any (k : Int) (sm : List Smp) (ms : List Mt) (fr tt : Int) (a : Option Addr) (n c : Nat) (b : Option Addr) (n' c' : Nat) (w : World) (hr : RecIn w k sm ms fr tt a n c b n' c') (hs : n * 40 ≤ 140737488351232) (hs' : n' * 40 ≤ 140737488351232) (hcb : (b = none → c' = 0) ∧ n' ≤ c') :
    Calls Tryd.prog 9 #[.agg #[.int .i64 k, .slice a n c, .slice b n' c', .int .i64 fr, .int .i64 tt]] w (RecOut w k sm ms fr tt) := by
  obtain ⟨i0, hi, hz0, hz1, hz2⟩ := pinfo_of prinfo
  obtain ⟨i1, gi, gz0, gz1, gz2⟩ := pinfo_of sinfo
  obtain ⟨i2, mi, mz0, mz1, mz2⟩ := pinfo_of minfo
  have hn := hr.len
  have hn' := hr.len'
  have R0 := RowV.new w [.int .i64 k, .slice a n c, .slice b n' c', .int .i64 fr, .int .i64 tt] 25
  have B0 : Below w.heap.size w (w.alloc (.cells #[.int .i64 k, .slice a n c, .slice b n' c', .int .i64 fr, .int .i64 tt] 25)) := (Below.refl _ _).alloc (Nat.le_refl _) _
  have hsz0 : (w.alloc (.cells #[.int .i64 k, .slice a n c, .slice b n' c', .int .i64 fr, .int .i64 tt] 25)).heap.size = w.heap.size + 1 := by simp
  have R1 := RowV.new (w.alloc (.cells #[.int .i64 k, .slice a n c, .slice b n' c', .int .i64 fr, .int .i64 tt] 25)) [.int .i64 0, .slice none 0 0, .slice none 0 0, .int .i64 0, .int .i64 0] 25
  rw [hsz0] at R1
  have B1 : Below (w.alloc (.cells #[.int .i64 k, .slice a n c, .slice b n' c', .int .i64 fr, .int .i64 tt] 25)).heap.size (w.alloc (.cells #[.int .i64 k, .slice a n c, .slice b n' c', .int .i64 fr, .int .i64 tt] 25)) ((w.alloc (.cells #[.int .i64 k, .slice a n c, .slice b n' c', .int .i64 fr, .int .i64 tt] 25)).alloc (.cells #[.int .i64 0, .slice none 0 0, .slice none 0 0, .int .i64 0, .int .i64 0] 25)) := (Below.refl _ _).alloc (Nat.le_refl _) _
  have R0' := R0.below B1
  have B01 := below_tr B0 B1
  have hsz1 : ((w.alloc (.cells #[.int .i64 k, .slice a n c, .slice b n' c', .int .i64 fr, .int .i64 tt] 25)).alloc (.cells #[.int .i64 0, .slice none 0 0, .slice none 0 0, .int .i64 0, .int .i64 0] 25)).heap.size = w.heap.size + 1 + 1 := by simp
  clear R0 B0 B1 hsz0
  go_enter Tryd.func9, Tryd.ntmps9
  go_upto_region 3 with (fail)
  change RowV ((w.alloc (.cells #[.int .i64 k, .slice a n c, .slice b n' c', .int .i64 fr, .int .i64 tt] 25)).alloc (.cells #[.int .i64 0, .slice none 0 0, .slice none 0 0, .int .i64 0, .int .i64 0] 25)) _ _ at R1
  generalize (w.alloc (.cells #[.int .i64 k, .slice a n c, .slice b n' c', .int .i64 fr, .int .i64 tt] 25)).alloc (.cells #[.int .i64 0, .slice none 0 0, .slice none 0 0, .int .i64 0, .int .i64 0] 25) = w1 at R0' R1 B01 hsz1 ⊢
  obtain ⟨q, hq⟩ : ∃ q, Hid (q = w.heap.size + 1) := ⟨_, Lib.hid rfl⟩
  obtain ⟨p, hp⟩ : ∃ p, Hid (p = w.heap.size) := ⟨_, Lib.hid rfl⟩
  rw [← hq.out] at R1 ⊢
  rw [← hp.out] at R0' ⊢
  have hpq : p ≠ q := by have := hq.out; have := hp.out; omega
  have hpw : w.heap.size ≤ p ∧ w.heap.size ≤ q := by have := hq.out; have := hp.out; omega
  have hw1 : p < w1.heap.size ∧ q < w1.heap.size := by have := hq.out; have := hp.out; omega
  clear hsz1
  have h1 := hr.below B01
  have k1 := (R0' 1 _ rfl).1
  go_loopw [3, 4] (fun v3 v4 wt => OwAt w1 wt n sm v3 v4) (fun _ v4 _ => n - (intOf v4).toNat)
  case atStart => exact ⟨0, [], by omega, rfl, OwnC.nil _ _, Below.refl _ _⟩
  case round =>
    clear k1
    obtain ⟨j, css, hj, rfl, hown, hbw⟩ := hrel
    have RW := R0'.below hbw
    have k1 := (RW 1 _ rfl).1
    have hrw := h1.below hbw
    by_cases hlt : j < n
    · have hji : (j : Int) < (n : Int) := by omega
      obtain ⟨⟨ls, t, v⟩, hpp⟩ : ∃ p, sm[j]? = some p := ⟨_, List.getElem?_eq_getElem (by omega)⟩
      have s1 := hrw.sam
      obtain ⟨x, rfl⟩ := RowG.some_ s1 hpp
      obtain ⟨la, ln, lc, c0, c1, c2, hql, hln, hcl, hb32, hsz, hrt, hv64⟩ := RowSm.at3 s1 hpp
      simp only at c1 c2 hql hln hsz hrt hv64
      have R4 := RowV.new wr [.slice la ln lc, .int .i64 t, .int .u64 (v : Nat)] 43
      have B4 : Below wr.heap.size wr (wr.alloc (.cells #[.slice la ln lc, .int .i64 t, .int .u64 (v : Nat)] 43)) := (Below.refl _ _).alloc (Nat.le_refl _) _
      have hlr : wr.heap.size < (wr.alloc (.cells #[.slice la ln lc, .int .i64 t, .int .u64 (v : Nat)] 43)).heap.size := by simp
      go_upto_region 6 with (fail)
      generalize wr.alloc (.cells #[.slice la ln lc, .int .i64 t, .int .u64 (v : Nat)] 43) = w4 at R4 B4 hlr ⊢
      obtain ⟨r, hr'⟩ : ∃ r, Hid (r = wr.heap.size) := ⟨_, Lib.hid rfl⟩
      rw [← hr'.out] at R4 hlr ⊢
      have hown4 := hown.below B4
      have hsrc := (hql.below B4).src hln hcl
      have r0 := (R4 0 _ rfl).1
      have hbw4 := below_tr hbw B4
      clear c0 c1 c2 s1
      go_wp2_with (at_builtin; refine wpList_copy_new rfl _ _ 40 rfl 47 rfl i0 (.agg #[.string { data := #[] }, .string { data := #[] }]) 2 32 Tryd.underlying40 hi hz0 hz1 hz2 rfl (by decide) rfl la ln lc (encP ls) rfl hsrc (encP_one ls) (by unfold maxLen; omega) (by omega) ?_)
      intro vL w5 hoL hb5 hgL
      obtain ⟨la2, ln2, lc2, rfl, hl2, hql2, hcl2, _, hgl2⟩ := OwnP.of_owns hoL hgL
      obtain rfl : ln = ln2 := by omega
      have R5 := R4.below hb5
      have z0 := (R5 0 _ rfl).2
      have y0 := (R5 0 _ rfl).1
      clear R4 r0 hsrc hown4 hoL hgL
      go_upto_region 7 with (fail)
      have hc6 := Chg.setCell w5 ⟨r, 0, none⟩ (.slice la2 ln lc2)
      have R6 : RowV (w5.setCell ⟨r, 0, none⟩ (.slice la2 ln lc2)) r [.slice la2 ln lc2, .int .i64 t, .int .u64 (v : Nat)] := R5.set 0 (by simp) _
      have hb46 := below_tr B4 hb5
      have hb6 : Below wr.heap.size wr (w5.setCell ⟨r, 0, none⟩ (.slice la2 ln lc2)) := Chg.below_tr hb46 hc6 (fun k hk e => by have h1 : k = r := e; have := hr'.out; omega)
      have hq6 : RowQ (w5.setCell ⟨r, 0, none⟩ (.slice la2 ln lc2)) la2 ls := hql2.keep hc6 (fun ad e f => by have h1 := hgl2 ad.block (by rw [e]; rfl); have h2 : ad.block = r := f; omega)
      generalize w5.setCell ⟨r, 0, none⟩ (.slice la2 ln lc2) = w6 at hc6 R6 hb6 hq6 ⊢
      have hlow2 : ∀ ad, la2 = some ad → wr.heap.size < ad.block := fun ad e => by have h1 := hgl2 ad.block (by rw [e]; rfl); have := hr'.out; omega
      have hown6 := hown.below hb6
      have hbw6 := below_tr hbw hb6
      have hA : isSmA u3 w6 [.slice la2 ln lc2, .int .i64 t, .int .u64 (v : Nat)] (ls, t, v) := ⟨la2, ln, lc2, rfl, hq6, hln, hcl2, hb32, hsz, hrt, hv64, fun _ ad e f => by have h1 := owns_ltR hown.own f; have h2 := hlow2 ad e; omega⟩
      have hlab : ∀ (ad : Addr) (m d : Nat), (ls, t, v).1 ≠ [] → [Value.slice la2 ln lc2, .int .i64 t, .int .u64 (v : Nat)][0]? = some (.slice (some ad) m d) → w1.heap.size ≤ ad.block := fun ad m d _ e => by
        have e2 : Value.slice la2 ln lc2 = .slice (some ad) m d := Option.some.inj e
        cases e2
        have h1 := hlow2 ad rfl; have h2 := hbw.size; omega
      have htl : (sm.take j).length = j := by rw [List.length_take]; omega
      have ho6 := hown6.own
      rw [htl] at ho6
      have r0 := (R6 0 _ rfl).1
      have r1 := (R6 1 _ rfl).1
      have r2 := (R6 2 _ rfl).1
      have hlow3 := hown.low
      clear z0 y0 R5 hb5 B4 hb46 hc6 hql2 hql hgl2 hlow2 hbw4 hlr
      go_wp2_with (at_builtin; refine wpList_append_fp rfl _ _ 22 rfl 0 43 i1 (.agg #[.slice none 0 0, .int .i64 0, .int .u64 0]) 3 40 Tryd.underlying22 gi gz0 gz1 gz2 rfl (by decide) _ _ _ rfl (ho6.alloc _) ⟨_, 0, none⟩ 1 1 [.slice la2 ln lc2, .int .i64 t, .int .u64 (v : Nat)] rfl rfl ?c1 ?c2 ?c3 ?c4 ?c5 ?_)
      case c2 => exact ⟨rfl, rfl, rfl⟩
      case c3 => unfold maxLen; omega
      case c4 => omega
      intro v2 w7 ho hgr _ hbk
      have hca : Chg (fun _ => False) w6 (w6.alloc (.cells #[.slice la2 ln lc2, .int .i64 t, .int .u64 (v : Nat)] 43)) := Chg.alloc _ _ _
      have hown7 := hown6.push (wa := w6.alloc (.cells #[.slice la2 ln lc2, .int .i64 t, .int .u64 (v : Nat)] 43)) hA hlab (by have := hbw6.size; omega) hca hgr (by simpa using hbk) (by rw [htl]; exact ho)
      have hbw7 : Below w1.heap.size w1 w7 := Chg.below_tr (below_tr hbw6 ((Below.refl _ _).alloc (Nat.le_refl _) _)) (Chg.grown hgr) (fun k hk e => by have h1 := hlow3 k e.symm; omega)
      have htk : sm.take (j + 1) = sm.take j ++ [(ls, t, v)] := by rw [List.take_add_one, hpp]; rfl
      rw [← htk] at hown7
      clear ho hgr hbk hca hA hlab ho6 hown6 hown htk htl
      go_wp2
      go_roundw
      case rel => exact ⟨j + 1, _, by omega, by go_num, hown7, hbw7⟩
      case measure => simp [intOf]; omega
    · obtain rfl : j = n := by omega
      have hji : ¬ (j : Int) < (j : Int) := by omega
      rw [List.take_of_length_le (by omega)] at hown
      obtain ⟨a3, c3, hv3, hrow3, hcap3⟩ := hown.row
      rw [hn] at hv3 hcap3
      subst hv3
      have z1 := (RW 1 _ rfl).2
      have k2 := (RW 2 _ rfl).1
      have Bw := below_tr B01 hbw
      go_upto_region 9 with (fail)
      have hc5 := Chg.setCell wr ⟨p, 1, none⟩ (.slice a3 j c3)
      have R5 : RowV (wr.setCell ⟨p, 1, none⟩ (.slice a3 j c3)) p [.int .i64 k, .slice a3 j c3, .slice b n' c', .int .i64 fr, .int .i64 tt] := RW.set 1 (by simp) _
      have Q5 := (R1.below hbw).keep hc5 (fun e => hpq e.symm)
      have hown5 := hown.other hc5 hw1.1
      have B5 : Below w.heap.size w (wr.setCell ⟨p, 1, none⟩ (.slice a3 j c3)) := Chg.below_tr Bw hc5 (fun k hk e => by have h1 : k = p := e; omega)
      have hs5 : w1.heap.size ≤ (wr.setCell ⟨p, 1, none⟩ (.slice a3 j c3)).heap.size := Nat.le_trans hbw.size hc5.size
      generalize wr.setCell ⟨p, 1, none⟩ (.slice a3 j c3) = w5 at hc5 R5 Q5 hown5 B5 hs5 ⊢
      have hsrcM := RowM.src (RowM.below hr.mat B5) hn' hcb
      have hRm := RowM.mem hr.mat
      have k2 := (R5 2 _ rfl).1
      have hp5 : p < w5.heap.size := R5.lt (by simp)
      clear z1 RW hown hrow3 hc5 Bw hrw h1 hbw
      go_wp2_with (at_builtin; refine wpList_copy_new rfl _ _ 23 rfl 88 rfl i2 (.agg #[.int .i64 0, .string { data := #[] }, .string { data := #[] }]) 3 40 Tryd.underlying23 mi mz0 mz1 mz2 rfl (by decide) rfl b n' c' (encR mtC ms) rfl hsrcM (encR_one' mtC_one ms) (by unfold maxLen; omega) (by omega) ?_)
      intro v9 w6 ho9 hb6 hg9
      obtain ⟨b9, m9, d9, rfl, hl9, hm9, hcap9, _, hlow9⟩ := OwnM.of_owns ho9 hRm hg9
      obtain rfl : n' = m9 := by omega
      have R6 := R5.below hb6
      have Q6 := Q5.below hb6
      have hown6 := hown5.below hb6
      have B6 := below_tr B5 hb6
      have z2 := (R6 2 _ rfl).2
      have y2 := (R6 2 _ rfl).1
      clear R5 Q5 hown5 B5 hsrcM ho9 hg9
      go_upto_region 10 with (fail)
      have hc7 := Chg.setCell w6 ⟨p, 2, none⟩ (.slice b9 n' d9)
      have R7 : RowV (w6.setCell ⟨p, 2, none⟩ (.slice b9 n' d9)) p [.int .i64 k, .slice a3 j c3, .slice b9 n' d9, .int .i64 fr, .int .i64 tt] := R6.set 2 (by simp) _
      have Q7 := Q6.keep hc7 (fun e => hpq e.symm)
      have hown7 := hown6.other hc7 hw1.1
      have hm7 : RowM (w6.setCell ⟨p, 2, none⟩ (.slice b9 n' d9)) b9 ms := RowG.keep hm9 hc7 (fun ad e f => by have h1 := hlow9 ad.block (by rw [e]; rfl); have h2 : ad.block = p := f; omega) (fun _ _ x => x)
      have B7 : Below w.heap.size w (w6.setCell ⟨p, 2, none⟩ (.slice b9 n' d9)) := Chg.below_tr B6 hc7 (fun k hk e => by have h1 : k = p := e; omega)
      generalize w6.setCell ⟨p, 2, none⟩ (.slice b9 n' d9) = w7 at hc7 R7 Q7 hown7 hm7 B7 ⊢
      have e0 := (R7 0 _ rfl).1
      have e1 := (R7 1 _ rfl).1
      have e2 := (R7 2 _ rfl).1
      have e3 := (R7 3 _ rfl).1
      have e4 := (R7 4 _ rfl).1
      have f0 := (Q7 0 _ rfl).1
      have f1 := (Q7 1 _ rfl).1
      have f2 := (Q7 2 _ rfl).1
      have f3 := (Q7 3 _ rfl).1
      have f4 := (Q7 4 _ rfl).1
      have g0 := (Q7 0 _ rfl).2
      have g1 := (Q7 1 _ rfl).2
      have g2 := (Q7 2 _ rfl).2
      have g3 := (Q7 3 _ rfl).2
      have g4 := (Q7 4 _ rfl).2
      clear R6 Q6 hown6 B6 z2 y2 k2 hc7
      go_wp2
      generalize hW9 : (((((w7.setCell ⟨q, 0, none⟩ _).setCell ⟨q, 1, none⟩ _).setCell ⟨q, 2, none⟩ _).setCell ⟨q, 3, none⟩ _).setCell ⟨q, 4, none⟩ _) = W9
      obtain ⟨r9, c9⟩ := Q7.set5 rfl _ _ _ _ _ W9 hW9.symm
      refine bodyPost_ret (results_cell_tmp1 rfl _ _ q _ rfl (load_record W9 q _ _ _ _ _ r9)) rfl ?_
      have hown9 := (hown7.other c9 hw1.2).mono (B' := w.heap.size) (by omega)
      have hm9' : RowM W9 b9 ms := RowG.keep hm7 c9 (fun ad e f => by have h1 := hlow9 ad.block (by rw [e]; rfl); have h2 : ad.block = q := f; omega) (fun _ _ x => x)
      obtain ⟨a4, c4, hv4, hrow4, _⟩ := hown9.row
      have hv4' : (.slice a3 j c3 : Value) = .slice a4 sm.length c4 := hv4
      cases hv4'
      exact ⟨_, _, _, _, _, _, _, rfl, ⟨hrow4, hn, hm9', hn', hr.le, hr.le', hr.rf, hr.rt⟩, hown9, hcap3, hcap9, Chg.below_tr B7 c9 (fun k hk e => by have h1 : k = q := e; omega)⟩
end Go.Proofs.YtjmcpdhfefcdgaaDoor
