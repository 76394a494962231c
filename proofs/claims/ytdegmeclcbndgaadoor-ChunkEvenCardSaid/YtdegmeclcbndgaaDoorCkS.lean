/- Points compared; points in parts. -/
import Derived.Test.YtdegmeclcbndgaaDoorCkR
import Derived.Test.YtdegmeclcbndgaaDoorCopy
import Derived.Test.YtdegmeclcbndgaaDoorRow
namespace Go.Proofs.YtdegmeclcbndgaaDoor
open Go.RowKit Bit Tim Xo Dig Ck

theorem ptZ_get {ps : List (Int × Nat)} {j : Nat} {a : Int × Nat} (h : ps[j]? = some a) : (ptZ ps)[j]? = some (a.1, (a.2 : Int)) := by rw [ptZ, List.getElem?_map, h]; rfl

set_option maxRecDepth 100000 in
set_option maxHeartbeats 2000000 in
theorem same_any (a b : Option Addr) (la ca lb cb : Nat) (xs ys : List (Int × Nat)) (ha : xs.length = la) (hb : ys.length = lb) (hla : la ≤ 4611686018427387904) (hlb : lb ≤ 4611686018427387904) (w : World) (hr : RowP .i64 .u64 w a (ptZ xs)) (hs : RowP .i64 .u64 w b (ptZ ys)) :
    Calls Tryd.prog 29 #[.slice a la ca, .slice b lb cb] w fun e w' => e = .returned (.bool (decide (xs = ys))) ∧ ∃ m, w' = w.drewN m := by
  go_enter Tryd.func29, Tryd.ntmps29
  by_cases hl : la = lb
  · have hli : (la : Int) = (lb : Int) := by omega
    subst hl
    go_wp2
    go_loopw [5] (fun i wr => ∃ j m : Nat, j ≤ la ∧ i = .int .i64 j ∧ Hid (xs.take j = ys.take j) ∧ wr = w.drewN m) (fun i _ => la - (intOf i).toNat)
    case atStart => exact ⟨0, 0, by omega, rfl, Lib.hid rfl, rfl⟩
    case round =>
      obtain ⟨j, m, hj, rfl, htk, rfl⟩ := hrel
      by_cases hlt : j < la
      · have hji : (j : Int) < (la : Int) := by omega
        have hza := List.getElem?_eq_getElem (l := xs) (i := j) (by omega)
        have hzb := List.getElem?_eq_getElem (l := ys) (i := j) (by omega)
        obtain ⟨⟨t, y⟩, hVN⟩ : ∃ z, Hid (xs[j]'(by omega) = z) := ⟨_, Lib.hid rfl⟩
        obtain ⟨⟨t', y'⟩, hVN'⟩ : ∃ z, Hid (ys[j]'(by omega) = z) := ⟨_, Lib.hid rfl⟩
        rw [hVN.out] at hza
        rw [hVN'.out] at hzb
        rcases hr.row with h0 | ⟨x, rfl, hc⟩
        · have := congrArg List.length h0; simp [ptZ, ha] at this; omega
        rcases hs.row with h0 | ⟨x', rfl, hc'⟩
        · have := congrArg List.length h0; simp [ptZ, hb] at this; omega
        obtain ⟨c0, c1⟩ := hc j _ (ptZ_get hza)
        obtain ⟨d0, d1⟩ := hc' j _ (ptZ_get hzb)
        simp only at c0 c1 d0 d1
        have Ha := Lib.hid hza
        have Hb := Lib.hid hzb
        clear hc hc' hza hzb
        by_cases ht : t = t'
        · subst ht
          by_cases hy : y = y'
          · subst hy
            go_upto_region 6 with (fail)
            go_quiet (fail)
            go_wp2
            go_roundw
            case rel => exact ⟨j + 1, _, by omega, by go_num, Lib.hid (by rw [List.take_add_one, List.take_add_one, htk.out, Ha.out, Hb.out]), by first | rfl | rw [World.drewN_drewN]⟩
            case measure => simp [intOf]; omega
          · have hn : ¬ (y : Int) = (y' : Int) := by omega
            have hne : ¬ xs = ys := fun e => by
              have h1 := Ha.out; rw [e, Hb.out] at h1; cases h1; exact hy rfl
            have Hne := Lib.hid hne
            clear hne
            go_upto_region 6 with (fail)
            go_quiet (fail)
            go_wp2
            go_ret
            exact ⟨ret_bool (decide_eq_false Hne.out).symm, m + nq, by rw [World.drewN_drewN]⟩
        · have hne : ¬ xs = ys := fun e => by
            have h1 := Ha.out; rw [e, Hb.out] at h1; cases h1; exact ht rfl
          have Hne := Lib.hid hne
          clear hne
          go_upto_region 6 with (fail)
          go_quiet (fail)
          go_wp2
          go_ret
          exact ⟨ret_bool (decide_eq_false Hne.out).symm, m + nq, by rw [World.drewN_drewN]⟩
      · obtain rfl : j = la := by omega
        have heq : xs = ys := by
          have := htk.out
          rw [List.take_of_length_le (by omega), List.take_of_length_le (by omega)] at this
          exact this
        have Heq := Lib.hid heq
        clear heq
        go_wp2
        go_ret
        exact ⟨ret_bool (decide_eq_true Heq.out).symm, m, rfl⟩
  · have hli : ¬ (la : Int) = (lb : Int) := by omega
    have hne : ¬ xs = ys := fun e => hl (by rw [← ha, ← hb, e])
    have Hne := Lib.hid hne
    clear hne hl
    go_wp2
    go_ret
    exact ⟨ret_bool (decide_eq_false Hne.out).symm, 0, rfl⟩

/-- The cells of pairs. -/
def cellsP (zs : List (Int × Int)) : List Value := zs.flatMap fun z => [.int .i64 z.1, .int .u64 z.2]
theorem cellsP_len (zs : List (Int × Int)) : (cellsP zs).length = zs.length * 2 := by
  induction zs with
  | nil => rfl
  | cons z zs ih => simp only [cellsP, List.flatMap_cons, List.length_append, List.length_cons, List.length_nil] at ih ⊢; omega
theorem cellsP_get (zs : List (Int × Int)) : ∀ i z, zs[i]? = some z → (cellsP zs)[2 * i]? = some (.int .i64 z.1) ∧ (cellsP zs)[2 * i + 1]? = some (.int .u64 z.2) := by
  induction zs with
  | nil => intro i z h; simp at h
  | cons y zs ih =>
    intro i z h
    cases i with
    | zero => simp at h; subst h; exact ⟨rfl, rfl⟩
    | succ i =>
      have := ih i z (by simpa using h)
      have e : cellsP (y :: zs) = .int .i64 y.1 :: .int .u64 y.2 :: cellsP zs := rfl
      rw [e, show 2 * (i + 1) = 2 * i + 2 from by omega]
      exact this
theorem cellsP_one (zs : List (Int × Int)) : ∀ u ∈ cellsP zs, u.oneCell' = true := by
  intro u hu
  unfold cellsP at hu
  rw [List.mem_flatMap] at hu
  obtain ⟨z, _, hz⟩ := hu
  simp at hz
  rcases hz with rfl | rfl <;> rfl
theorem cellsP_of {zs : List (Int × Int)} {j : Nat} {u : Value} (h : (cellsP zs)[j]? = some u) : ∃ i z, zs[i]? = some z ∧ ((j = 2 * i ∧ u = .int .i64 z.1) ∨ (j = 2 * i + 1 ∧ u = .int .u64 z.2)) := by
  have hj : j < zs.length * 2 := by
    rw [← cellsP_len]
    rcases Nat.lt_or_ge j (cellsP zs).length with h1 | h1
    · exact h1
    · rw [List.getElem?_eq_none h1] at h; cases h
  have hz := List.getElem?_eq_getElem (l := zs) (i := j / 2) (by omega)
  obtain ⟨h0, h1⟩ := cellsP_get zs _ _ hz
  refine ⟨j / 2, _, hz, ?_⟩
  rcases (by omega : j = 2 * (j / 2) ∨ j = 2 * (j / 2) + 1) with e | e
  · rw [← e, h] at h0
    exact .inl ⟨e, Option.some.inj h0⟩
  · rw [← e, h] at h1
    exact .inr ⟨e, Option.some.inj h1⟩

theorem RowP.src {w : World} {a : Option Addr} {zs : List (Int × Int)} (h : RowP .i64 .u64 w a zs) (c : Nat) (hn : a = none → c = 0) : Src w 2 a zs.length c (cellsP zs) := by
  refine ⟨cellsP_len zs, ?_⟩
  cases a with
  | none =>
    left
    refine ⟨rfl, ?_, hn rfl⟩
    rcases h.row with h0 | ⟨x, hx, _⟩
    · rw [h0]; rfl
    · cases hx
  | some ad =>
    right
    refine ⟨ad, rfl, fun j u hu => ?_⟩
    obtain ⟨i, z, hz, hc⟩ := cellsP_of hu
    rcases h.row with h0 | ⟨x, hx, hr⟩
    · rw [h0] at hz; simp at hz
    · cases hx
      obtain ⟨r0, r1⟩ := hr i z hz
      rcases hc with ⟨rfl, rfl⟩ | ⟨rfl, rfl⟩
      · rw [Nat.mul_comm]; exact r0
      · rw [Nat.mul_comm, add_field _ _ _ (by decide)]; exact r1

/-- Pairs in a block, from a place on. -/
def PairsAt (w : World) (g o : Nat) (zs : List (Int × Int)) : Prop := ∀ i z, zs[i]? = some z → w.cell? ⟨g, o + 2 * i, none⟩ = some (.int .i64 z.1) ∧ w.cell? ⟨g, o + 2 * i + 1, none⟩ = some (.int .u64 z.2)
theorem add_none (g o j : Nat) : (⟨g, o, none⟩ : Addr).add j = ⟨g, o + j, none⟩ := by unfold Addr.add; split <;> simp [*]
theorem PairsAt.rowP {w : World} {g o : Nat} {zs : List (Int × Int)} (h : PairsAt w g o zs) (wf : ∀ z ∈ zs, (Lit.int .i64 z.1).wf = true ∧ (Lit.int .u64 z.2).wf = true) : RowP .i64 .u64 w (some ⟨g, o, none⟩) zs := by
  refine ⟨wf, .inr ⟨_, rfl, fun i z hz => ?_⟩⟩
  have := h i z hz
  rw [add_none, Nat.mul_comm]
  exact this
theorem PairsAt.keep {F : Nat → Prop} {w w' : World} {g o : Nat} {zs : List (Int × Int)} (h : PairsAt w g o zs) (hc : Chg F w w') (hf : ¬ F g) : PairsAt w' g o zs := fun i z hz => ⟨hc.cell (h i z hz).1 hf, hc.cell (h i z hz).2 hf⟩
theorem PairsAt.drop {w : World} {g o : Nat} {zs : List (Int × Int)} (h : PairsAt w g o zs) (k : Nat) : PairsAt w g (o + 2 * k) (zs.drop k) := fun i z hz => by
  rw [List.getElem?_drop] at hz
  have := h _ z hz
  rw [show o + 2 * (k + i) = o + 2 * k + 2 * i from by omega] at this
  exact this
theorem PairsAt.take {w : World} {g o : Nat} {zs : List (Int × Int)} (h : PairsAt w g o zs) (k : Nat) : PairsAt w g o (zs.take k) := fun i z hz => by
  rw [List.getElem?_take] at hz
  split at hz
  · exact h i z hz
  · cases hz
theorem pairs_own {w : World} {base : Nat} {e : TypeId} {g n cap : Nat} {zs : List (Int × Int)} (h : w.ownsRow base e 2 (.slice (some ⟨g, 0, none⟩) n cap) n (cellsP zs)) : PairsAt w g 0 zs := fun i z hz => by
  obtain ⟨h0, h1⟩ := cellsP_get zs i z hz
  have c0 := h.cells (g := g) rfl _ _ h0
  have c1 := h.cells (g := g) rfl _ _ h1
  rw [add_none] at c0 c1
  exact ⟨c0, by rw [Nat.add_assoc]; exact c1⟩
theorem ptZ_take (ps : List (Int × Nat)) (k : Nat) : ptZ (ps.take k) = (ptZ ps).take k := by unfold ptZ; rw [List.map_take]
theorem ptZ_drop (ps : List (Int × Nat)) (k : Nat) : ptZ (ps.drop k) = (ptZ ps).drop k := by unfold ptZ; rw [List.map_drop]
theorem wf_drop {zs : List (Int × Int)} (h : ∀ z ∈ zs, (Lit.int .i64 z.1).wf = true ∧ (Lit.int .u64 z.2).wf = true) (k n : Nat) : ∀ z ∈ (zs.drop k).take n, (Lit.int .i64 z.1).wf = true ∧ (Lit.int .u64 z.2).wf = true :=
  fun z hz => h z (List.mem_of_mem_drop (List.mem_of_mem_take hz))

theorem owns_form {w : World} {base : Nat} {e : TypeId} {size : Nat} {v : Value} {n : Nat} {xs : List Value} (h : w.ownsRow base e size v n xs) (hn : 0 < n) : ∃ g cap, v = .slice (some ⟨g, 0, none⟩) n cap ∧ g < w.heap.size ∧ n ≤ cap ∧ cap ≤ maxLen := by
  have hl := fun g => owns_lt h (g := g)
  rcases h.2 with ⟨_, h0⟩ | ⟨g, cap, cur, hv, hb, hg, h1, h2, _⟩
  · omega
  · exact ⟨g, cap, hv, hl g (by rw [hv]; rfl), h1, h2⟩

theorem ptinfo : (Tryd.prog.info? 63).map (fun i => (i.zero, i.size, i.bytes)) = some (some (.agg #[.int .i64 0, .int .u64 0]), 2, 16) := by kernel_rfl
theorem slinfo : (Tryd.prog.info? 51).map (fun i => (i.zero, i.size, i.bytes)) = some (some (.slice none 0 0), 1, 24) := by kernel_rfl

namespace Ck
/-- How many parts, and how many points in each. -/
def partN (n : Nat) : Nat := (n + 63) / 64
def partL (n k : Nat) : Nat := min 64 (n - 64 * k)
def ckPart (ps : List (Int × Nat)) (k : Nat) : List (Int × Nat) := (ps.drop (64 * k)).take 64
theorem ckPart_len (ps : List (Int × Nat)) (k : Nat) : (ckPart ps k).length = partL ps.length k := by
  unfold ckPart partL; rw [List.length_take, List.length_drop]
end Ck

/-- These slices are the parts. -/
def PartsAt (w : World) (B : Nat) (xs : List Value) (ps : List (Int × Nat)) (n : Nat) : Prop :=
  xs.length = n ∧ ∀ k, k < n → ∃ ad c, xs[k]? = some (.slice (some ad) (partL ps.length k) c) ∧ partL ps.length k ≤ c ∧ B ≤ ad.block ∧ RowP .i64 .u64 w (some ad) (ptZ (ckPart ps k))

structure SpOut (w : World) (ps : List (Int × Nat)) (n : Nat) (y : Ending) (w' : World) : Prop where
  ex : ∃ v xs, y = .returned v ∧ w'.ownsRow 0 51 1 v n xs ∧ PartsAt w' w.heap.size xs ps n ∧ (∀ g, v.ownBlock = some g → w.heap.size ≤ g) ∧ Below w.heap.size w w'

set_option maxRecDepth 100000 in
set_option maxHeartbeats 2000000 in
theorem csplit_any (a : Option Addr) (len cap : Nat) (ps : List (Int × Nat)) (hz : ps.length = len) (hlen : len ≤ 500) (w : World) (hn : a = none → cap = 0) (hr : RowP .i64 .u64 w a (ptZ ps)) :
    Calls Tryd.prog 27 #[.slice a len cap] w (SpOut w ps (partN len)) := by
  obtain ⟨i0, hi, hz0, hz1, hz2⟩ := info_parts ptinfo
  obtain ⟨i1, hj, hy0, hy1, hy2⟩ := info_parts slinfo
  have hzl : (ptZ ps).length = len := by simp [ptZ, hz]
  have hsrc := hr.src cap hn
  rw [hzl] at hsrc
  have hone := cellsP_one (ptZ ps)
  go_enter Tryd.func27, Tryd.ntmps27
  go_upto_region 3 with (at_builtin; refine wpList_copy_new (w0 := w) rfl _ _ 51 rfl 63 rfl i0 (.agg #[.int .i64 0, .int .u64 0]) 2 16 Tryd.underlying51 hi hz0 hz1 hz2 rfl (by decide) rfl a len cap (cellsP (ptZ ps)) rfl hsrc hone (by unfold maxLen; omega) (by omega) ?_; intro va w1 ho1 hb1 hva)
  clear hsrc hone
  obtain ⟨g, cap0, hform⟩ : ∃ g cap0, Hid (0 < len → va = .slice (some ⟨g, 0, none⟩) len cap0 ∧ g < w1.heap.size ∧ len ≤ cap0 ∧ cap0 ≤ maxLen ∧ w.heap.size ≤ g ∧ PairsAt w1 g 0 (ptZ ps)) := by
    by_cases h0 : 0 < len
    · obtain ⟨g, cap0, h1, h2, h3, h4⟩ := owns_form ho1 h0
      exact ⟨g, cap0, Lib.hid fun _ => ⟨h1, h2, h3, h4, hva g (by rw [h1]; rfl), pairs_own (by rw [← h1]; exact ho1)⟩⟩
    · exact ⟨0, 0, Lib.hid fun h => absurd h h0⟩
  obtain ⟨ua, ucap, rfl⟩ := owns_slice ho1
  clear hva ho1
  go_wp2
  go_loopw [3, 4] (fun s3 s4 wr => ∃ (i : Nat) (xs : List Value) (ao : Option Addr) (c : Nat), i ≤ partN len ∧ s4 = .slice ao (len - 64 * i) c ∧ Hid (64 * i < len → ao = some ⟨g, 128 * i, none⟩ ∧ c + 64 * i = cap0) ∧ wr.ownsRow 0 51 1 s3 i xs ∧
      Hid (xs = (List.range i).map fun k => .slice (some ⟨g, 128 * k, none⟩) (partL len k) (partL len k)) ∧ Hid (0 < len → PairsAt wr g 0 (ptZ ps)) ∧ Hid (∀ g', s3.ownBlock = some g' → w.heap.size ≤ g' ∧ (0 < len → g' ≠ g)) ∧ Below w.heap.size w wr)
    (fun _ s4 _ => match s4 with | .slice _ n _ => n | _ => 0)
  case atStart =>
    refine ⟨0, [], ua, ucap, by omega, rfl, Lib.hid fun h => ?_, World.ownsRow_nil _ _ _ _, Lib.hid rfl, Lib.hid fun h => (hform.out h).2.2.2.2.2, Lib.hid fun g' hg => by simp [Value.ownBlock] at hg, hb1⟩
    have := (hform.out (by omega)).1
    simp only [Value.slice.injEq] at this
    exact ⟨this.1, this.2.2⟩
  case round =>
    obtain ⟨i, xs, ao, c, hik, rfl, hao, hown, hxs, hpr, hfr, hbel⟩ := hrel
    obtain ⟨n, hn⟩ : ∃ n, Hid (n = len - 64 * i) := ⟨_, Lib.hid rfl⟩
    rw [← hn.out]
    by_cases h0 : 0 < n
    · have hil : 64 * i < len := by have := hn.out; omega
      have hlen0 : 0 < len := by omega
      obtain ⟨rfl, hcc⟩ := hao.out hil
      obtain ⟨_, hgl, hcap, hcm, hgw, _⟩ := hform.out hlen0
      obtain ⟨M, hM⟩ : ∃ M, Hid (M = partL len i) := ⟨_, Lib.hid rfl⟩
      have hMn : M ≤ n ∧ M ≤ 64 ∧ 1 ≤ M := by have := hM.out; have := hn.out; unfold partL at *; omega
      obtain ⟨hM1, hM2, hM3⟩ := hMn
      have hmin : min (n : Int) 64 = (M : Int) := by have h1 := hM.out; have h2 := hn.out; unfold partL at h1; omega
      have hn0 : (0 : Int) < (n : Int) := by omega
      have hnc : n ≤ c := by have := hn.out; omega
      have hMi : (M : Int) ≤ (c : Int) := by omega
      have hMn2 : (M : Int) ≤ (n : Int) := by omega
      unfold maxLen at hcm
      have hcb : (c : Int) ≤ 9223372036854775807 := by omega
      have hib : i ≤ 500 := by unfold partN at hik; omega
      have h63 : i + 1 ≤ maxLen := by unfold maxLen; omega
      have hby : (i + 1) * 24 ≤ 140737488355328 := by omega
      go_upto_region 5 with (fail)
      go_upto_region 6 with (at_builtin; refine wpList_append_fp rfl _ _ 55 rfl 0 51 i1 (.slice none 0 0) 1 24 Tryd.underlying55 hj hy0 hy1 hy2 rfl (by decide) _ _ _ rfl (hown.alloc _) ⟨_, 0, none⟩ 1 1 [.slice (some ⟨g, 128 * i, none⟩) M M] rfl rfl ?c1 ?c2 h63 hby (Nat.zero_le _) ?_)
      case c2 => simp [Value.oneCell']
      intro v2 w3 ho2 hgr2 _ hbk2
      have hwa : Below wr.heap.size wr (wr.alloc (.cells #[.slice (some ⟨g, 128 * i, none⟩) M M] 51)) := (Below.refl _ _).alloc (Nat.le_refl _) _
      have hu3 : ∀ k, u3.ownBlock = some k → w.heap.size ≤ k ∧ k ≠ g := fun k hk => ⟨(hfr.out k hk).1, (hfr.out k hk).2 hlen0⟩
      have hch3 : Chg (fun k => u3.ownBlock = some k) wr w3 := (Chg.of_below _ hwa).trans (Chg.grown hgr2) (fun _ _ x => x.symm)
      have hbel3 : Below w.heap.size w w3 := hbel.trans (hch3.below hbel.size (fun k hk hf => by have := hu3 k hf; omega))
      have hg3 : g < wr.heap.size := World.block_lt_of_cell? wr _ (hpr.out hlen0 0 (ptZ ps)[0] (List.getElem?_eq_getElem (by omega))).1
      have hpr3 : PairsAt w3 g 0 (ptZ ps) := (hpr.out hlen0).keep hch3 (fun hf => (hu3 g hf).2 rfl)
      have hsz3 : (wr.alloc (.cells #[.slice (some ⟨g, 128 * i, none⟩) M M] 51)).heap.size = wr.heap.size + 1 := by simp
      have hfr3 : ∀ g', v2.ownBlock = some g' → w.heap.size ≤ g' ∧ (0 < len → g' ≠ g) := fun g' hg' => by
        rcases hbk2 with h | h
        · have := hu3 g' (by rw [← h]; exact hg')
          exact ⟨this.1, fun _ => this.2⟩
        · rw [h] at hg'
          have h9 := Option.some.inj hg'
          have := hbel.size
          exact ⟨by omega, fun _ => by omega⟩
      have hxs3 : xs ++ [.slice (some ⟨g, 128 * i, none⟩) M M] = (List.range (i + 1)).map fun k => .slice (some ⟨g, 128 * k, none⟩) (partL len k) (partL len k) := by
        rw [List.range_succ, List.map_append, ← hxs.out, hM.out]; rfl
      rw [hxs3] at ho2
      have Hpr3 := Lib.hid hpr3
      have Hfr3 := Lib.hid hfr3
      clear hwa hu3 hch3 hpr3 hfr3 hxs3 hgr2 hbk2 hown hbel hsz3
      have hil2 : i + 1 ≤ partN len := by unfold partN; omega
      have hnM : n - M = len - 64 * (i + 1) := by have := hn.out; have := hM.out; unfold partL at this; omega
      have HnM := Lib.hid hnM
      clear hnM
      go_wp2
      go_roundw
      case rel =>
        refine ⟨i + 1, _, _, c - M, hil2, by rw [← HnM.out], Lib.hid fun h => ?_, ho2, Lib.hid rfl, Lib.hid fun _ => Hpr3.out, Hfr3, hbel3⟩
        have e1 : M = 64 := by have := hM.out; unfold partL at this; omega
        rw [if_neg (by omega)]
        refine ⟨?_, by omega⟩
        rw [show 128 * i + M * 2 = 128 * (i + 1) from by omega]
      case measure => simp; omega
    · have hn0 : ¬ (0 : Int) < (n : Int) := by omega
      have hik2 : i = partN len := by have := hn.out; unfold partN at *; omega
      subst hik2
      go_wp2
      go_ret
      refine ⟨_, xs, rfl, hown, ⟨by rw [hxs.out]; simp, fun k hk => ?_⟩, fun g' hg' => (hfr.out g' hg').1, hbel⟩
      have hlen0 : 0 < len := by unfold partN at hk; omega
      refine ⟨⟨g, 128 * k, none⟩, partL len k, ?_, ?_, ?_, ?_⟩
      · rw [hxs.out, hz, List.getElem?_map, List.getElem?_range hk]; rfl
      · rw [hz]; exact Nat.le_refl _
      · exact (hform.out hlen0).2.2.2.2.1
      · have h1 := ((hpr.out hlen0).drop (64 * k)).take 64
        rw [← ptZ_drop, ← ptZ_take] at h1
        rw [show 0 + 2 * (64 * k) = 128 * k from by omega] at h1
        refine h1.rowP ?_
        show ∀ z ∈ ptZ ((ps.drop (64 * k)).take 64), _
        rw [ptZ_take, ptZ_drop]
        exact wf_drop hr.wf _ _

theorem RowP.sub {w : World} {x : Addr} {zs : List (Int × Int)} (h : RowP .i64 .u64 w (some x) zs) (k n : Nat) : RowP .i64 .u64 w (some (x.add (k * 2))) ((zs.drop k).take n) := by
  refine ⟨wf_drop h.wf k n, ?_⟩
  rcases h.row with h0 | ⟨y, hy, hc⟩
  · left; rw [h0]; simp
  · cases hy
    refine .inr ⟨_, rfl, fun i z hz => ?_⟩
    rw [List.getElem?_take] at hz
    split at hz
    · rw [List.getElem?_drop] at hz
      have := hc _ z hz
      rw [Go.Deep.add_add, ← Nat.add_mul]
      exact this
    · cases hz

set_option maxRecDepth 100000 in
set_option maxHeartbeats 2000000 in
theorem rsplit_any (a : Option Addr) (len cap : Nat) (ps : List (Int × Nat)) (hz : ps.length = len) (hlen : len ≤ 500) (w : World) (hcap : len ≤ cap) (hr : RowP .i64 .u64 w a (ptZ ps)) :
    Calls Tryd.prog 28 #[.slice a len cap] w (SpOut w ps (partN len)) := by
  obtain ⟨i0, hi, hz0, hz1, hz2⟩ := info_parts ptinfo
  obtain ⟨i1, hj, hy0, hy1, hy2⟩ := info_parts slinfo
  have hzl : (ptZ ps).length = len := by simp [ptZ, hz]
  go_enter Tryd.func28, Tryd.ntmps28
  go_wp2
  go_loopw [3, 4] (fun s3 s4 wr => ∃ (i I : Nat) (xs : List Value), i ≤ partN len ∧ s4 = .int .i64 (I : Nat) ∧ Hid (I = 64 * i) ∧ wr.ownsRow 0 51 1 s3 i xs ∧
      Hid (xs.length = i ∧ ∀ k, k < i → ∃ ad c, xs[k]? = some (.slice (some ad) (partL ps.length k) c) ∧ partL ps.length k ≤ c ∧ w.heap.size ≤ ad.block ∧ s3.ownBlock ≠ some ad.block ∧ ad.block < wr.heap.size ∧ RowP .i64 .u64 wr (some ad) (ptZ (ckPart ps k))) ∧
      Hid (∀ g', s3.ownBlock = some g' → w.heap.size ≤ g') ∧ Below w.heap.size w wr)
    (fun _ s4 _ => len - (intOf s4).toNat)
  case atStart => exact ⟨0, 0, [], by omega, rfl, Lib.hid rfl, World.ownsRow_nil _ _ _ _, Lib.hid ⟨rfl, fun k hk => by omega⟩, Lib.hid fun g' hg => by simp [Value.ownBlock] at hg, Below.refl _ _⟩
  case round =>
    obtain ⟨i, I, xs, hik, rfl, hI, hown, hxs, hfr, hbel⟩ := hrel
    have hib : i ≤ 500 := by unfold partN at hik; omega
    by_cases hil : I < len
    · have hr2 := hr.below hbel
      obtain ⟨x, rfl⟩ : ∃ x, a = some x := by
        rcases hr.row with h0 | ⟨x, hx, _⟩
        · rw [h0] at hzl; simp at hzl; omega
        · exact ⟨x, hx⟩
      obtain ⟨M, hM⟩ : ∃ M, Hid (M = partL len i) := ⟨_, Lib.hid rfl⟩
      have hMn : I + M ≤ len ∧ M ≤ 64 ∧ 1 ≤ M := by have := hM.out; have := hI.out; unfold partL at *; omega
      obtain ⟨hM1, hM2, hM3⟩ := hMn
      have hsub := hr2.sub I 64
      have hpt : ((ptZ ps).drop I).take 64 = ptZ (ckPart ps i) := by rw [hI.out]; unfold ckPart; rw [ptZ_take, ptZ_drop]
      rw [hpt] at hsub
      have hpl : (ptZ (ckPart ps i)).length = M := by unfold ptZ; rw [List.length_map, ckPart_len, hz, hM.out]
      have hsrc := hsub.src (cap - I) (fun e => by cases e)
      rw [hpl] at hsrc
      have hone := cellsP_one (ptZ (ckPart ps i))
      have hili : (I : Int) < (len : Int) := by omega
      have hmin : min (len : Int) ((I : Int) + 64) = ((I + M : Nat) : Int) := by have h1 := hM.out; have := hI.out; unfold partL at h1; omega
      obtain ⟨E, hE⟩ : ∃ E, Hid (E = I + M) := ⟨_, Lib.hid rfl⟩
      rw [← hE.out] at hmin
      have hm0 : (I : Int) ≤ (E : Int) := by have := hE.out; omega
      have hm1 : (E : Int) ≤ (cap : Int) := by have := hE.out; omega
      have hne : ¬ cap = I := by omega
      have hsubM : E - I = M := by have := hE.out; omega
      have hIb : (I : Int) ≤ 500 := by omega
      have h63 : i + 1 ≤ maxLen := by unfold maxLen; omega
      have hby : (i + 1) * 24 ≤ 140737488355328 := by omega
      have Hpl := Lib.hid hpl
      have Hpt := Lib.hid hpt
      have tok : True := trivial
      clear hpl hpt hsub hr2 hzl
      go_upto_region 5 with (fail)
      go_upto_region 6 with (first
        | (at_builtin; have _t := tok; refine wpList_copy_new (w0 := wr) rfl _ _ 51 rfl 63 rfl i0 (.agg #[.int .i64 0, .int .u64 0]) 2 16 Tryd.underlying51 hi hz0 hz1 hz2 rfl (by decide) rfl (some (x.add (I * 2))) M (cap - I) (cellsP (ptZ (ckPart ps i))) rfl hsrc hone (by unfold maxLen; omega) (by omega) ?_; intro va w1 ho1 hb1 hva; clear tok; obtain ⟨g, c, rfl, hgl, hgc, hgm⟩ := owns_form ho1 (by omega); have hown1 := (Chg.of_below (fun _ => False) hb1).owns hown (fun _ _ x => x))
        | (at_builtin; refine wpList_append_fp rfl _ _ 55 rfl 0 51 i1 (.slice none 0 0) 1 24 Tryd.underlying55 hj hy0 hy1 hy2 rfl (by decide) _ _ _ rfl (hown1.alloc _) ⟨_, 0, none⟩ 1 1 [.slice (some ⟨g, 0, none⟩) M c] rfl rfl (World.news_of_block (heap_alloc_new w1 _)) (by simp [Value.oneCell']) h63 hby (Nat.zero_le _) ?_; intro v2 w3 ho2 hgr2 _ hbk2))
      have hwa : Below w1.heap.size w1 (w1.alloc (.cells #[.slice (some ⟨g, 0, none⟩) M c] 51)) := (Below.refl _ _).alloc (Nat.le_refl _) _
      have hs1 := hb1.size
      have hgw : wr.heap.size ≤ g := hva g rfl
      have hbw := hbel.size
      have hu3 : ∀ k, u3.ownBlock = some k → w.heap.size ≤ k ∧ k < wr.heap.size := fun k hk => ⟨hfr.out k hk, owns_lt hown hk⟩
      have hch3 : Chg (fun k => u3.ownBlock = some k) w1 w3 := (Chg.of_below _ hwa).trans (Chg.grown hgr2) (fun _ _ x => x.symm)
      have hs3 := hch3.size
      have hbel3 : Below w.heap.size w w3 := (below_tr hbel hb1).trans (hch3.below (Nat.le_trans hbw hs1) (fun k hk hf => by have := hu3 k hf; omega))
      have hsz3 : (w1.alloc (.cells #[.slice (some ⟨g, 0, none⟩) M c] 51)).heap.size = w1.heap.size + 1 := by simp
      have hbk3 : v2.ownBlock = u3.ownBlock ∨ v2.ownBlock = some (w1.alloc (.cells #[.slice (some ⟨g, 0, none⟩) M c] 51)).heap.size := hbk2
      have hv2 : ∀ k, v2.ownBlock = some k → (w.heap.size ≤ k) ∧ (k < wr.heap.size ∧ u3.ownBlock = some k ∨ w1.heap.size < k) := fun k hk => by
        rcases hbk3 with h | h
        · have h2 : u3.ownBlock = some k := by rw [← h]; exact hk
          exact ⟨(hu3 k h2).1, .inl ⟨(hu3 k h2).2, h2⟩⟩
        · rw [h] at hk
          have h9 := Option.some.inj hk
          exact ⟨by omega, .inr (by omega)⟩
      obtain ⟨hx1, hx2⟩ := hxs.out
      have hpn : RowP .i64 .u64 w3 (some ⟨g, 0, none⟩) (ptZ (ckPart ps i)) := by
        refine PairsAt.rowP ((pairs_own ho1).keep hch3 (fun hf => by have := (hu3 g hf).2; omega)) ?_
        show ∀ z ∈ ptZ ((ps.drop (64 * i)).take 64), _
        rw [ptZ_take, ptZ_drop]
        exact wf_drop hr.wf _ _
      have hparts : (xs ++ [Value.slice (some ⟨g, 0, none⟩) M c]).length = i + 1 ∧ ∀ k, k < i + 1 → ∃ ad c', (xs ++ [Value.slice (some ⟨g, 0, none⟩) M c])[k]? = some (Value.slice (some ad) (partL ps.length k) c') ∧ partL ps.length k ≤ c' ∧ w.heap.size ≤ ad.block ∧ v2.ownBlock ≠ some ad.block ∧ ad.block < w3.heap.size ∧ RowP .i64 .u64 w3 (some ad) (ptZ (ckPart ps k)) := by
        refine ⟨by rw [List.length_append, hx1]; rfl, fun k hk => ?_⟩
        rcases (by omega : k < i ∨ k = i) with hk | rfl
        · obtain ⟨ad, c', p1, p2, p3, p4, p5, p6⟩ := hx2 k hk
          refine ⟨ad, c', by rw [List.getElem?_append_left (by omega)]; exact p1, p2, p3, fun e => ?_, by omega, ?_⟩
          · rcases (hv2 _ e).2 with ⟨_, h⟩ | h
            · exact p4 h
            · omega
          · have p7 := p6.below hb1
            refine ⟨p7.wf, ?_⟩
            rcases p7.row with h0 | ⟨y, hy, hc⟩
            · exact .inl h0
            · refine .inr ⟨y, hy, fun n z hz2 => ?_⟩
              cases hy
              have hnf : ¬ (u3.ownBlock = some ad.block) := p4
              exact ⟨hch3.cell (hc n z hz2).1 (by rw [add_block]; exact hnf), hch3.cell (hc n z hz2).2 (by show ¬ u3.ownBlock = some (ad.add (n * 2)).block; rw [add_block]; exact hnf)⟩
        · refine ⟨⟨g, 0, none⟩, c, ?_, ?_, by show w.heap.size ≤ g; omega, fun e => ?_, by show g < w3.heap.size; omega, hpn⟩
          · rw [List.getElem?_append_right (by omega), hx1, Nat.sub_self, hz, ← hM.out]; rfl
          · rw [hz, ← hM.out]; exact hgc
          · have e2 := (hv2 g e).2
            rcases e2 with ⟨h, _⟩ | h <;> omega
      have Hparts := Lib.hid hparts
      have Hfr3 := Lib.hid (fun k hk => (hv2 k hk).1)
      clear hwa hu3 hch3 hparts hxs hx1 hx2 hv2 hgr2 hbk2 hbk3 hown hown1 hbel hsz3 hva ho1 hb1 hpn hsrc hone
      have hil2 : i + 1 ≤ partN len := by have := hI.out; unfold partN; omega
      have hI2 : Hid (I + 64 = 64 * (i + 1)) := Lib.hid (by have := hI.out; omega)
      go_wp2
      go_roundw
      case rel => exact ⟨i + 1, I + 64, _, hil2, by go_num, hI2, ho2, Hparts, Hfr3, hbel3⟩
      case measure => simp [intOf]; omega
    · have hili : ¬ (I : Int) < (len : Int) := by omega
      have hik2 : i = partN len := by have := hI.out; unfold partN at *; omega
      subst hik2
      obtain ⟨hx1, hx2⟩ := hxs.out
      have hp : PartsAt wr w.heap.size xs ps (partN len) := ⟨hx1, fun k hk => by
        obtain ⟨ad, c', p1, p2, p3, p4, p5, p6⟩ := hx2 k hk
        exact ⟨ad, c', p1, p2, p3, p6⟩⟩
      clear hx1 hx2
      go_wp2
      go_ret
      exact ⟨_, xs, rfl, hown, hp, hfr.out, hbel⟩

theorem own_rowP {w : World} {base : Nat} {e : TypeId} {v : Value} {n : Nat} {zs : List (Int × Int)} (h : w.ownsRow base e 2 v n (cellsP zs)) (wf : ∀ z ∈ zs, (Lit.int .i64 z.1).wf = true ∧ (Lit.int .u64 z.2).wf = true) :
    ∃ a c, v = .slice a n c ∧ RowP .i64 .u64 w a zs ∧ (a = none → c = 0) ∧ n ≤ c ∧ zs.length = n := by
  have hl : zs.length = n := by have := h.1; rw [cellsP_len] at this; omega
  rcases Nat.eq_zero_or_pos n with h0 | h0
  · subst h0
    have hz : zs = [] := List.length_eq_zero_iff.mp hl
    rcases h.2 with ⟨h1, _⟩ | ⟨g, cap, cur, hv, _⟩
    · exact ⟨none, 0, h1, ⟨wf, .inl hz⟩, fun _ => rfl, Nat.le_refl _, hl⟩
    · exact ⟨_, cap, hv, ⟨wf, .inl hz⟩, fun e => (by cases e), Nat.zero_le _, hl⟩
  · obtain ⟨g, cap, hv, _, h2, _⟩ := owns_form h h0
    refine ⟨_, cap, hv, ?_, fun e => (by cases e), h2, hl⟩
    rw [hv] at h
    exact (pairs_own h).rowP wf
theorem pts_of {w : World} {a : Option Addr} {zs : List (Int × Int)} (h : RowP .i64 .u64 w a zs) : ∃ ps, zs = ptZ ps := by
  refine ⟨zs.map fun z => (z.1, z.2.toNat), ?_⟩
  have key : ∀ l : List (Int × Int), (∀ z ∈ l, 0 ≤ z.2) → l = ptZ (l.map fun z => (z.1, z.2.toNat)) := by
    intro l hl
    induction l with
    | nil => rfl
    | cons z l ih =>
      have h1 := hl z (by simp)
      have h2 := ih (fun y hy => hl y (by simp [hy]))
      rw [List.map_cons]
      unfold ptZ at h2 ⊢
      rw [List.map_cons, ← h2]
      congr 1
      obtain ⟨p, q⟩ := z
      simp only [Prod.mk.injEq, true_and] at h1 ⊢
      omega
  exact key zs (fun z hz => (wf_u64 (h.wf z hz).2).1)
theorem PartsAt.below {w w' : World} {B : Nat} {xs : List Value} {ps : List (Int × Nat)} {n : Nat} (h : PartsAt w B xs ps n) (hb : Below w.heap.size w w') : PartsAt w' B xs ps n :=
  ⟨h.1, fun k hk => by obtain ⟨ad, c, h1, h2, h3, h4⟩ := h.2 k hk; exact ⟨ad, c, h1, h2, h3, h4.below hb⟩⟩

section
open Go.ChangeShapes Go.WideShapes
variable {H : Type} {enc : TypeId × Value → H} {P : Program} {w : World} {base : Nat} {spare : Nat → Bool} {held : Bool}
/-- A slice that came in: its length and its capacity. -/
theorem capP_of {t e : TypeId} {f0 f1 : Field} {a : Option Addr} {len cap : Nat} {d : DataW H} {ps : List MemPlace} (ht : P.underlying t = some (.slice e)) (he : P.underlying e = some (.struct #[f0, f1]))
    (ce : P.cellsOf e = 2) (o0 : f0.offset = 0) (o1 : f1.offset = 1) (c0 : P.cellsOf f0.type = 1) (c1 : P.cellsOf f1.type = 1)
    (h : DataW.Trod enc P w base spare held t (.slice a len cap) d ps) : (a = none → cap = 0) ∧ len ≤ cap := by
  obtain ⟨fuel, hf⟩ := h
  rcases Go.Deep.open_slice_pairs ht he ce o0 o1 c0 c1 hf with ⟨hcs, _⟩ | ⟨x, l, c, m, n, V0, V1, D0, D1, P0, P1, hcs, _, hl, _⟩
  · simp [Value.cells] at hcs
    obtain ⟨rfl, rfl, rfl⟩ := hcs
    exact ⟨fun _ => rfl, Nat.le_refl _⟩
  · simp [Value.cells] at hcs
    obtain ⟨rfl, rfl, rfl⟩ := hcs
    exact ⟨fun e => (by cases e), hl⟩
end
end Go.Proofs.YtdegmeclcbndgaaDoor
