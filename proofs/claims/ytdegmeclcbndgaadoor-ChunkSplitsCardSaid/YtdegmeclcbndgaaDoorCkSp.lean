/- The law ChunkSplits. -/
import Derived.Test.YtdegmeclcbndgaaDoorCkWorks
namespace Go.Proofs.YtdegmeclcbndgaaDoor
open Go.RowKit Bit Tim Xo Dig Ck

namespace Ck
theorem ascB_tail (a : Int × Nat) (l : List (Int × Nat)) (h : ascB (a :: l) = true) : ascB l = true := by
  cases l with
  | nil => rfl
  | cons b l => simp only [ascB, Bool.and_eq_true] at h; exact h.2
theorem ascB_drop (l : List (Int × Nat)) (h : ascB l = true) : ∀ k, ascB (l.drop k) = true := by
  induction l with
  | nil => intro k; simp [ascB]
  | cons a l ih =>
    intro k
    cases k with
    | zero => exact h
    | succ k => exact ih (ascB_tail a l h) k
theorem ckPart_ok (ps : List (Int × Nat)) (h : ascB ps = true) (k : Nat) (hk : k < partN ps.length) : encE (ckPart ps k) = 0 ∧ encS (ckPart ps k) = encBytes (ckPart ps k) := by
  have hl := ckPart_len ps k
  unfold partN at hk
  unfold partL at hl
  exact encE_ok _ (by omega) (by omega) (ascB_take _ (ascB_drop ps h _) 64)
theorem ckPart_fit (ps : List (Int × Nat)) (h : FitP ps) (k : Nat) : FitP (ckPart ps k) := fun p hp => h p (List.mem_of_mem_drop (List.mem_of_mem_take hp))
theorem take_part (ps : List (Int × Nat)) (k : Nat) : ps.take (64 * k) ++ ckPart ps k = ps.take (64 * (k + 1)) := by
  unfold ckPart
  rw [show 64 * (k + 1) = 64 * k + 64 from by omega, List.take_add]
theorem cellsP_app (a b : List (Int × Nat)) : cellsP (ptZ a) ++ cellsP (ptZ b) = cellsP (ptZ (a ++ b)) := by
  simp [cellsP, ptZ]
end Ck

set_option maxRecDepth 100000 in
set_option maxHeartbeats 4000000 in
theorem chunkSplits_walk (a : Option Addr) (len cap : Nat) (zs : List (Int × Int)) (hz : zs.length = len) (_hs : len * 16 ≤ 140737488351232) (w : World) (hT : Tab w) (hr : RowP .i64 .u64 w a zs) (hq : (a = none → cap = 0) ∧ len ≤ cap) :
    Calls Tryd.prog 11 #[.slice a len cap] w fun e w' => e = .returned (.bool true) ∧ Below w.heap.size w w' := by
  obtain ⟨hn, hcap⟩ := hq
  obtain ⟨ps, rfl⟩ := pts_of hr
  have hpl : ps.length = len := by rw [← hz]; simp [ptZ]
  obtain ⟨i0, hi, hz0, hz1, hz2⟩ := info_parts ptinfo
  go_enter Tryd.func11, Tryd.ntmps11
  go_upto_region 3 with (go_at_call 30; refine (ckworks_any w hT).mono ?_; rintro e w0 ⟨rfl, hb0⟩)
  by_cases hbig : 500 < len
  · have hbi : (500 : Int) < (len : Int) := by omega
    go_wp2
    go_ret
    exact ⟨rfl, hb0⟩
  have hbi : ¬ (500 : Int) < (len : Int) := by omega
  have hr0 := hr.below hb0
  have Hz := Lib.hid hz
  clear hz
  go_wp2
  go_loopw [3] (fun i wr => ∃ j m : Nat, 1 ≤ j ∧ (j ≤ len ∨ j = 1) ∧ i = .int .i64 j ∧ Hid (ascB (ps.take j) = true) ∧ wr = w0.drewN m) (fun i _ => len - (intOf i).toNat)
  case atStart =>
    refine ⟨1, 0, by omega, .inr rfl, rfl, Lib.hid ?_, rfl⟩
    cases ps with
    | nil => rfl
    | cons b l => rfl
  case round =>
    obtain ⟨j, m, hj1, hj, rfl, htk, rfl⟩ := hrel
    by_cases hlt : j < len
    · obtain ⟨k, rfl⟩ : ∃ k, j = k + 1 := ⟨j - 1, by omega⟩
      have hza := List.getElem?_eq_getElem (l := ps) (i := k) (by omega)
      have hzb := List.getElem?_eq_getElem (l := ps) (i := k + 1) (by omega)
      obtain ⟨⟨t, y⟩, hVN⟩ : ∃ z, Hid (ps[k]'(by omega) = z) := ⟨_, Lib.hid rfl⟩
      obtain ⟨⟨u, y'⟩, hVN'⟩ : ∃ z, Hid (ps[k + 1]'(by omega) = z) := ⟨_, Lib.hid rfl⟩
      rw [hVN.out] at hza
      rw [hVN'.out] at hzb
      have hstep := ascB_step ps k _ _ hza hzb
      rcases hr0.row with h0 | ⟨x, rfl, hc⟩
      · have := congrArg List.length h0; simp [ptZ, hpl] at this; omega
      obtain ⟨c0, _⟩ := hc k _ (ptZ_get hza)
      obtain ⟨d0, _⟩ := hc (k + 1) _ (ptZ_get hzb)
      simp only at c0 d0
      have Hst := Lib.hid hstep
      clear hc hza hzb hstep
      have hk1 : ((k + 1 : Nat) : Int) < (len : Int) := by omega
      have hk0 : (k : Int) < (len : Int) := by omega
      have hkk : ((k + 1 : Nat) : Int) - 1 = (k : Int) := by omega
      by_cases hle : u ≤ t
      · go_upto_region 8 with (fail)
        go_quiet (fail)
        go_wp2
        go_ret
        exact ⟨rfl, below_drewN hb0 _⟩
      · have has : ascB (ps.take (k + 1 + 1)) = true := by
          rw [show k + 1 + 1 = k + 2 from rfl, Hst.out, htk.out]; simp; omega
        have Has := Lib.hid has
        clear has
        go_upto_region 8 with (fail)
        go_quiet (fail)
        go_wp2
        go_roundw
        case rel => exact ⟨k + 1 + 1, _, by omega, .inl (by omega), by go_num, Has, by first | rfl | rw [World.drewN_drewN]⟩
        case measure => simp [intOf]; omega
    · have hasc : ascB ps = true := by
        have := htk.out
        rw [List.take_of_length_le (by omega)] at this
        exact this
      have Hasc := Lib.hid hasc
      clear hasc htk
      have hbq := below_drewN hb0 m
      have hrq := hr0.below (below_drewN (Below.refl _ w0) m)
      obtain ⟨wq, hwq⟩ : ∃ wq, wq = w0.drewN m := ⟨_, rfl⟩
      rw [← hwq] at hbq hrq ⊢
      clear hwq hr0
      have hsrc := hrq.src cap hn
      rw [Hz.out] at hsrc
      have hone := cellsP_one (ptZ ps)
      have hji : ¬ (j : Int) < (len : Int) := by omega
      go_upto_region 12 with (first
        | (at_builtin; refine wpList_copy_new (w0 := wq) rfl _ _ 51 rfl 63 rfl i0 (.agg #[.int .i64 0, .int .u64 0]) 2 16 Tryd.underlying51 hi hz0 hz1 hz2 rfl (by decide) rfl a len cap (cellsP (ptZ ps)) rfl hsrc hone (by unfold maxLen; omega) (by omega) ?_; intro va w1 ho1 hb1 hva; obtain ⟨ua, uc, rfl, hru, hun, huc, _⟩ := own_rowP ho1 hr.wf)
        | (go_at_call 27; refine (csplit_any ua len uc ps hpl (by omega) w1 hun hru).mono ?_; rintro e w2 ⟨vs, xs, rfl, hos, hps, hfs, hb2⟩))
      have hb02 := below_tr (below_tr hbq hb1) hb2
      have hps2 : PartsAt w2 w1.heap.size xs ps (partN len) := hps
      have hr2 := hr.below hb02
      have hT2 := hT.below hb02 hT.pos
      obtain ⟨av, cv, rfl⟩ := owns_slice hos
      clear hsrc hone ho1 hva hb1 hru hps hrq hb2
      have hpn : partN len ≤ 8 := by unfold partN; omega
      have hfit := Lib.hid (fit_of hr)
      have Hz2 := Lib.hid hpl
      go_wp2
      go_loopw [4, 6] (fun s4 s6 wr => ∃ (i n : Nat), i ≤ partN len ∧ s6 = .int .i64 i ∧ Hid (n = min (64 * i) len) ∧ wr.ownsRow 0 63 2 s4 n (cellsP (ptZ (ps.take (64 * i)))) ∧ Hid (∀ g, s4.ownBlock = some g → w2.heap.size ≤ g) ∧ Below w2.heap.size w2 wr) (fun _ s6 _ => partN len - (intOf s6).toNat)
      case atStart => exact ⟨0, 0, by omega, rfl, Lib.hid (by simp), World.ownsRow_nil _ _ _ _, Lib.hid fun g hg => by simp [Value.ownBlock] at hg, Below.refl _ _⟩
      case round =>
        obtain ⟨i, n, hik, rfl, hnm, hown, hfr, hbel⟩ := hrel
        by_cases hlt2 : i < partN len
        · obtain ⟨ad, c, p1, p2, p3, p4⟩ := (hps2.below hbel).2 i hlt2
          obtain ⟨g, cv2, hfv, _, _, _⟩ := owns_form hos (by omega)
          simp only [Value.slice.injEq, true_and] at hfv
          obtain ⟨rfl, rfl⟩ := hfv
          obtain ⟨L, hL⟩ : ∃ L, Hid (L = partL ps.length i) := ⟨_, Lib.hid rfl⟩
          have hcl : (ckPart ps i).length = L := by rw [ckPart_len, hL.out]
          have hclz : (ptZ (ckPart ps i)).length = L := by simp [ptZ, hcl]
          have hL64 : L ≤ 64 := by have := hL.out; unfold partL at this; omega
          have hL1 : 1 ≤ L := by have := hL.out; unfold partL at this; rw [Hz2.out] at this; unfold partN at hlt2; omega
          rw [← hL.out] at p1 p2
          have ka0 := ((Chg.of_below (fun _ => False) hbel).owns hos (fun _ _ x => x)).cells (g := g) rfl i _ p1
          have ka : wr.cell? ⟨g, i, none⟩ = some (.slice (some ad) L c) := by rw [add_none, Nat.zero_add] at ka0; exact ka0
          have ka1 : (wr.alloc (.cells #[] 63)).cell? ⟨g, i, none⟩ = some (.slice (some ad) L c) := (Chg.alloc (fun _ => False) wr _).cell ka (fun x => x)
          have hsrc := p4.src c (fun e => by cases e)
          rw [hclz] at hsrc
          have hone := cellsP_one (ptZ (ckPart ps i))
          obtain ⟨E0, ES⟩ := ckPart_ok ps Hasc.out i (by rw [Hz2.out]; exact hlt2)
          have PF := ckPart_fit ps hfit.out i
          have DE := dec_enc _ E0 PF
          have Hcl := Lib.hid hcl
          have Hone := Lib.hid hone
          clear ka0 p1 hcl hclz hpl
          have hii : (i : Int) < (partN len : Int) := by omega
          have hTr := hT2.below hbel hT2.pos
          obtain ⟨S, hS⟩ : ∃ S, Hid (mkS (encS (ckPart ps i)) = S) := ⟨_, Lib.hid rfl⟩
          have hSs : S.size ≤ 10000 := by rw [← hS.out, ES]; exact encBytes_size _ (by rw [Hcl.out]; omega)
          have hSd : S.data.toList = encBytes (ckPart ps i) := by rw [← hS.out, ES, mkS_data]
          have EN := fun u uc W (hW : Tab W) (hR : RowP .i64 .u64 W u (ptZ (ckPart ps i))) => cenc_any u L uc (ckPart ps i) Hcl.out (by omega) W hW hR
          have DC := fun W (hW : Tab W) => cdec_any S hSs W hW
          rw [E0, hS.out] at EN
          rw [hSd, DE] at DC
          have Hwf := Lib.hid (wf_fit PF)
          clear hSd DE E0 ES PF
          go_upto_region 16 with (first
            | (at_builtin; refine wpList_copy_new (w0 := wr) rfl _ _ 51 rfl 63 rfl i0 (.agg #[.int .i64 0, .int .u64 0]) 2 16 Tryd.underlying51 hi hz0 hz1 hz2 rfl (by decide) rfl (some ad) L c (cellsP (ptZ (ckPart ps i))) rfl hsrc hone (by unfold maxLen; omega) (by omega) ?_; intro va w3 ho3 hb3 hva; obtain ⟨xa, xc, rfl, hx, _, _, _⟩ := own_rowP ho3 Hwf.out; have hT3 := hTr.below hb3 hTr.pos)
            | (go_at_call 25; refine (EN xa xc w3 hT3 hx).mono ?_; rintro e w4 ⟨rfl, hb4⟩))
          have hb34 := below_tr hb3 hb4
          have hT4 := hT3.below hb4 hT3.pos
          clear EN hsrc ka1 hx ho3 hva hT3 hone
          go_upto_region 17 with (go_at_call 31; refine (DC w4 hT4).mono ?_; rintro y w5 ⟨v5, rfl, ho5, _, hb5⟩)
          have hb35 := below_tr hb34 hb5
          rw [Hcl.out] at ho5
          obtain ⟨ya, yc, rfl, hy, _, _, _⟩ := own_rowP ho5 Hwf.out
          have ka5 : w5.cell? ⟨g, i, none⟩ = some (.slice (some ad) L c) := (Chg.of_below (fun _ => False) hb35).cell ka (fun x => x)
          have p5 := p4.below hb35
          have SM := same_any ya (some ad) L yc L c (ckPart ps i) (ckPart ps i) Hcl.out Hcl.out (by omega) (by omega) w5 hy p5
          rw [decide_eq_true rfl] at SM
          clear DC ho5 hy p4 ka hT4 hTr
          go_upto_region 19 with (go_at_call 29; refine SM.mono ?_; rintro y w60 ⟨rfl, m6, rfl⟩)
          obtain ⟨w6, hw6⟩ : ∃ w6, w6 = w5.drewN m6 := ⟨_, rfl⟩
          rw [← hw6]
          have hb6 : Below w5.heap.size w5 w6 := by rw [hw6]; exact below_drewN (Below.refl _ _) _
          clear hw6 SM
          have hb36 := below_tr hb35 hb6
          have ka6 : w6.cell? ⟨g, i, none⟩ = some (.slice (some ad) L c) := (Chg.of_below (fun _ => False) hb6).cell ka5 (fun x => x)
          have hnews := (p5.below hb6).src c (fun e => by cases e)
          have hclz : (ptZ (ckPart ps i)).length = L := by simp [ptZ, Hcl.out]
          rw [hclz] at hnews
          have hcell : ∀ j u, (cellsP (ptZ (ckPart ps i)))[j]? = some u → w6.cell? (ad.add j) = some u := by
            rcases hnews.2 with ⟨h, _⟩ | ⟨x, hx, h⟩
            · cases h
            · cases hx; exact h
          have hlen2 := hnews.1
          have hown6 := (Chg.of_below (fun _ => False) hb36).owns hown (fun _ _ x => x)
          have hn500 : n ≤ 500 := by have := hnm.out; omega
          have h63 : n + L ≤ maxLen := by unfold maxLen; omega
          have hby : (n + L) * 16 ≤ 140737488355328 := by omega
          have Hone2 := Hone.out
          clear hclz hnews ka5 p5 hb34 hb3 hb4 hb5
          go_upto_region 14 with (at_builtin; refine wpList_append_fp rfl _ _ 51 rfl 0 63 i0 (.agg #[.int .i64 0, .int .u64 0]) 2 16 Tryd.underlying51 hi hz0 hz1 hz2 rfl (by decide) _ _ _ rfl hown6 ad L c (cellsP (ptZ (ckPart ps i))) rfl hlen2 hcell Hone2 h63 hby (Nat.zero_le _) ?_; intro v2 w7 ho7 hgr7 _ hbk7)
          have hgr8 : w6.grownBy w7 u4.ownBlock := hgr7
          have hbk8 : v2.ownBlock = u4.ownBlock ∨ v2.ownBlock = some w6.heap.size := hbk7
          clear hgr7 hbk7
          have hb26 := below_tr hbel hb36
          have hs26 := hb26.size
          have hch7 : Chg (fun k => some k = u4.ownBlock) w6 w7 := Chg.grown hgr8
          have hbel7 : Below w2.heap.size w2 w7 := hb26.trans (hch7.below hs26 (fun k hk hf => by have := hfr.out k hf.symm; omega))
          have hfr7 : ∀ g, v2.ownBlock = some g → w2.heap.size ≤ g := fun g hg => by
            rcases hbk8 with h | h
            · exact hfr.out g (by rw [← h]; exact hg)
            · rw [h] at hg; have := Option.some.inj hg; omega
          rw [cellsP_app, take_part] at ho7
          have hnm7 : n + L = min (64 * (i + 1)) len := by
            have h1 := hL.out
            have h2 := hnm.out
            rw [Hz2.out] at h1
            unfold partL at h1
            unfold partN at hlt2
            omega
          have Hnm7 := Lib.hid hnm7
          have Hfr7 := Lib.hid hfr7
          clear hgr8 hbk8 hb26 hch7 hfr7 hnm7 hbel hown hown6 hcell hlen2 ka6 hb35 hb36 hb6 hfr hs26
          go_wp2
          go_roundw
          case rel => exact ⟨i + 1, n + L, by omega, by go_num, Hnm7, ho7, Hfr7, hbel7⟩
          case measure => simp [intOf]; omega
        · have hie : i = partN len := by omega
          have hnl : n = len := by have := hnm.out; unfold partN at hie; omega
          have htk2 : ps.take (64 * i) = ps := List.take_of_length_le (by rw [Hz2.out]; unfold partN at hie; omega)
          rw [htk2, hnl] at hown
          obtain ⟨qa, qc, rfl, hq, _, _, _⟩ := own_rowP hown (wf_fit hfit.out)
          have SM := same_any qa a len qc len cap ps ps Hz2.out Hz2.out (by omega) (by omega) wr hq (hr2.below hbel)
          rw [decide_eq_true rfl] at SM
          have hbf := below_tr hb02 hbel
          have hii : ¬ (i : Int) < (partN len : Int) := by omega
          clear htk2 hnl hie hown hq hr2 hbel hpl
          go_wp2_with (go_at_call 29; refine SM.mono ?_; rintro y w9 ⟨rfl, m9, rfl⟩)
          go_ret
          exact ⟨rfl, below_drewN hbf _⟩
end Go.Proofs.YtdegmeclcbndgaaDoor
