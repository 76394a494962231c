/- The document's reader of patterns: Get. -/
import Derived.Test.YtdegmeclcbndgaaDoorXorK
namespace Go.Proofs.YtdegmeclcbndgaaDoor
open Go.RowKit Bit Tim Xo

namespace Xo
theorem guess_bound (s : XS) (ok : XOk s) {L : List Bool} {x n : Nat} (h : guess s L = some (x, n)) : x < 18446744073709551616 := by
  unfold guess at h
  split at h
  · cases hg : guessD s L with
    | none => rw [hg] at h; cases h
    | some y =>
      obtain ⟨d, m⟩ := y
      rw [hg] at h
      cases h
      refine xor_lt ok.1 ?_
      unfold guessD at hg
      split at hg
      · cases hg
      · cases hg; decide
      · cases hg
      · split at hg
        · rename_i hc
          cases hg
          exact in_bound s ok _ hc.2
        · cases hg
      · split at hg
        · rename_i hc
          cases hg
          exact new_bound _ _ _ _ hc.2.1 rfl hc.2.2
        · cases hg
  · split at h
    · rename_i h64
      cases h
      have hv := valB_lt (L.take 64)
      have hl : (L.take 64).length = 64 := by rw [List.length_take]; omega
      rw [hl] at hv
      exact hv
    · cases h
end Xo

structure VrOut (w : World) (c p : Nat) (s : XS) (v : Value) (L : List Bool) (y : Ending) (w' : World) : Prop where
  ex : ∃ (t : Nat) (ok : Bool), y = .returned (.tuple #[.int .u64 (t : Nat), .bool ok]) ∧ Chg (fun k => k = c ∨ k = p) w w' ∧
      (ok = true → ∃ n v', getV s L = some (t, n) ∧ XInv w' p v' (L.drop n) ∧ v'.ownBlock = v.ownBlock ∧ JInv w' c (s.next t)) ∧ (ok = false → getV s L = none ∧ t = 0)

set_option maxRecDepth 100000 in
set_option maxHeartbeats 2000000 in
theorem vrget_any (w : World) (c p : Nat) (s : XS) (v : Value) (L : List Bool) (hC : JInv w c s) (h : XInv w p v L) (hcp : c ≠ p) (hcv : v.ownBlock ≠ some c) (hL : L.length ≤ 1000000) :
    Calls Tryd.prog 22 #[.pointer (some ⟨c, 0, none⟩), .pointer (some ⟨p, 0, none⟩)] w (VrOut w c p s v L) := by
  obtain ⟨a, ca, rfl, hsrc⟩ := h.src
  obtain ⟨i0, hi, hz0, hz1, hz2⟩ := info_parts boolinfo
  have hv0 := h.c0
  have hpl : p < w.heap.size := h.lt
  have hcl : c < w.heap.size := hC.lt
  have hone : ∀ u ∈ encL L, u.oneCell' = true := by
    intro u hu; rw [encL, List.mem_map] at hu; obtain ⟨b, _, rfl⟩ := hu; rfl
  go_enter Tryd.func22, Tryd.ntmps22
  go_upto_region 2 with (at_builtin; refine wpList_copy_new (w0 := w) rfl _ _ 32 rfl 4 rfl i0 (.bool false) 1 1 Tryd.underlying32 hi hz0 hz1 hz2 rfl (by decide) rfl a L.length ca (encL L) rfl hsrc hone (by unfold maxLen; omega) (by omega) ?_; intro va w1 ho1 hb1 hva)
  have hX1 := h.keep (Chg.of_below (fun _ => False) hb1) (fun _ _ x => x)
  have hC1 := hC.keep (Chg.of_below (fun _ => False) hb1) (fun x => x)
  have hcv' : ∀ g, (Value.slice a L.length ca).ownBlock = some g → g < w.heap.size ∨ L = [] := by
    intro g hg
    cases hL0 : L with
    | nil => exact .inr rfl
    | cons b R => exact .inl (h.lt2 b R hL0 g hg)
  clear hsrc hone hv0
  obtain ⟨bl, hbl⟩ : ∃ bl, Hid (bl = (Value.slice a L.length ca).ownBlock) := ⟨_, Lib.hid rfl⟩
  have hok0 := hC1.ok
  have P1 := rguess_any w1 c p s _ L hC1 hX1 hcp
  go_upto_region 3 with (go_at_call 43; refine P1.mono ?_; rintro y wc ⟨X, okk, L', v1, rfl, h3, hv3, hc3, h4, h5⟩)
  cases okk with
  | false =>
    have hg : getV s L = none := by unfold getV; rw [h5 rfl]
    have Hg := Lib.hid hg
    clear hg h4 h5 P1
    go_wp2
    go_ret2
    exact ⟨0, false, rfl, (Chg.of_below (fun k => k = c ∨ k = p) hb1).trans hc3 (fun _ _ x => .inr x), by simp, fun _ => ⟨Hg.out, rfl⟩⟩
  | true =>
    obtain ⟨t, n, rfl, hgs, hnl, rfl⟩ := h4 rfl
    have htb := guess_bound s hok0 hgs
    have hcand : Hid (getV s L = if encV s t = L.take n then some (t, n) else none) := Lib.hid (by unfold getV; rw [hgs])
    have hv1 : Hid (v1.ownBlock = bl) := Lib.hid (by rw [hv3, hbl.out])
    have hXc := h3
    have hcc := hc3
    clear h3 hc3 hv3 h4 h5 P1 hgs
    have hCc := hC1.keep hcc hcp
    have hbw := hb1.size
    have hcs := hcc.size
    have hoc : wc.ownsRow 0 4 1 va L.length (encL L) := hcc.owns ho1 (fun g hg e => by have := hva g hg; omega)
    have hvac : ∀ g, va.ownBlock = some g → w.heap.size ≤ g ∧ g < wc.heap.size := fun g hg => ⟨hva g hg, owns_lt hoc hg⟩
    have hchw : Chg (fun k => k = c ∨ k = p) w wc := (Chg.of_below (fun k => k = c ∨ k = p) hb1).trans hcc (fun _ _ x => .inr x)
    clear hX1 hC1 hcc ho1 hb1 hva h hC
    go_upto_region 6 with (fail)
    obtain ⟨q, hq⟩ : ∃ q, Hid (q = wc.heap.size) := ⟨_, Lib.hid rfl⟩
    have hba : Below wc.heap.size wc (wc.alloc (.cells #[.slice none 0 0] 34)) := (Below.refl _ _).alloc (Nat.le_refl _) _
    have hCR : KR (wc.alloc (.cells #[.slice none 0 0] 34)) c q s (.slice none 0 0) [] := by
      rw [hq.out]
      exact ⟨hCc.keep (Chg.of_below (fun _ => False) hba) (fun x => x), ⟨by simp, by simp, World.ownsRow_nil _ _ _ _, by simp [Value.ownBlock]⟩, by omega, by simp [Value.ownBlock]⟩
    have hch00 : Chg (fun _ => False) wc (wc.alloc (.cells #[.slice none 0 0] 34)) := Chg.of_below _ hba
    have ho0 := (Chg.of_below (fun _ => False) hba).owns hoc (fun _ _ x => x)
    have hch0 : Chg (fun k => k = c ∨ k = p) w (wc.alloc (.cells #[.slice none 0 0] 34)) := hchw.trans (Chg.of_below (fun _ => False) hba) (fun _ _ x => x.elim)
    have hsa : (wc.alloc (.cells #[.slice none 0 0] 34)).heap.size = wc.heap.size + 1 := by simp
    rw [← hq.out]
    generalize (wc.alloc (.cells #[.slice none 0 0] 34)) = w2 at hCR hch00 ho0 hch0 hsa ⊢
    go_upto_region 7 with (go_at_call 15; refine (vrput_any w2 c q s _ [] t htb hCR (by simp)).mono ?_; rintro e w3 ⟨rfl, u, hc3, hS3⟩)
    rw [List.nil_append] at hc3 hS3
    have hF : ∀ k, k < wc.heap.size → k ≠ c → ¬ (fpW q (.slice none 0 0) k ∨ k = c) := by
      intro k hk hkc hf
      rcases hf with (e | e) | e
      · have := hq.out; omega
      · simp [Value.ownBlock] at e
      · exact hkc e
    have hcomb : Chg (fun k => fpW q (.slice none 0 0) k ∨ k = c) wc w3 := (hch00.mono (fun _ _ x => x.elim)).trans hS3.chg (fun _ _ x => x)
    have hX3 : XInv w3 p v1 (L.drop n) := hXc.keep2 hcomb (hF p (by have := hXc.lt; omega) (fun e => hcp e.symm)) (fun g hg hgl => hF g hgl (fun e => hcv (by rw [← hbl.out, ← hv1.out, hg, e])))
    have hoa : w3.ownsRow 0 4 1 va L.length (encL L) := hS3.chg.owns ho0 (fun g hg => hF g (hvac g hg).2 (by have := (hvac g hg).1; omega))
    have hch3 : Chg (fun k => k = c ∨ k = p) w w3 := hchw.trans hcomb (fun k hk hf => by
      by_cases e : k = c
      · exact .inl e
      · exact absurd hf (hF k (by omega) e))
    have hln : (L.drop n).length = L.length - n := List.length_drop
    obtain ⟨E, hE⟩ : ∃ E, Hid (E = encV s t) := ⟨_, Lib.hid rfl⟩
    have hEp : 0 < E.length := by rw [hE.out]; exact encV_pos s t
    have hEl : E.length ≤ 77 := by rw [hE.out]; exact encV_len s t
    rw [← hE.out] at hc3
    have hcand2 : Hid (getV s L = if E = L.take n then some (t, n) else none) := Lib.hid (by rw [hE.out]; exact hcand.out)
    clear hS3 hcomb hch00 hCR ho0 hch0 hoc hchw hXc hCc hcand hF hba
    obtain ⟨hCI, hRI, _, _⟩ := hc3
    obtain ⟨r0, rf, rown, rne⟩ := id hRI
    obtain ⟨gu, cu, rfl, _, _⟩ := World.ownsRow.form rown hEp
    obtain ⟨a1, c1, rfl, hs1⟩ := hX3.src
    have x0 := hX3.c0
    have hLp : 0 < L.length ∨ ¬ E.length = n := by omega
    obtain ⟨a2, c2, rfl⟩ := owns_slice hoa
    obtain ⟨M, hM⟩ : ∃ M, Hid (M = (L.drop n).length) := ⟨_, Lib.hid rfl⟩
    rw [← hM.out] at x0
    rw [← hM.out] at hln
    have hMi : (L.length : Int) - (M : Int) = (n : Int) := by omega
    have hMb : (M : Int) ≤ 1000000 := by omega
    have hLb : (L.length : Int) ≤ 1000000 := by omega
    have hEb : (E.length : Int) ≤ 77 := by omega
    go_upto_region 7 with (fail)
    by_cases hEn : E.length = n
    · have hEni : (E.length : Int) = (n : Int) := by omega
      obtain ⟨g2, cap2, hfm, _, _⟩ := World.ownsRow.form hoa (by omega)
      simp only [Value.slice.injEq, true_and] at hfm
      obtain ⟨rfl, rfl⟩ := hfm
      go_quiet (fail)
      go_wp2
      go_loopw [10] (fun i wr => ∃ (j : Nat), j ≤ E.length ∧ i = .int .i64 j ∧ Hid (E.take j = L.take j) ∧ Chg (fun _ => False) w3 wr) (fun i _ => 100 - (intOf i).toNat)
      case atStart => exact ⟨0, by omega, rfl, Lib.hid rfl, Chg.drewN _ _ _⟩
      case round =>
        obtain ⟨j, hj, rfl, htk, hch⟩ := hrel
        have hRr := hRI.keep hch (fun _ _ x => x)
        have r0' := hRr.c0
        have hRo := hRr.own
        by_cases hlt : j < E.length
        · have hji : (j : Int) < (E.length : Int) := by omega
          have hjL : j < L.length := by omega
          have hjLi : (j : Int) < (L.length : Int) := by omega
          obtain ⟨b1, hb1⟩ : ∃ b1, Hid (E[j]? = some b1) := ⟨_, Lib.hid (List.getElem?_eq_getElem hlt)⟩
          obtain ⟨b2, hb2⟩ : ∃ b2, Hid (L[j]? = some b2) := ⟨_, Lib.hid (List.getElem?_eq_getElem hjL)⟩
          have k1 : wr.cell? ⟨gu, j, none⟩ = some (.bool b1) := by rw [hRo.cellAt j (by omega)]; simp [encL, hb1.out]
          have k2 : wr.cell? ⟨g2, j, none⟩ = some (.bool b2) := by rw [(hch.owns hoa (fun _ _ x => x)).cellAt j (by omega)]; simp [encL, hb2.out]
          by_cases hbb : b1 = b2
          · subst hbb
            go_upto_region 12 with (fail)
            go_quiet (fail)
            go_wp2
            go_roundw
            case rel => exact ⟨j + 1, by omega, by go_num, Lib.hid (by rw [List.take_add_one, List.take_add_one, htk.out, hb1.out, hb2.out]), hch.trans (Chg.drewN _ _ _) (fun _ _ x => x)⟩
            case measure => simp [intOf]; omega
          · have hbn : (b1 == b2) = false := by simpa using hbb
            have hne : ¬ E = L.take n := by
              intro e
              have h9 : E[j]? = (L.take n)[j]? := congrArg (fun l => l[j]?) e
              rw [hb1.out, List.getElem?_take, if_pos (by omega), hb2.out] at h9
              exact hbb (Option.some.inj h9)
            have HNE := Lib.hid hne
            clear hne hbb
            go_upto_region 12 with (fail)
            go_quiet (fail)
            go_wp2
            go_ret2
            exact ⟨0, false, rfl, (hch3.trans hch (fun _ _ x => x.elim)).trans (Chg.drewN (fun _ => False) _ _) (fun _ _ x => x.elim), by simp, fun _ => ⟨by rw [hcand2.out, if_neg HNE.out], rfl⟩⟩
        · obtain rfl : j = E.length := by omega
          go_wp2
          go_ret2
          have hEL : E = L.take n := by
            have := htk.out
            rw [List.take_of_length_le (Nat.le_refl _)] at this
            rw [← hEn]; exact this
          exact ⟨t, true, rfl, hch3.trans hch (fun _ _ x => x.elim), fun _ => ⟨n, _, by rw [hcand2.out, if_pos hEL], hX3.keep hch (fun _ _ x => x), by rw [hv1.out, hbl.out], hCI.keep hch (fun x => x)⟩, by simp⟩
    · have hEni : ¬ (E.length : Int) = (n : Int) := by omega
      go_quiet (fail)
      go_wp2
      go_ret2
      exact ⟨0, false, rfl, hch3.trans (Chg.drewN (fun _ => False) _ _) (fun _ _ x => x.elim), by simp, fun _ => ⟨by rw [hcand2.out, if_neg (fun e => hEn (by rw [e, List.length_take]; omega))], rfl⟩⟩
end Go.Proofs.YtdegmeclcbndgaaDoor
