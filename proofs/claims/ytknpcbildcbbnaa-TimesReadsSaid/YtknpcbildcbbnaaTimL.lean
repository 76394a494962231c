/- The document's reader of times: Get. -/
import Derived.Test.YtknpcbildcbbnaaTimK
namespace Go.Proofs.Ytknpcbildcbbnaa
open Go.RowKit Bit Tim

theorem XInv.src {w : World} {p : Nat} {v : Value} {L : List Bool} (h : XInv w p v L) : ∃ a c, v = .slice a L.length c ∧ Src w 1 a L.length c (encL L) := by
  rcases h.sl with ⟨rfl, rfl⟩ | ⟨g, o, cap, rfl, _, _, hc⟩
  · exact ⟨none, 0, rfl, by simp [encL], .inl ⟨rfl, rfl, rfl⟩⟩
  · refine ⟨_, cap, rfl, by simp [encL], .inr ⟨_, rfl, fun j u hu => ?_⟩⟩
    rw [encL, List.getElem?_map] at hu
    cases hb : L[j]? with
    | none => simp [hb] at hu
    | some b =>
      simp [hb] at hu
      rw [← hu]
      have e : (Addr.add ⟨g, o, none⟩ j) = ⟨g, o + j, none⟩ := by unfold Addr.add; split <;> simp [*]
      rw [e]; exact hc j b hb

theorem XInv.keep2 {F : Nat → Prop} {w w' : World} {p : Nat} {v : Value} {L : List Bool} (h : XInv w p v L) (hc : Chg F w w') (hp : ¬ F p) (hf : ∀ g, v.ownBlock = some g → g < w.heap.size → ¬ F g) : XInv w' p v L := by
  have hlt := World.block_lt_of_cell? w _ h.c0
  refine ⟨hc.cell h.c0 hp, by rw [hc.frozen (a := ⟨p, 0, none⟩) hlt hp]; exact h.f0, ?_, h.ne⟩
  rcases h.sl with h1 | ⟨g, o, cap, hv, h1, h2, h3⟩
  · exact .inl h1
  · exact .inr ⟨g, o, cap, hv, h1, h2, fun j b hj => hc.cell (h3 j b hj) (hf g (by rw [hv]; rfl) (World.block_lt_of_cell? w _ (h3 j b hj)))⟩

namespace Tim
theorem encT_pos (s : St) (t : Int) : 0 < (encT s t).length := by
  unfold encT
  split
  · unfold encX
    repeat' split
    all_goals simp [bitsOf_length]
  · rw [bitsOf_length]; omega
theorem cand_first (s : St) (L : List Bool) (hb : s.b = false) (h : 64 ≤ L.length) : getT s L = if encT s (wrap64 (valB (L.take 64) : Nat)) = L.take 64 then some (wrap64 (valB (L.take 64) : Nat), 64) else none := by
  have hl : (L.take 64).length = 64 := by rw [List.length_take]; omega
  have hv := valB_lt (L.take 64)
  rw [hl] at hv
  have e : (2 : Nat) ^ 64 = 18446744073709551616 := by decide
  rw [e] at hv
  have h1 : (IntKind.u64.wrap (wrap64 (valB (L.take 64) : Nat))).toNat = valB (L.take 64) := by
    have hw : ∀ x : Int, IntKind.u64.wrap x = x % 18446744073709551616 := fun x => by simp [IntKind.wrap, IntKind.bits, IntKind.signed]
    rw [hw]; unfold wrap64; omega
  have h2 : encT s (wrap64 (valB (L.take 64) : Nat)) = L.take 64 := by
    unfold encT
    rw [hb, if_neg (by simp), h1, bitsOf_valB _ _ hl]
  rw [if_pos h2]
  unfold getT
  rw [hb, if_neg (by simp), if_pos h]
theorem none_first (s : St) (L : List Bool) (hb : s.b = false) (h : ¬ 64 ≤ L.length) : getT s L = none := by
  unfold getT
  rw [hb, if_neg (by simp), if_neg h]
theorem cand_next (s : St) (L : List Bool) (hb : s.b = true) (x : Int) (n : Nat) (h : parse L = some (x, n)) (hx : -9223372036854775808 ≤ x ∧ x < 9223372036854775808) :
    getT s L = if encT s (wrap64 (wrap64 (s.t + s.d) + x)) = L.take n then some (wrap64 (wrap64 (s.t + s.d) + x), n) else none := by
  have h1 : encT s (wrap64 (wrap64 (s.t + s.d) + x)) = encX x := by
    unfold encT
    rw [hb, if_pos rfl]
    congr 1
    unfold chgX wrap64; omega
  rw [h1]
  unfold getT decX
  rw [hb, if_pos rfl, h]
  simp only
  by_cases he : encX x = L.take n
  · rw [if_pos he, if_pos he]
  · rw [if_neg he, if_neg he]
theorem none_next (s : St) (L : List Bool) (hb : s.b = true) (h : parse L = none) : getT s L = none := by
  unfold getT decX
  rw [hb, if_pos rfl, h]
theorem parse_fit (L : List Bool) (x : Int) (n : Nat) (h : parse L = some (x, n)) : -9223372036854775808 ≤ x ∧ x < 9223372036854775808 := by
  unfold parse at h
  split at h
  · simp at h
  · split at h
    · simp only [Option.some.injEq, Prod.mk.injEq] at h
      rw [← h.1]; exact wrap_fit _
    · simp at h
end Tim

structure TrOut (w : World) (c p : Nat) (s : St) (v : Value) (L : List Bool) (y : Ending) (w' : World) : Prop where
  ex : ∃ (t : Int) (ok : Bool), y = .returned (.tuple #[.int .i64 t, .bool ok]) ∧ Chg (fun k => k = c ∨ k = p) w w' ∧
      (ok = true → ∃ n v', getT s L = some (t, n) ∧ XInv w' p v' (L.drop n) ∧ v'.ownBlock = v.ownBlock ∧ CInv w' c (s.next t)) ∧ (ok = false → getT s L = none ∧ t = 0)

set_option maxRecDepth 100000 in
set_option maxHeartbeats 2000000 in
theorem trget_any (w : World) (c p : Nat) (s : St) (v : Value) (L : List Bool) (hC : CInv w c s) (h : XInv w p v L) (hcp : c ≠ p) (hcv : v.ownBlock ≠ some c) (hL : L.length ≤ 1000000) :
    Calls Try.prog 28 #[.pointer (some ⟨c, 0, none⟩), .pointer (some ⟨p, 0, none⟩)] w (TrOut w c p s v L) := by
  obtain ⟨a, ca, rfl, hsrc⟩ := h.src
  obtain ⟨i0, hi, hz0, hz1, hz2⟩ := info_parts boolinfo
  have hv0 := h.c0
  have hpl : p < w.heap.size := h.lt
  have hcl : c < w.heap.size := World.block_lt_of_cell? w _ hC.c0
  have hone : ∀ u ∈ encL L, u.oneCell' = true := by
    intro u hu; rw [encL, List.mem_map] at hu; obtain ⟨b, _, rfl⟩ := hu; rfl
  go_enter Try.func28, Try.ntmps28
  go_upto_region 2 with (at_builtin; refine wpList_copy_new (w0 := w) rfl _ _ 26 rfl 4 rfl i0 (.bool false) 1 1 Try.underlying26 hi hz0 hz1 hz2 rfl (by decide) rfl a L.length ca (encL L) rfl hsrc hone (by unfold maxLen; omega) (by omega) ?_; intro va w1 ho1 hb1 hva)
  have hX1 := h.keep (Chg.of_below (fun _ => False) hb1) (fun _ _ x => x)
  have hC1 := hC.keep (Chg.of_below (fun _ => False) hb1) (fun x => x)
  have hcv' : ∀ g, (Value.slice a L.length ca).ownBlock = some g → g < w.heap.size ∨ L = [] := by
    intro g hg
    cases hL0 : L with
    | nil => exact .inr rfl
    | cons b R => exact .inl (h.lt2 b R hL0 g hg)
  clear hsrc hone hv0
  obtain ⟨bl, hbl⟩ : ∃ bl, Hid (bl = (Value.slice a L.length ca).ownBlock) := ⟨_, Lib.hid rfl⟩
  obtain ⟨B, hB⟩ : ∃ B, Hid (s.b = B) := ⟨_, Lib.hid rfl⟩
  have c0 : w1.cell? ⟨c, 0, none⟩ = some (.bool B) := by rw [← hB.out]; exact hC1.c0
  go_upto_if 24 with (fail)
  go_cut [7, 8, 9, 10, 11] from 20 to 51 (fun t7 _ _ _ _ wc => ∃ (t : Int) (n : Nat) (v1 : Value), t7 = .int .i64 t ∧ n ≤ L.length ∧ Hid (getT s L = if encT s t = L.take n then some (t, n) else none) ∧ XInv wc p v1 (L.drop n) ∧ Hid (v1.ownBlock = bl) ∧ Chg (fun k => k = p) w1 wc)
  case first =>
    cases B with
    | false =>
      have hb : s.b = false := hB.out
      by_cases h64 : 64 ≤ L.length
      · have hcand := Lib.hid (cand_first s L hb h64)
        have G1 := refget_some w1 p _ L 64 hX1 (by omega) h64
        obtain ⟨V, hV⟩ : ∃ V, Hid (V = valB (L.take 64)) := ⟨_, Lib.hid rfl⟩
        rw [← hV.out] at G1 hcand
        go_wp2_with (go_at_call 21; refine G1.mono ?_; rintro y w3 ⟨rfl, ⟨v3, h3, hv3⟩, hc3⟩)
        go_meet
        case rel => exact ⟨_, 64, v3, rfl, h64, hcand, h3, Lib.hid (by rw [hv3, hbl.out]), hc3⟩
      · have hcand := none_first s L hb h64
        have G1 := refget_none w1 p _ L 64 hX1 (by omega)
        go_wp2_with (go_at_call 21; refine G1.mono ?_; rintro y w3 ⟨rfl, rfl⟩)
        go_ret2
        exact ⟨0, false, rfl, Chg.of_below _ hb1, by simp, fun _ => ⟨hcand, rfl⟩⟩
    | true =>
      have hb : s.b = true := hB.out
      have P1 := rchange_any w1 p _ L hX1
      go_upto_region 9 with (go_at_call 34; refine P1.mono ?_; rintro y w3 ⟨x, ok, L', v3, rfl, h3, hv3, hc3, h4, h5⟩)
      have hC3 := hC1.keep hc3 hcp
      obtain ⟨d0, d1, d2, e0, e1, e2⟩ := id hC3
      cases ok with
      | false =>
        have hcand := none_next s L hb (h5 rfl)
        go_wp2
        go_ret2
        exact ⟨0, false, rfl, (Chg.of_below (fun k => k = c ∨ k = p) hb1).trans hc3 (fun _ _ x => .inr x), by simp, fun _ => ⟨hcand, rfl⟩⟩
      | true =>
        obtain ⟨n, hn, hnl, rfl⟩ := h4 rfl
        have hcand := Lib.hid (cand_next s L hb x n hn (parse_fit L x n hn))
        have Hn := Lib.hid hn
        clear hn h4 h5
        go_upto_region 11 with (fail)
        go_quiet (fail)
        go_wp2
        go_meet
        case rel => exact ⟨_, n, v3, rfl, hnl, hcand, h3.keep (Chg.drewN (fun _ => False) _ _) (fun _ _ x => x), Lib.hid (by rw [hv3, hbl.out]), hc3.trans (Chg.drewN (fun _ => False) _ _) (fun _ _ x => x.elim)⟩
  case rest =>
    obtain ⟨t, n, v1, rfl, hnl, hcand, hXc, hv1, hcc⟩ := hcut
    have hCc := hC1.keep hcc hcp
    have hbw := hb1.size
    have hcs := hcc.size
    have hoc : wc.ownsRow 0 4 1 va L.length (encL L) := hcc.owns ho1 (fun g hg e => by have := hva g hg; omega)
    have hvac : ∀ g, va.ownBlock = some g → w.heap.size ≤ g ∧ g < wc.heap.size := fun g hg => ⟨hva g hg, owns_lt hoc hg⟩
    have hchw : Chg (fun k => k = c ∨ k = p) w wc := (Chg.of_below (fun k => k = c ∨ k = p) hb1).trans hcc (fun _ _ x => .inr x)
    clear c0 hX1 hC1 hcc ho1 hb1 hva h hC
    go_upto_region 13 with (fail)
    obtain ⟨q, hq⟩ : ∃ q, Hid (q = wc.heap.size) := ⟨_, Lib.hid rfl⟩
    have hba : Below wc.heap.size wc (wc.alloc (.cells #[.slice none 0 0] 28)) := (Below.refl _ _).alloc (Nat.le_refl _) _
    have hCR : CR (wc.alloc (.cells #[.slice none 0 0] 28)) c q s (.slice none 0 0) [] := by
      rw [hq.out]
      exact ⟨hCc.keep (Chg.of_below (fun _ => False) hba) (fun x => x), ⟨by simp, by simp, World.ownsRow_nil _ _ _ _, by simp [Value.ownBlock]⟩, by omega, by simp [Value.ownBlock]⟩
    have hch00 : Chg (fun _ => False) wc (wc.alloc (.cells #[.slice none 0 0] 28)) := Chg.of_below _ hba
    have ho0 := (Chg.of_below (fun _ => False) hba).owns hoc (fun _ _ x => x)
    have hch0 : Chg (fun k => k = c ∨ k = p) w (wc.alloc (.cells #[.slice none 0 0] 28)) := hchw.trans (Chg.of_below (fun _ => False) hba) (fun _ _ x => x.elim)
    have hsa : (wc.alloc (.cells #[.slice none 0 0] 28)).heap.size = wc.heap.size + 1 := by simp
    rw [← hq.out]
    generalize (wc.alloc (.cells #[.slice none 0 0] 28)) = w2 at hCR hch00 ho0 hch0 hsa ⊢
    go_upto_region 14 with (go_at_call 26; refine (trput_any w2 c q s _ [] t hCR (by simp)).mono ?_; rintro e w3 ⟨rfl, u, hc3, hS3⟩)
    rw [List.nil_append] at hc3 hS3
    have hF : ∀ k, k < wc.heap.size → k ≠ c → ¬ (fpW q (.slice none 0 0) k ∨ k = c) := by
      intro k hk hkc hf
      rcases hf with (e | e) | e
      · have := hq.out; omega
      · simp [Value.ownBlock] at e
      · exact hkc e
    have hcomb : Chg (fun k => fpW q (.slice none 0 0) k ∨ k = c) wc w3 := (hch00.mono (fun _ _ x => x.elim)).trans hS3.chg (fun _ _ x => x)
    have hX3 : XInv w3 p v1 (L.drop n) := hXc.keep2 hcomb (hF p (by have := hXc.lt; omega) (fun e => hcp e.symm)) (fun g hg hgl => hF g hgl (fun e => hcv (by rw [← hbl.out, ← hv1.out, hg, e])))
    have hoa : w3.ownsRow 0 4 1 va L.length (encL L) := hS3.chg.owns ho0 (fun g hg => hF g (hvac g hg).2 (by have := (hvac g hg).1; omega))
    have hch3 : Chg (fun k => k = c ∨ k = p) w w3 := hchw.trans hcomb (fun k hk hf => by
      by_cases e : k = c
      · exact .inl e
      · exact absurd hf (hF k (by omega) e))
    have hln : (L.drop n).length = L.length - n := List.length_drop
    obtain ⟨E, hE⟩ : ∃ E, Hid (E = encT s t) := ⟨_, Lib.hid rfl⟩
    have hEp : 0 < E.length := by rw [hE.out]; exact encT_pos s t
    have hEl : E.length ≤ 68 := by rw [hE.out]; exact encT_len s t
    rw [← hE.out] at hc3
    have hcand2 : Hid (getT s L = if E = L.take n then some (t, n) else none) := Lib.hid (by rw [hE.out]; exact hcand.out)
    clear hS3 hcomb hch00 hCR ho0 hch0 hoc hchw hXc hCc hcand hF hba
    obtain ⟨hCI, hRI, _, _⟩ := hc3
    obtain ⟨r0, rf, rown, rne⟩ := id hRI
    obtain ⟨gu, cu, rfl, _, _⟩ := World.ownsRow.form rown hEp
    obtain ⟨a1, c1, rfl, hs1⟩ := hX3.src
    have x0 := hX3.c0
    have hLp : 0 < L.length ∨ ¬ E.length = n := by omega
    obtain ⟨a2, c2, rfl⟩ := owns_slice hoa
    obtain ⟨M, hM⟩ : ∃ M, Hid (M = (L.drop n).length) := ⟨_, Lib.hid rfl⟩
    rw [← hM.out] at x0
    rw [← hM.out] at hln
    have hMi : (L.length : Int) - (M : Int) = (n : Int) := by omega
    have hMb : (M : Int) ≤ 1000000 := by omega
    have hLb : (L.length : Int) ≤ 1000000 := by omega
    have hEb : (E.length : Int) ≤ 68 := by omega
    go_upto_region 14 with (fail)
    by_cases hEn : E.length = n
    · have hEni : (E.length : Int) = (n : Int) := by omega
      obtain ⟨g2, cap2, hfm, _, _⟩ := World.ownsRow.form hoa (by omega)
      simp only [Value.slice.injEq, true_and] at hfm
      obtain ⟨rfl, rfl⟩ := hfm
      go_quiet (fail)
      go_wp2
      go_loopw [13] (fun i wr => ∃ (j : Nat), j ≤ E.length ∧ i = .int .i64 j ∧ Hid (E.take j = L.take j) ∧ Chg (fun _ => False) w3 wr) (fun i _ => 100 - (intOf i).toNat)
      case atStart => exact ⟨0, by omega, rfl, Lib.hid rfl, Chg.drewN _ _ _⟩
      case round =>
        obtain ⟨j, hj, rfl, htk, hch⟩ := hrel
        have hRr := hRI.keep hch (fun _ _ x => x)
        have r0' := hRr.c0
        have hRo := hRr.own
        by_cases hlt : j < E.length
        · have hji : (j : Int) < (E.length : Int) := by omega
          have hjL : j < L.length := by omega
          have hjLi : (j : Int) < (L.length : Int) := by omega
          obtain ⟨b1, hb1⟩ : ∃ b1, Hid (E[j]? = some b1) := ⟨_, Lib.hid (List.getElem?_eq_getElem hlt)⟩
          obtain ⟨b2, hb2⟩ : ∃ b2, Hid (L[j]? = some b2) := ⟨_, Lib.hid (List.getElem?_eq_getElem hjL)⟩
          have k1 : wr.cell? ⟨gu, j, none⟩ = some (.bool b1) := by rw [hRo.cellAt j (by omega)]; simp [encL, hb1.out]
          have k2 : wr.cell? ⟨g2, j, none⟩ = some (.bool b2) := by rw [(hch.owns hoa (fun _ _ x => x)).cellAt j (by omega)]; simp [encL, hb2.out]
          by_cases hbb : b1 = b2
          · subst hbb
            go_upto_region 19 with (fail)
            go_quiet (fail)
            go_wp2
            go_roundw
            case rel => exact ⟨j + 1, by omega, by go_num, Lib.hid (by rw [List.take_add_one, List.take_add_one, htk.out, hb1.out, hb2.out]), hch.trans (Chg.drewN _ _ _) (fun _ _ x => x)⟩
            case measure => simp [intOf]; omega
          · have hbn : (b1 == b2) = false := by simpa using hbb
            have hne : ¬ E = L.take n := by
              intro e
              have h9 : E[j]? = (L.take n)[j]? := congrArg (fun l => l[j]?) e
              rw [hb1.out, List.getElem?_take, if_pos (by omega), hb2.out] at h9
              exact hbb (Option.some.inj h9)
            have HNE := Lib.hid hne
            clear hne hbb
            go_upto_region 19 with (fail)
            go_quiet (fail)
            go_wp2
            go_ret2
            exact ⟨0, false, rfl, (hch3.trans hch (fun _ _ x => x.elim)).trans (Chg.drewN (fun _ => False) _ _) (fun _ _ x => x.elim), by simp, fun _ => ⟨by rw [hcand2.out, if_neg HNE.out], rfl⟩⟩
        · obtain rfl : j = E.length := by omega
          go_wp2
          go_ret2
          have hEL : E = L.take n := by
            have := htk.out
            rw [List.take_of_length_le (Nat.le_refl _)] at this
            rw [← hEn]; exact this
          exact ⟨t, true, rfl, hch3.trans hch (fun _ _ x => x.elim), fun _ => ⟨n, _, by rw [hcand2.out, if_pos hEL], hX3.keep hch (fun _ _ x => x), by rw [hv1.out, hbl.out], hCI.keep hch (fun x => x)⟩, by simp⟩
    · have hEni : ¬ (E.length : Int) = (n : Int) := by omega
      go_quiet (fail)
      go_wp2
      go_ret2
      exact ⟨0, false, rfl, hch3.trans (Chg.drewN (fun _ => False) _ _) (fun _ _ x => x.elim), by simp, fun _ => ⟨by rw [hcand2.out, if_neg (fun e => hEn (by rw [e, List.length_take]; omega))], rfl⟩⟩
end Go.Proofs.Ytknpcbildcbbnaa
