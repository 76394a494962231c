/- The program's reader of times. -/
import Derived.Test.YtdegmeclcbndgaaDoorTimH
import Derived.StillTailTactics
namespace Go.Proofs.YtdegmeclcbndgaaDoor
open Go.RowKit Bit Tim

namespace Tim
/-- The time that the next bits tell, and how many bits. -/
def getT (s : St) (R : List Bool) : Option (Int × Nat) :=
  if s.b then (match decX R with | some (x, n) => some (wrap64 (wrap64 (s.t + s.d) + x), n) | none => none)
  else if 64 ≤ R.length then some (wrap64 (valB (R.take 64) : Nat), 64) else none
end Tim

structure TgOut (w : World) (c p : Nat) (s : St) (R : List Bool) (y : Ending) (w' : World) : Prop where
  ex : ∃ (t : Int) (ok : Bool) (R' : List Bool), y = .returned (.tuple #[.int .i64 t, .bool ok]) ∧ DR w' p R' ∧ R'.length ≤ R.length ∧ Chg (fun k => k = c ∨ k = p) w w' ∧
      (ok = true → ∃ n, getT s R = some (t, n) ∧ R' = R.drop n ∧ CInv w' c (s.next t)) ∧ (ok = false → getT s R = none ∧ t = 0)

set_option maxRecDepth 100000 in
set_option maxHeartbeats 2000000 in
theorem tget_any (w : World) (c p : Nat) (s : St) (R : List Bool) (hC : CInv w c s) (h : DR w p R) (hcp : c ≠ p) :
    Calls Tryd.prog 58 #[.pointer (some ⟨c, 0, none⟩), .pointer (some ⟨p, 0, none⟩)] w (TgOut w c p s R) := by
  obtain ⟨c0, c1, c2, f0, f1, f2⟩ := id hC
  cases hb : s.b with
  | false =>
    rw [hb] at c0
    by_cases h64 : 64 ≤ R.length
    · have hg : getT s R = some (wrap64 (valB (R.take 64) : Nat), 64) := by unfold getT; rw [hb, if_neg (by simp), if_pos h64]
      have G1 := dget_some w p 64 R h (by omega) h64
      obtain ⟨V, hV⟩ : ∃ V, Hid (V = valB (R.take 64)) := ⟨_, Lib.hid rfl⟩
      obtain ⟨x, hx⟩ : ∃ x, Hid (x = wrap64 (V : Nat)) := ⟨_, Lib.hid rfl⟩
      rw [← hV.out] at G1 hg
      rw [← hx.out] at hg
      have hxw : wrap64 (V : Nat) = x := by rw [hx.out]
      have HG := Lib.hid hg
      clear hg
      go_enter Tryd.func58, Tryd.ntmps58
      go_upto_region 3 with (go_at_call 40; refine G1.mono ?_; rintro y w1 ⟨rfl, h1, hc1⟩)
      have hC1 := hC.keep hc1 hcp
      have hC2 := (hC1.sb true).st x
      have hch : Chg (fun k => k = c ∨ k = p) w ((w1.setCell ⟨c, 0, none⟩ (.bool true)).setCell ⟨c, 1, none⟩ (.int .i64 x)) := ((hc1.mono (fun _ _ e => .inr e)).trans (Chg.setCell w1 ⟨c, 0, none⟩ _) (fun _ _ e => .inl e)).trans (Chg.setCell _ ⟨c, 1, none⟩ _) (fun _ _ e => .inl e)
      have hD2 : DR ((w1.setCell ⟨c, 0, none⟩ (.bool true)).setCell ⟨c, 1, none⟩ (.int .i64 x)) p (R.drop 64) := (h1.keep (Chg.setCell w1 ⟨c, 0, none⟩ _) (fun e => hcp e.symm)).keep (Chg.setCell _ ⟨c, 1, none⟩ _) (fun e => hcp e.symm)
      obtain ⟨d0, d1, d2, e0, e1, e2⟩ := hC1
      clear c0 c1 c2 f0 f1 f2 hc1 h1
      go_upto_region 4 with (fail)
      rw [hxw]
      generalize ((w1.setCell ⟨c, 0, none⟩ (.bool true)).setCell ⟨c, 1, none⟩ (.int .i64 x)) = w2 at hC2 hch hD2 ⊢
      obtain ⟨d0, d1, d2, e0, e1, e2⟩ := id hC2
      go_wp2
      go_ret2
      exact ⟨x, true, R.drop 64, rfl, hD2, by rw [List.length_drop]; omega, hch, fun _ => ⟨64, HG.out, rfl, by simpa [St.next, hb] using hC2⟩, by simp⟩
    · have hg : getT s R = none := by unfold getT; rw [hb, if_neg (by simp), if_neg h64]
      have G1 := dget_none w p 64 R h (by omega)
      go_enter Tryd.func58, Tryd.ntmps58
      go_upto_region 3 with (go_at_call 40; refine G1.mono ?_; rintro y w1 ⟨rfl, h1, hc1⟩)
      have hC1 := hC.keep hc1 hcp
      have hC2 := (hC1.sb false).st 0
      have hch : Chg (fun k => k = c ∨ k = p) w ((w1.setCell ⟨c, 0, none⟩ (.bool false)).setCell ⟨c, 1, none⟩ (.int .i64 0)) := ((hc1.mono (fun _ _ e => .inr e)).trans (Chg.setCell w1 ⟨c, 0, none⟩ _) (fun _ _ e => .inl e)).trans (Chg.setCell _ ⟨c, 1, none⟩ _) (fun _ _ e => .inl e)
      have hD2 : DR ((w1.setCell ⟨c, 0, none⟩ (.bool false)).setCell ⟨c, 1, none⟩ (.int .i64 0)) p R := (h1.keep (Chg.setCell w1 ⟨c, 0, none⟩ _) (fun e => hcp e.symm)).keep (Chg.setCell _ ⟨c, 1, none⟩ _) (fun e => hcp e.symm)
      obtain ⟨d0, d1, d2, e0, e1, e2⟩ := hC1
      clear c0 c1 c2 f0 f1 f2 hc1 h1
      go_upto_region 4 with (fail)
      generalize ((w1.setCell ⟨c, 0, none⟩ (.bool false)).setCell ⟨c, 1, none⟩ (.int .i64 0)) = w2 at hC2 hch hD2 ⊢
      obtain ⟨d0, d1, d2, e0, e1, e2⟩ := id hC2
      go_wp2
      go_ret2
      exact ⟨0, false, R, rfl, hD2, Nat.le_refl _, hch, by simp, fun _ => ⟨hg, rfl⟩⟩
  | true =>
    rw [hb] at c0
    have P1 := change_any w p R h
    go_enter Tryd.func58, Tryd.ntmps58
    go_upto_region 6 with (go_at_call 61; refine P1.mono ?_; rintro y w1 ⟨x, ok, R', rfl, h1, h2, h3, h4, h5⟩)
    have hC1 := hC.keep h3 hcp
    have hch : Chg (fun k => k = c ∨ k = p) w w1 := h3.mono (fun _ _ e => .inr e)
    clear c0 c1 c2 f0 f1 f2 h3
    obtain ⟨d0, d1, d2, e0, e1, e2⟩ := id hC1
    cases ok with
    | false =>
      have hg : getT s R = none := by unfold getT; rw [hb, if_pos rfl, h5 rfl]
      go_wp2
      go_ret2
      exact ⟨0, false, R', rfl, h1, h2, hch, by simp, fun _ => ⟨hg, rfl⟩⟩
    | true =>
      obtain ⟨n, hn, hR'⟩ := h4 rfl
      obtain ⟨t, ht⟩ : ∃ t, Hid (t = wrap64 (wrap64 (s.t + s.d) + x)) := ⟨_, Lib.hid rfl⟩
      have hg : getT s R = some (t, n) := by unfold getT; rw [hb, if_pos rfl, hn, ht.out]
      have HG := Lib.hid hg
      have HR := Lib.hid hR'
      have htw : wrap64 (wrap64 (s.t + s.d) + x) = t := by rw [ht.out]
      clear hg hR' hn h4 h5
      go_upto_region 8 with (fail)
      go_still_tail 12, (by kernel_rfl)
      change wpList _ _ _ _ _ w1.drew
      have hC2 : CInv w1.drew c s := hC1.keep (Chg.drew (fun _ => False) _) (fun x => x)
      have hD2 : DR w1.drew p R' := h1.keep (Chg.drew (fun _ => False) _) (fun x => x)
      have hch2 : Chg (fun k => k = c ∨ k = p) w w1.drew := hch.trans (Chg.drew (fun _ => False) _) (fun _ _ x => x.elim)
      generalize w1.drew = w2 at hC2 hD2 hch2 ⊢
      clear d0 d1 d2 e0 e1 e2 hC1 hch h1
      go_upto_region 9 with (go_at_call 54; refine (pass_any w2 c s (wrap64 (wrap64 (s.t + s.d) + x)) hC2).mono ?_; rw [htw]; rintro y w3 ⟨rfl, hp3, hc3⟩)
      obtain ⟨d0, d1, d2, e0, e1, e2⟩ := id hp3
      go_wp2
      go_ret2
      exact ⟨t, true, R', rfl, hD2.keep hc3 (fun e => hcp e.symm), h2, hch2.trans hc3 (fun _ _ e => .inl e), fun _ => ⟨n, HG.out, HR.out, by simpa [St.next, hb] using hp3⟩, by simp⟩
end Go.Proofs.YtdegmeclcbndgaaDoor
