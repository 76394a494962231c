/- The program's scan of frames. -/
import Derived.Test.YtmaebileagfdaaaScanC
namespace Go.Proofs.Ytmaebileagfdaaa
open Go.RowKit Dig Crc Frm

set_option maxRecDepth 100000 in
set_option maxHeartbeats 2000000 in
theorem scan_any (s : ByteArray) (hs : s.size ≤ 1000000000) (w : World) :
    Calls Try.prog 28 #[.string s] w fun e w' => ∃ v, e = .returned (.tuple #[v, .int .i64 ((scan s.data.toList).2.1 : Nat), .int .i64 ((scan s.data.toList).2.2 : Nat)]) ∧
      w'.ownsRow 0 40 2 v (scan s.data.toList).1.length (encF (scan s.data.toList).1) ∧ (∀ g, v.ownBlock = some g → w.heap.size ≤ g) ∧ Below w.heap.size w w' := by
  obtain ⟨R, hR⟩ : ∃ R, Hid (R = scan s.data.toList) := ⟨_, Lib.hid rfl⟩
  rw [← hR.out]
  have hSl : Hid (s.data.toList.length = s.size) := Lib.hid (by rw [← size_toList])
  go_enter Try.func28, Try.ntmps28
  go_upto_region 4 with (fail)
  have hb0 : Below w.heap.size w (((w.alloc (.cells #[.string s] 9)).alloc (.cells #[.slice none 0 0] 67)).alloc (.cells #[.int .i64 0] 3)) := (((Below.refl _ _).alloc (Nat.le_refl _) _).alloc (by simp) _).alloc (by simp; omega) _
  have h0 : SInv (((w.alloc (.cells #[.string s] 9)).alloc (.cells #[.slice none 0 0] 67)).alloc (.cells #[.int .i64 0] 3)) w.heap.size (w.heap.size + 1 + 1) (w.heap.size + 1) s 0 (.slice none 0 0) [] := by
    have z1 : (w.alloc (.cells #[.string s] 9)).heap.size = w.heap.size + 1 := by simp
    have z2 : ((w.alloc (.cells #[.string s] 9)).alloc (.cells #[.slice none 0 0] 67)).heap.size = w.heap.size + 1 + 1 := by simp
    have a1 : (w.alloc (.cells #[.string s] 9)).cell? ⟨w.heap.size, 0, none⟩ = some (.string s) := by simp
    generalize (w.alloc (.cells #[.string s] 9)) = x1 at z1 z2 a1 ⊢
    have a2 : (x1.alloc (.cells #[.slice none 0 0] 67)).cell? ⟨w.heap.size + 1, 0, none⟩ = some (.slice none 0 0) ∧ (x1.alloc (.cells #[.slice none 0 0] 67)).frozen? ⟨w.heap.size + 1, 0, none⟩ = false := by rw [← z1]; exact ⟨by simp, by simp⟩
    have a1' := (Chg.alloc (fun _ => False) x1 (.cells #[.slice none 0 0] 67)).cell a1 (fun x => x)
    generalize (x1.alloc (.cells #[.slice none 0 0] 67)) = x2 at z2 a2 a1' ⊢
    have hc := Chg.alloc (fun _ => False) x2 (.cells #[.int .i64 0] 3)
    have a3 : (x2.alloc (.cells #[.int .i64 0] 3)).cell? ⟨w.heap.size + 1 + 1, 0, none⟩ = some (.int .i64 0) ∧ (x2.alloc (.cells #[.int .i64 0] 3)).frozen? ⟨w.heap.size + 1 + 1, 0, none⟩ = false := by rw [← z2]; exact ⟨by simp, by simp⟩
    exact ⟨hc.cell a1' (fun x => x), a3.1, hc.cell a2.1 (fun x => x), a3.2, by rw [hc.frozen (a := ⟨w.heap.size + 1, 0, none⟩) (by simp only; omega) (fun x => x)]; exact a2.2, World.ownsRow_nil _ _ _ _, ⟨by omega, by omega, by omega⟩, by simp [Value.ownBlock]⟩
  generalize (((w.alloc (.cells #[.string s] 9)).alloc (.cells #[.slice none 0 0] 67)).alloc (.cells #[.int .i64 0] 3)) = w1 at h0 hb0 ⊢
  obtain ⟨a, ha⟩ : ∃ a, Hid (a = w.heap.size) := ⟨_, Lib.hid rfl⟩
  obtain ⟨b, hb⟩ : ∃ b, Hid (b = w.heap.size + 1 + 1) := ⟨_, Lib.hid rfl⟩
  obtain ⟨c, hc⟩ : ∃ c, Hid (c = w.heap.size + 1) := ⟨_, Lib.hid rfl⟩
  obtain ⟨B, hB⟩ : ∃ B, Hid (B = w.heap.size) := ⟨_, Lib.hid rfl⟩
  have hBb : B ≤ b ∧ B ≤ c ∧ B ≤ a := by have := ha.out; have := hb.out; have := hc.out; have := hB.out; omega
  have h0' : SInv w1 a b c s 0 (.slice none 0 0) [] := by rw [ha.out, hb.out, hc.out]; exact h0
  have hb0' : Below B w w1 := by rw [hB.out]; exact hb0
  rw [← hb.out, ← hc.out, ← ha.out]
  clear h0 hb0
  go_loopw [] (fun wr => ∃ (l : List (Nat × List UInt8)) (n : Nat) (v : Value), n ≤ s.size ∧ Hid (Sofar s.data.toList l n) ∧ SInv wr a b c s n v l ∧ Hid (∀ g, v.ownBlock = some g → B ≤ g) ∧ Below B w wr) (fun wr => s.size - (match wr.cell? ⟨b, 0, none⟩ with | some (.int _ z) => z.toNat | _ => 0))
  case atStart => exact ⟨[], 0, .slice none 0 0, by omega, Lib.hid (Sofar.zero _), h0', Lib.hid (fun g hg => by simp [Value.ownBlock] at hg), hb0'⟩
  case round =>
    obtain ⟨l, n, v, hn, hso, hI, hv, hbel⟩ := hrel
    obtain ⟨ca, cb, cc, fb, fc, own, ap, na⟩ := id hI
    have hl5 : 5 * l.length ≤ 1000000000 := by have := hso.out.2.1; omega
    by_cases hlt : n < s.size
    · have hlti : (n : Int) < (s.size : Int) := by omega
      have N1 := next_any wr a b c s n v l hs hlt hI (by omega)
      have hsto := Sofar.stop hso.out (by rw [hSl.out]; exact hlt)
      have hok := Sofar.step hso.out (by rw [hSl.out]; exact hlt)
      have hgn := @get_n (s.data.toList.drop n)
      go_upto_region 6 with (go_at_call 49; refine N1.mono ?_; rintro y w2 ⟨k, d, m, e, hg, rfl, h1, h2, h3⟩)
      rw [hg.out] at hsto hok hgn
      simp only at hsto hok hgn
      have hsz : B ≤ wr.heap.size := by have := hbel.size; have := hB.out; omega
      have hB2 : Below B w w2 := hbel.trans (h1 B hsz hBb.1 hBb.2.1 hv.out)
      by_cases he : e = 0
      · subst he
        obtain ⟨v2, hI2, hv2⟩ := h2 rfl
        have hok2 := Lib.hid (hok rfl)
        have hgn2 := hgn rfl
        rw [List.length_drop, hSl.out] at hgn2
        have Hg := hg
        clear hsto hok hgn h1 h2 h3
        go_wp2
        go_roundw
        case rel =>
          refine ⟨l ++ [(k, d)], n + m, v2, by omega, hok2, hI2, Lib.hid (fun g hgg => ?_), hB2⟩
          rcases hv2 g hgg with h9 | h9
          · exact hv.out g h9
          · omega
        case measure => rw [hI2.cb, cb]; simp only [Int.toNat_natCast]; omega
      · have hst2 := Lib.hid (hsto he)
        have hI2 := h3 he
        have hne : ((e : Int) == 0) = false := by rw [beq_eq_false_iff_ne]; omega
        clear hsto hok hgn h1 h2 h3 ca cb cc fb fc own
        obtain ⟨ca, cb, cc, fb, fc, own, _, _⟩ := id hI2
        go_upto_region 7 with (fail)
        go_quiet (fail)
        go_wp2
        go_ret3
        refine ⟨v, ?_, ?_, ?_, ?_⟩
        · rw [hR.out, hst2.out]; rfl
        · rw [hR.out, hst2.out]; exact own
        · intro g hg; have := hv.out g hg; have := hB.out; omega
        · rw [← hB.out]; exact below_drewN hB2 _
    · have hlti : ¬ (n : Int) < (s.size : Int) := by omega
      have hall := Lib.hid (Sofar.all hso.out (by rw [hSl.out]; omega))
      go_upto_region 8 with (fail)
      go_quiet (fail)
      go_wp2
      go_ret3
      refine ⟨v, ?_, ?_, ?_, ?_⟩
      · rw [hR.out, hall.out]; rfl
      · rw [hR.out, hall.out]; exact own
      · intro g hg; have := hv.out g hg; have := hB.out; omega
      · rw [← hB.out]; exact below_drewN hbel _
end Go.Proofs.Ytmaebileagfdaaa
