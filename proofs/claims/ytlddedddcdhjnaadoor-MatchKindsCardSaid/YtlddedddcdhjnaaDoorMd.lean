/- Whether labels are asked for. -/
import Derived.Test.YtlddedddcdhjnaaDoorMc
import Derived.Test.YtlddedddcdhjnaaDoorLx
namespace Go.Proofs.YtlddedddcdhjnaaDoor
open Go.RowKit Lb Dig

namespace Lb
theorem prefix_test (s v : ByteArray) (_h : v.size ≤ s.size) : Lib.hasPrefix s.data.toList v.data.toList = ((s.extract 0 v.size).toList == v.toList) := by
  have h1 := extract_mkS s 0 v.size
  rw [Nat.zero_add] at h1
  rw [h1, ByteArray.toList_eq, ByteArray.toList_eq, mkS_data, List.drop_zero, Lib.hasPrefix, Bool.eq_iff_iff, List.isPrefixOf_iff_prefix, beq_iff_eq, List.prefix_iff_eq_take, size_toList]
  exact eq_comm
theorem prefix_short (s v : ByteArray) (h : ¬ v.size ≤ s.size) : Lib.hasPrefix s.data.toList v.data.toList = false := by
  rw [← Bool.not_eq_true, Lib.hasPrefix, List.isPrefixOf_iff_prefix]
  intro h1
  have := h1.length_le
  rw [← size_toList, ← size_toList] at this
  exact h this
/-- Whether labels are asked for. -/
def isM (l : List Mt) (labels : List Pr) : Bool := decide (chkM l = 0) && l.all fun m => holdsM m (getL labels m.2.1)
end Lb

set_option maxRecDepth 100000 in
set_option maxHeartbeats 4000000 in
theorem rholds_any (k : Int) (n v : ByteArray) (L : List Pr) (a : Option Addr) (m c : Nat) (hm : L.length = m) (hb : m ≤ 4611686018427387904) (w : World) (hr : RowQ w a L) :
    Calls Tryd.prog 59 #[.agg #[.int .i64 k, .string n, .string v], .slice a m c] w fun e w' => e = .returned (.bool (holdsM (k, n, v) (getL L n))) ∧ Below w.heap.size w w' := by
  obtain ⟨E, hE⟩ : ∃ E, Hid (holdsM (k, n, v) (getL L n) = E) := ⟨_, Lib.hid rfl⟩
  rw [hE.out]
  obtain ⟨G, hG⟩ : ∃ G, Hid (getL L n = G) := ⟨_, Lib.hid rfl⟩
  have RG := fun W h => rlget_any L a m c n hm hb W h
  rw [hG.out] at RG hE
  have hM := MtBox.new w k n v
  have hQ := fun (W1 : World) (h : Below w.heap.size w W1) => hr.below h
  go_enter Tryd.func59, Tryd.ntmps59
  go_upto_region 1 with (fail)
  generalize w.alloc (.cells #[.int .i64 k, .string n, .string v] 51) = W1 at hM ⊢
  generalize w.heap.size = p at hM ⊢
  have k0 := (hM.row 0 _ rfl).1
  have k1 := (hM.row 1 _ rfl).1
  have k2 := (hM.row 2 _ rfl).1
  have hbel := hM.bel
  have q1 := hQ _ hbel
  clear hM hQ
  obtain ⟨B1, hB1⟩ : ∃ b, (k == 1) = b := ⟨_, rfl⟩
  obtain ⟨B2, hB2⟩ : ∃ b, (k == 2) = b := ⟨_, rfl⟩
  obtain ⟨B3, hB3⟩ : ∃ b, (k == 3) = b := ⟨_, rfl⟩
  have hE1 : Hid (E = if B1 = true then (G.toList == v.toList) else if B2 = true then !(G.toList == v.toList) else if B3 = true then Lib.hasPrefix G.data.toList v.data.toList else !G.toList.isEmpty) := Lib.hid (by
    rw [← hE.out, ← hB1, ← hB2, ← hB3, bs_eq, empty_test]; unfold holdsM; simp only [beq_iff_eq])
  clear hE
  cases B1
  · cases B2
    · cases B3
      · have hE2 : E = !G.toList.isEmpty := by rw [hE1.out]; simp
        subst hE2
        go_wp2_with (go_at_call 25; refine (RG _ q1).mono ?_; rintro y w2 ⟨rfl, rfl⟩)
        go_ret
        exact ⟨rfl, hbel⟩
      · go_upto_region 8 with (go_at_call 25; refine (RG _ q1).mono ?_; rintro y w2 ⟨rfl, rfl⟩)
        by_cases hle : v.size ≤ G.size
        · have hE2 : E = ((G.extract 0 v.size).toList == v.toList) := by rw [hE1.out, ← prefix_test G v hle]; simp
          have hlei : (v.size : Int) ≤ (G.size : Int) := by omega
          have hled : decide ((v.size : Int) ≤ (G.size : Int)) = true := decide_eq_true hlei
          subst hE2
          go_quiet (fail)
          go_wp2
          go_ret
          exact ⟨rfl, below_drewN hbel _⟩
        · have hE2 : E = false := by rw [hE1.out, prefix_short G v hle]; simp
          have hled : decide ((v.size : Int) ≤ (G.size : Int)) = false := decide_eq_false (by omega)
          subst hE2
          go_quiet (fail)
          go_wp2
          go_ret
          exact ⟨rfl, below_drewN hbel _⟩
    · have hE2 : E = !(G.toList == v.toList) := by rw [hE1.out]; simp
      subst hE2
      go_wp2_with (go_at_call 25; refine (RG _ q1).mono ?_; rintro y w2 ⟨rfl, rfl⟩)
      go_ret
      exact ⟨rfl, hbel⟩
  · have hE2 : E = (G.toList == v.toList) := by rw [hE1.out]; simp
    subst hE2
    go_wp2_with (go_at_call 25; refine (RG _ q1).mono ?_; rintro y w2 ⟨rfl, rfl⟩)
    go_ret
    exact ⟨rfl, hbel⟩
end Go.Proofs.YtlddedddcdhjnaaDoor
