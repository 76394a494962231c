/- Errors that are thrown and caught. -/
import Derived.Test.YtjmcpdhfefcdgaaDoorCopy
import Derived.Defers
import Derived.Recover
import Derived.Laws.Pointers
import Derived.WalkLawsBesides
namespace Go.Proofs.YtjmcpdhfefcdgaaDoor
open Go.RowKit

/-- What is thrown. -/
abbrev thrown (e : Int) : List PanicEntry := [{ v := .iface 28 (.int .i64 e), recovered := false }]

/-- What a check leaves. -/
def ChkOut (ok : Bool) (e : Int) (y : Ending) : Prop := match ok with
  | true => ∃ v, y = .returned v
  | false => y = .panicked (thrown e)
set_option maxRecDepth 100000 in
theorem rcheck_any (ok : Bool) (e : Int) (w : World) :
    Calls Tryd.prog 33 #[.bool ok, .int .i64 e] w fun y w' => ChkOut ok e y ∧ w' = w := by
  cases ok
  · go_enter Tryd.func33, Tryd.ntmps33
    go_wp2
    exact ⟨rfl, rfl, rfl⟩
  · go_enter Tryd.func33, Tryd.ntmps33
    go_wp2
    go_end0
    exact ⟨⟨_, rfl⟩, rfl⟩
theorem assert_errno (e : Int) (W : World) : (Instr.typeAssert (.iface 28 (.int .i64 e)) 20 28 true).run Tryd.prog W = .ok (.tuple #[.int .i64 e, .bool true]) W := by
  unfold Instr.typeAssert
  simp [run_underlying Tryd.underlying28]
theorem frame14 (a v : Value) : (#[a] ++ (Array.replicate 13 undef).setIfInBounds 4 v) = #[a, undef, undef, undef, undef, v, undef, undef, undef, undef, undef, undef, undef, undef] := rfl
set_option maxHeartbeats 2000000 in
set_option maxRecDepth 100000 in
theorem caught_thrown (p : Nat) (e : Int) (x : Value) (w : World) (hc : w.cell? ⟨p, 0, none⟩ = some x) (hz : w.frozen? ⟨p, 0, none⟩ = false) :
    CallsD Tryd.prog 32 #[.pointer (some ⟨p, 0, none⟩)] (.panicking (thrown e)) w fun y u' w' =>
      (∃ v, y = .returned v) ∧ u' = .panicking [{ v := .iface 28 (.int .i64 e), recovered := true }] ∧ w' = w.setCell ⟨p, 0, none⟩ (.int .i64 e) := by
  have hta := fun W => assert_errno e W
  refine callsD_of_wpS Tryd.func32 rfl fun c₀ cs hu => ?_
  apply wpS_seq
  apply wpS_region
  simp [wpOpsS, go_sem, recoverD, hu, Tryd.ntmps32, Exit.thenS]
  refine wpS_of_wp ?_
  rw [frame14]
  go_wp2
  exact ⟨rfl, _, rfl, _, results_none rfl _ _ _, ⟨_, rfl⟩, rfl, rfl⟩
set_option maxHeartbeats 2000000 in
set_option maxRecDepth 100000 in
theorem caught_idle (p : Nat) (w : World) :
    CallsD Tryd.prog 32 #[.pointer (some ⟨p, 0, none⟩)] .returning w fun y u' w' => (∃ v, y = .returned v) ∧ u' = .returning ∧ w' = w := by
  refine callsD_of_wpS Tryd.func32 rfl fun c₀ cs hu => ?_
  apply wpS_seq
  apply wpS_region
  simp [wpOpsS, go_sem, recoverD, hu, Tryd.ntmps32, Exit.thenS]
  refine wpS_of_wp ?_
  rw [frame14]
  go_wp2
  refine ⟨rfl, .returning, ?_, _, results_none rfl _ _ _, ⟨_, rfl⟩, rfl, rfl⟩
  cases c₀
  simp only at hu
  subst hu
  rfl
end Go.Proofs.YtjmcpdhfefcdgaaDoor
