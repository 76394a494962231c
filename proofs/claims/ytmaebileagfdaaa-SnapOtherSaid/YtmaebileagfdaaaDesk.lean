/- The program's desk of pieces. -/
import Derived.Test.YtmaebileagfdaaaDeskP
import Derived.Test.YtmaebileagfdaaaSnapLaw
namespace Go.Proofs.Ytmaebileagfdaaa
open Go.RowKit Crc Dk

theorem lies_any (lsn last sum ofs : Int) (tx : ByteArray) (hx : tx.size ≤ 4611686018427387904) (w : World) :
    Calls Try.prog 46 #[.agg #[.int .i64 lsn, .int .i64 last, .int .u32 sum], .agg #[.int .i64 ofs, .string tx]] w fun e w' => e = .returned (.bool (lies last ofs tx.data.toList)) ∧ Below w.heap.size w w' := by
  have hsz := size_toList tx
  obtain ⟨R, hR⟩ : ∃ R, Hid (R = lies last ofs tx.data.toList) := ⟨_, Lib.hid rfl⟩
  rw [← hR.out]
  have hR' := Lib.hid (show R = decide (1 ≤ last ∧ last ≤ 16777216 ∧ 1 ≤ (tx.size : Int) ∧ (tx.size : Int) ≤ 256 ∧ 0 ≤ ofs ∧ ofs ≤ last - (tx.size : Int)) by rw [hR.out, lies, ← hsz])
  clear hsz
  go_enter Try.func46, Try.ntmps46
  have hb1 : Below w.heap.size w (w.alloc (.cells #[.int .i64 lsn, .int .i64 last, .int .u32 sum] 24)) := (Below.refl _ _).alloc (Nat.le_refl _) _
  have hb2 : Below w.heap.size w ((w.alloc (.cells #[.int .i64 lsn, .int .i64 last, .int .u32 sum] 24)).alloc (.cells #[.int .i64 ofs, .string tx] 33)) := hb1.alloc (by simp) _
  have hsz0 : (0 : Int) ≤ (tx.size : Int) := by omega
  by_cases h1 : 1 ≤ last
  · by_cases h2 : last ≤ 16777216
    · by_cases h3 : 1 ≤ (tx.size : Int)
      · by_cases h4 : (tx.size : Int) ≤ 256
        · have h5' : -9223372036854775808 ≤ last - (tx.size : Int) := by omega
          by_cases h5 : 0 ≤ ofs
          · by_cases h6 : ofs ≤ last - (tx.size : Int)
            · have e : R = true := by rw [hR'.out]; simp [*]
              subst e
              go_wp2
              go_ret
              exact ⟨rfl, hb2⟩
            · have e : R = false := by rw [hR'.out]; simp [*]
              subst e
              go_wp2
              go_ret
              exact ⟨rfl, hb2⟩
          · have e : R = false := by rw [hR'.out]; simp [*]
            subst e
            go_wp2
            go_ret
            exact ⟨rfl, hb2⟩
        · have e : R = false := by rw [hR'.out]; simp [*]
          subst e
          go_wp2
          go_ret
          exact ⟨rfl, hb2⟩
      · have e : R = false := by rw [hR'.out]; simp [*]
        subst e
        go_wp2
        go_ret
        exact ⟨rfl, hb2⟩
    · have e : R = false := by rw [hR'.out]; simp [*]
      subst e
      go_wp2
      go_ret
      exact ⟨rfl, hb2⟩
  · have e : R = false := by rw [hR'.out]; simp [*]
    subst e
    go_wp2
    go_ret
    exact ⟨rfl, hb2⟩

/-- A desk in memory, with the blocks that are its own. -/
def DkW (w : World) (F : Nat → Prop) (B : Nat) (s : Option Book) : Prop :=
  F B ∧ (∀ k, F k → k < w.heap.size) ∧
  match s with
  | none => ∃ x1 x2 x3 vb vt, RowV w B [.bool false, .int .i64 x1, .int .i64 x2, .int .u32 x3, vb, vt, .int .i64 0]
  | some k => k.ok ∧ ∃ gb gt, F gb ∧ F gt ∧ gb ≠ B ∧ gt ≠ B ∧ gb ≠ gt ∧
      RowV w B [.bool true, .int .i64 k.lsn, .int .i64 k.last, .int .u32 k.sum, .slice (some ⟨gb, 0, none⟩) k.last.toNat k.last.toNat, .slice (some ⟨gt, 0, none⟩) k.last.toNat k.last.toNat, .int .i64 (k.t.count true : Nat)] ∧
      RowH w gb 5 (encY k.b) ∧ RowH w gt 4 (k.t.map Value.bool)
theorem DkW.keep {F G : Nat → Prop} {w w' : World} {B : Nat} {s : Option Book} (h : DkW w F B s) (hc : Chg G w w') (hd : ∀ k, F k → ¬ G k) : DkW w' F B s := by
  obtain ⟨h1, h2, h3⟩ := h
  refine ⟨h1, fun k hk => Nat.lt_of_lt_of_le (h2 k hk) hc.size, ?_⟩
  cases s with
  | none =>
    obtain ⟨x1, x2, x3, vb, vt, hr⟩ := h3
    exact ⟨x1, x2, x3, vb, vt, hr.keep hc (hd _ h1)⟩
  | some k =>
    obtain ⟨ho, gb, gt, f1, f2, n1, n2, n3, r1, r2, r3⟩ := h3
    exact ⟨ho, gb, gt, f1, f2, n1, n2, n3, r1.keep hc (hd _ h1), r2.keep hc (hd _ f1), r3.keep hc (hd _ f2)⟩
theorem DkW.below {F : Nat → Prop} {w w' : World} {B : Nat} {s : Option Book} (h : DkW w F B s) (hb : Below w.heap.size w w') : DkW w' F B s :=
  h.keep (G := fun _ => False) (Chg.of_below _ hb) (fun _ _ x => x)

theorem count_fresh (N : Nat) : (List.replicate N false).count true = 0 := by simp [List.count_replicate]
theorem dk_fresh1 (F : Nat → Prop) (W : World) (B : Nat) (lsn sum : Int) (N : Nat) (h1 : 1 ≤ N) (h2 : N ≤ 16777216) (hB : F B) (hF : ∀ k, F k → k < W.heap.size)
    (r : RowV W B [.bool true, .int .i64 lsn, .int .i64 (N : Int), .int .u32 sum, .slice (some ⟨W.heap.size, 0, none⟩) N N, .slice (some ⟨W.heap.size + 1, 0, none⟩) N N, .int .i64 0]) :
    DkW ((W.alloc (.cells (encY (List.replicate N 0)).toArray 5)).alloc (.cells ((List.replicate N false).map Value.bool).toArray 4)).drew (fun k => F k ∨ k = W.heap.size ∨ k = W.heap.size + 1) B (some (fresh lsn N sum)) := by
  have hb := hF B hB
  refine ⟨.inl hB, fun k hk => ?_, fresh_ok lsn N sum (by omega) (by omega), W.heap.size, W.heap.size + 1, .inr (.inl rfl), .inr (.inr rfl), by omega, by omega, by omega, ?_, ?_, ?_⟩
  · have hz : ((W.alloc (.cells (encY (List.replicate N 0)).toArray 5)).alloc (.cells ((List.replicate N false).map Value.bool).toArray 4)).drew.heap.size = W.heap.size + 2 := by simp
    rw [hz]
    rcases hk with h | h | h
    · have := hF k h; omega
    · omega
    · omega
  · have := ((r.keep (Chg.alloc (fun _ => False) W (.cells (encY (List.replicate N 0)).toArray 5)) (fun x => x)).keep (Chg.alloc (fun _ => False) _ (.cells ((List.replicate N false).map Value.bool).toArray 4)) (fun x => x)).keep (Chg.drew (fun _ => False) _) (fun x => x)
    simp only [fresh, Int.toNat_natCast, count_fresh]
    exact this
  · have := ((RowH.new W (encY (List.replicate N 0)) 5).keep (Chg.alloc (fun _ => False) _ (.cells ((List.replicate N false).map Value.bool).toArray 4)) (fun x => x)).keep (Chg.drew (fun _ => False) _) (fun x => x)
    simp only [fresh, Int.toNat_natCast]
    exact this
  · have := (RowH.new (W.alloc (.cells (encY (List.replicate N 0)).toArray 5)) ((List.replicate N false).map Value.bool) 4).keep (Chg.drew (fun _ => False) _) (fun x => x)
    simp only [fresh, Int.toNat_natCast]
    simpa using this
theorem dk_fresh2 (F : Nat → Prop) (W : World) (B : Nat) (lsn sum : Int) (N : Nat) (h1 : 1 ≤ N) (h2 : N ≤ 16777216) (hB : F B) (hF : ∀ k, F k → k < W.heap.size)
    (r : RowV W B [.bool true, .int .i64 lsn, .int .i64 (N : Int), .int .u32 sum, .slice (some ⟨W.heap.size + 1, 0, none⟩) N N, .slice (some ⟨W.heap.size, 0, none⟩) N N, .int .i64 0]) :
    DkW ((W.alloc (.cells ((List.replicate N false).map Value.bool).toArray 4)).alloc (.cells (encY (List.replicate N 0)).toArray 5)).drew (fun k => F k ∨ k = W.heap.size ∨ k = W.heap.size + 1) B (some (fresh lsn N sum)) := by
  have hb := hF B hB
  refine ⟨.inl hB, fun k hk => ?_, fresh_ok lsn N sum (by omega) (by omega), W.heap.size + 1, W.heap.size, .inr (.inr rfl), .inr (.inl rfl), by omega, by omega, by omega, ?_, ?_, ?_⟩
  · have hz : ((W.alloc (.cells ((List.replicate N false).map Value.bool).toArray 4)).alloc (.cells (encY (List.replicate N 0)).toArray 5)).drew.heap.size = W.heap.size + 2 := by simp
    rw [hz]
    rcases hk with h | h | h
    · have := hF k h; omega
    · omega
    · omega
  · have := ((r.keep (Chg.alloc (fun _ => False) W (.cells ((List.replicate N false).map Value.bool).toArray 4)) (fun x => x)).keep (Chg.alloc (fun _ => False) _ (.cells (encY (List.replicate N 0)).toArray 5)) (fun x => x)).keep (Chg.drew (fun _ => False) _) (fun x => x)
    simp only [fresh, Int.toNat_natCast, count_fresh]
    exact this
  · have := (RowH.new (W.alloc (.cells ((List.replicate N false).map Value.bool).toArray 4)) (encY (List.replicate N 0)) 5).keep (Chg.drew (fun _ => False) _) (fun x => x)
    simp only [fresh, Int.toNat_natCast]
    simpa using this
  · have := ((RowH.new W ((List.replicate N false).map Value.bool) 4).keep (Chg.alloc (fun _ => False) _ (.cells (encY (List.replicate N 0)).toArray 5)) (fun x => x)).keep (Chg.drew (fun _ => False) _) (fun x => x)
    simp only [fresh, Int.toNat_natCast]
    exact this

theorem dnew_any (w : World) : Calls Try.prog 21 #[] w fun e w' => e = .returned (.pointer (some ⟨w.heap.size, 0, none⟩)) ∧ DkW w' (fun k => k = w.heap.size) w.heap.size none ∧ Below w.heap.size w w' := by
  have hr := RowV.new w [.bool false, .int .i64 0, .int .i64 0, .int .u32 0, .slice none 0 0, .slice none 0 0, .int .i64 0] 94
  go_enter Try.func21, Try.ntmps21
  go_wp2
  go_ret
  exact ⟨rfl, ⟨rfl, fun k hk => by simp [hk], _, _, _, _, _, hr⟩, (Below.refl _ _).alloc (Nat.le_refl _) _⟩

theorem dhas_any (F : Nat → Prop) (B : Nat) (s : Option Book) (w : World) (h : DkW w F B s) : Calls Try.prog 24 #[.pointer (some ⟨B, 0, none⟩)] w fun e w' => e = .returned (.int .i64 (hasN s : Nat)) ∧ w' = w := by
  have hx : w.cell? ⟨B, 6, none⟩ = some (.int .i64 (hasN s : Nat)) := by
    cases s with
    | none => obtain ⟨_, _, _, _, _, _, _, hr⟩ := h; exact (hr 6 _ rfl).1
    | some k => obtain ⟨_, _, _, gb, gt, _, _, _, _, _, r1, _⟩ := h; exact (r1 6 _ rfl).1
  generalize ((hasN s : Nat) : Int) = n at hx ⊢
  go_enter Try.func24, Try.ntmps24
  go_wp2
  go_ret
  exact ⟨rfl, rfl⟩
end Go.Proofs.Ytmaebileagfdaaa
