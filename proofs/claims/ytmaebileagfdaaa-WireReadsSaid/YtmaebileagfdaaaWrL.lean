/- The law of the reading of messages. -/
import Derived.Test.YtmaebileagfdaaaWrS
import Derived.Test.YtmaebileagfdaaaWrR
namespace Go.Proofs.Ytmaebileagfdaaa
open Go.RowKit Dig Wr

theorem sameM_refl (m : Msg) : sameM m m = true := by simp [sameM, headEq]

theorem decW_small {s : List UInt8} : (decW s).2.rs.length ≤ 4 := by
  unfold decW
  rcases Frm.get s with ⟨k, d, n, e⟩
  simp only
  split
  · simp [zm]
  · split
    · simp [zm]
    · split
      · simp [zm]
      · cases h : msgP d with
        | none => simp [zm]
        | some m =>
          simp only
          split
          · exact (msg_small h).1
          · simp [zm]

set_option maxRecDepth 100000 in
set_option maxHeartbeats 4000000 in
theorem wireReads_walk (s : ByteArray) (hs : s.size ≤ 140737488351232) (w : World) :
    Calls Try.prog 12 #[.string s] w fun e w' => e = .returned (.bool true) ∧ Below w.heap.size w w' := by
  go_enter Try.func12, Try.ntmps12
  by_cases hl : 20000 < s.size
  · have hli : (20000 : Int) < (s.size : Int) := by omega
    go_wp2
    go_ret
    exact ⟨rfl, Below.refl _ _⟩
  · have hli : ¬ (20000 : Int) < (s.size : Int) := by omega
    have D1 := fun W => wdecode_any s (by omega) W
    have D2 := fun W => rdecode_any s (by omega) W
    obtain ⟨e, m, hd⟩ : ∃ e m, Hid (decW s.data.toList = (e, m)) := ⟨_, _, Lib.hid rfl⟩
    have hsm : m.rs.length ≤ 4 := by have := decW_small (s := s.data.toList); rw [hd.out] at this; exact this
    rw [hd.out] at D1 D2
    go_upto_region 4 with (go_at_call 32; refine (D1 _).mono ?_; rintro y w1 ⟨hb1, a, n, c, hn, rfl, ho⟩; unfold msgV)
    have hx := RowV.new w1 [.int .i64 m.k, .int .i64 m.e, .int .i64 m.b, .int .i64 m.l, .int .i64 m.la, .int .i64 m.ap, .int .u32 (m.su : Nat), .slice a n c, .string m.tx] 80
    have hba : Below w1.heap.size w1 (w1.alloc (.cells #[.int .i64 m.k, .int .i64 m.e, .int .i64 m.b, .int .i64 m.l, .int .i64 m.la, .int .i64 m.ap, .int .u32 (m.su : Nat), .slice a n c, .string m.tx] 80)) := (Below.refl _ _).alloc (Nat.le_refl _) _
    obtain ⟨W2, hW2⟩ : ∃ W2, Hid (W2 = w1.alloc (.cells #[.int .i64 m.k, .int .i64 m.e, .int .i64 m.b, .int .i64 m.l, .int .i64 m.la, .int .i64 m.ap, .int .u32 (m.su : Nat), .slice a n c, .string m.tx] 80)) := ⟨_, Lib.hid rfl⟩
    obtain ⟨p, hp⟩ : ∃ p, Hid (p = w1.heap.size) := ⟨_, Lib.hid rfl⟩
    have hx2 : RowV W2 p [.int .i64 m.k, .int .i64 m.e, .int .i64 m.b, .int .i64 m.l, .int .i64 m.la, .int .i64 m.ap, .int .u32 (m.su : Nat), .slice a n c, .string m.tx] := by rw [hW2.out, hp.out]; exact hx
    rw [← hW2.out] at hba ⊢
    rw [← hp.out]
    have ho2 := (Chg.of_below (fun _ => False) hba).owns ho (fun _ _ x => x)
    have hb2 := below_tr hb1 hba
    clear hx hW2 hba ho hb1 D1
    go_upto_region 5 with (go_at_call 33; refine (D2 _).mono ?_; rintro y w3 ⟨hb3, a', n', c', hn', rfl, ho'⟩; unfold msgV)
    have hx := RowV.new w3 [.int .i64 m.k, .int .i64 m.e, .int .i64 m.b, .int .i64 m.l, .int .i64 m.la, .int .i64 m.ap, .int .u32 (m.su : Nat), .slice a' n' c', .string m.tx] 80
    have hba : Below w3.heap.size w3 (w3.alloc (.cells #[.int .i64 m.k, .int .i64 m.e, .int .i64 m.b, .int .i64 m.l, .int .i64 m.la, .int .i64 m.ap, .int .u32 (m.su : Nat), .slice a' n' c', .string m.tx] 80)) := (Below.refl _ _).alloc (Nat.le_refl _) _
    obtain ⟨W4, hW4⟩ : ∃ W4, Hid (W4 = w3.alloc (.cells #[.int .i64 m.k, .int .i64 m.e, .int .i64 m.b, .int .i64 m.l, .int .i64 m.la, .int .i64 m.ap, .int .u32 (m.su : Nat), .slice a' n' c', .string m.tx] 80)) := ⟨_, Lib.hid rfl⟩
    obtain ⟨q, hq⟩ : ∃ q, Hid (q = w3.heap.size) := ⟨_, Lib.hid rfl⟩
    have hx4 : RowV W4 q [.int .i64 m.k, .int .i64 m.e, .int .i64 m.b, .int .i64 m.l, .int .i64 m.la, .int .i64 m.ap, .int .u32 (m.su : Nat), .slice a' n' c', .string m.tx] := by rw [hW4.out, hq.out]; exact hx
    rw [← hW4.out] at hba ⊢
    rw [← hq.out]
    have hb24 := below_tr hb3 hba
    have ho4 := (Chg.of_below (fun _ => False) hb24).owns ho2 (fun _ _ x => x)
    have ho4' := (Chg.of_below (fun _ => False) hba).owns ho' (fun _ _ x => x)
    have hx24 := hx2.below hb24
    have hb4 := below_tr hb2 hb24
    obtain ⟨hr, _⟩ := rowS_own ho4
    obtain ⟨hr', _⟩ := rowS_own ho4'
    have SM := msame_any m m a a' n c n' c' hn hn' (by omega) (by omega) W4 hr hr'
    rw [sameM_refl] at SM
    unfold msgV at SM
    clear hx hx2 hW4 hba hb3 ho2 ho' ho4 ho4' hr hr' hb24 hb2 D2
    have pb0 := (hx24 0 _ rfl).1
    have pb1 := (hx24 1 _ rfl).1
    have pb2 := (hx24 2 _ rfl).1
    have pb3 := (hx24 3 _ rfl).1
    have pb4 := (hx24 4 _ rfl).1
    have pb5 := (hx24 5 _ rfl).1
    have pb6 := (hx24 6 _ rfl).1
    have pb7 := (hx24 7 _ rfl).1
    have pb8 := (hx24 8 _ rfl).1
    have qb0 := (hx4 0 _ rfl).1
    have qb1 := (hx4 1 _ rfl).1
    have qb2 := (hx4 2 _ rfl).1
    have qb3 := (hx4 3 _ rfl).1
    have qb4 := (hx4 4 _ rfl).1
    have qb5 := (hx4 5 _ rfl).1
    have qb6 := (hx4 6 _ rfl).1
    have qb7 := (hx4 7 _ rfl).1
    have qb8 := (hx4 8 _ rfl).1
    go_wp2_with (go_at_call 34; refine SM.mono ?_; rintro y w5 ⟨rfl, hb5⟩)
    go_ret
    exact ⟨rfl, below_tr hb4 hb5⟩
end Go.Proofs.Ytmaebileagfdaaa
