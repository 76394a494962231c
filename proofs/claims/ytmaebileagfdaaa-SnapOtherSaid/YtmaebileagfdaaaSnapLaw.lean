/- Keys of texts; the law SnapCuts. -/
import Derived.Test.YtmaebileagfdaaaSnap
import Derived.Test.YtmaebileagfdaaaSlice
import Derived.Test.YtmaebileagfdaaaSum
namespace Go.Proofs.Ytmaebileagfdaaa
open Go.RowKit Crc Snp

def keyV (lsn : Int) (s : List UInt8) : Value := .agg #[.int .i64 lsn, .int .i64 (s.length : Nat), .int .u32 (moreN 0 s : Nat)]

set_option maxRecDepth 100000 in
theorem keyof_any (lsn : Int) (s : ByteArray) (hs : s.size ≤ 4611686018427387904) (w : World) :
    Calls Try.prog 15 #[.int .i64 lsn, .string s] w fun e w' => e = .returned (keyV lsn s.data.toList) ∧ Below w.heap.size w w' := by
  have hba : Below w.heap.size w (w.alloc (.cells #[.int .i64 0, .int .i64 0, .int .u32 0] 24)) := (Below.refl _ _).alloc (Nat.le_refl _) _
  have hr := RowV.new w [.int .i64 0, .int .i64 0, .int .u32 0] 24
  have Hsl := Lib.hid (size_toList s)
  obtain ⟨C, hC⟩ : ∃ C, Hid (C = moreN 0 s.data.toList) := ⟨_, Lib.hid rfl⟩
  have OF := fun W => of_any s (by omega) W
  rw [← hC.out] at OF
  go_enter Try.func15, Try.ntmps15
  go_upto_region 1 with (fail)
  obtain ⟨B, hB⟩ : ∃ B, Hid (B = w.heap.size) := ⟨_, Lib.hid rfl⟩
  have hr' : RowV (w.alloc (.cells #[.int .i64 0, .int .i64 0, .int .u32 0] 24)) B [.int .i64 0, .int .i64 0, .int .u32 0] := by rw [hB.out]; exact hr
  clear hr
  rw [← hB.out]
  generalize (w.alloc (.cells #[.int .i64 0, .int .i64 0, .int .u32 0] 24)) = w1 at hr' hba ⊢
  have hst : ∀ W, Below w1.heap.size w1 W → (W.cell? ⟨B, 0, none⟩ = some (.int .i64 0) ∧ W.cell? ⟨B, 1, none⟩ = some (.int .i64 0) ∧ W.cell? ⟨B, 2, none⟩ = some (.int .u32 0)) ∧ (W.frozen? ⟨B, 0, none⟩ = false ∧ W.frozen? ⟨B, 1, none⟩ = false ∧ W.frozen? ⟨B, 2, none⟩ = false) := fun W hW => by
    have h := hr'.below hW
    exact ⟨⟨(h 0 _ rfl).1, (h 1 _ rfl).1, (h 2 _ rfl).1⟩, ⟨(h 0 _ rfl).2, (h 1 _ rfl).2, (h 2 _ rfl).2⟩⟩
  have Hst := Lib.hid hst
  clear hst
  go_wp2_with (go_at_call 40; refine (OF _).mono ?_; rintro e w2 ⟨rfl, hb2⟩; obtain ⟨⟨q0, q1, q2⟩, p0, p1, p2⟩ := Hst.out _ hb2)
  have hr2 := hr'.below hb2
  have h3 := ((hr2.set 0 (by simp) (.int .i64 lsn)).set 1 (by simp) (.int .i64 (s.size : Nat))).set 2 (by simp) (.int .u32 (C : Nat))
  have hch := ((Chg.setCell w2 ⟨B, 0, none⟩ (.int .i64 lsn)).trans (Chg.setCell _ ⟨B, 1, none⟩ (.int .i64 (s.size : Nat))) (fun _ _ x => x)).trans (Chg.setCell _ ⟨B, 2, none⟩ (.int .u32 (C : Nat))) (fun _ _ x => x)
  have hbel := hch.below_tr (below_tr hba hb2) (fun k hk e => by have := hB.out; simp only at e; omega)
  refine bodyPost_ret (results_cell_tmp1 rfl _ _ B _ rfl (h3.load _ _ Try.underlying24 rfl (by kernel_rfl))) rfl ?_
  refine ⟨?_, hbel⟩
  rw [keyV, ← hC.out, ← Hsl.out]; rfl

set_option maxRecDepth 100000 in
theorem rkeyof_any (lsn : Int) (s : ByteArray) (hs : s.size ≤ 4611686018427387904) (w : World) :
    Calls Try.prog 16 #[.int .i64 lsn, .string s] w fun e w' => e = .returned (keyV lsn s.data.toList) ∧ Below w.heap.size w w' := by
  have hba : Below w.heap.size w (w.alloc (.cells #[.int .i64 0, .int .i64 0, .int .u32 0] 26)) := (Below.refl _ _).alloc (Nat.le_refl _) _
  have hr := RowV.new w [.int .i64 0, .int .i64 0, .int .u32 0] 26
  have Hsl := Lib.hid (size_toList s)
  obtain ⟨C, hC⟩ : ∃ C, Hid (C = moreN 0 s.data.toList) := ⟨_, Lib.hid rfl⟩
  have OF := fun W => refof_any s (by omega) W
  rw [← hC.out] at OF
  go_enter Try.func16, Try.ntmps16
  go_upto_region 1 with (fail)
  obtain ⟨B, hB⟩ : ∃ B, Hid (B = w.heap.size) := ⟨_, Lib.hid rfl⟩
  have hr' : RowV (w.alloc (.cells #[.int .i64 0, .int .i64 0, .int .u32 0] 26)) B [.int .i64 0, .int .i64 0, .int .u32 0] := by rw [hB.out]; exact hr
  clear hr
  rw [← hB.out]
  generalize (w.alloc (.cells #[.int .i64 0, .int .i64 0, .int .u32 0] 26)) = w1 at hr' hba ⊢
  have hst : ∀ W, Below w1.heap.size w1 W → (W.cell? ⟨B, 0, none⟩ = some (.int .i64 0) ∧ W.cell? ⟨B, 1, none⟩ = some (.int .i64 0) ∧ W.cell? ⟨B, 2, none⟩ = some (.int .u32 0)) ∧ (W.frozen? ⟨B, 0, none⟩ = false ∧ W.frozen? ⟨B, 1, none⟩ = false ∧ W.frozen? ⟨B, 2, none⟩ = false) := fun W hW => by
    have h := hr'.below hW
    exact ⟨⟨(h 0 _ rfl).1, (h 1 _ rfl).1, (h 2 _ rfl).1⟩, ⟨(h 0 _ rfl).2, (h 1 _ rfl).2, (h 2 _ rfl).2⟩⟩
  have Hst := Lib.hid hst
  clear hst
  go_wp2_with (go_at_call 41; refine (OF _).mono ?_; rintro e w2 ⟨rfl, rfl⟩; obtain ⟨⟨q0, q1, q2⟩, p0, p1, p2⟩ := Hst.out _ (Below.refl _ _))
  have hr2 := hr'.below (Below.refl _ _)
  have h3 := ((hr2.set 0 (by simp) (.int .i64 lsn)).set 1 (by simp) (.int .i64 (s.size : Nat))).set 2 (by simp) (.int .u32 (C : Nat))
  have hch := ((Chg.setCell w1 ⟨B, 0, none⟩ (.int .i64 lsn)).trans (Chg.setCell _ ⟨B, 1, none⟩ (.int .i64 (s.size : Nat))) (fun _ _ x => x)).trans (Chg.setCell _ ⟨B, 2, none⟩ (.int .u32 (C : Nat))) (fun _ _ x => x)
  have hbel := hch.below_tr (hba) (fun k hk e => by have := hB.out; simp only at e; omega)
  refine bodyPost_ret (results_cell_tmp1 rfl _ _ B _ rfl (h3.load _ _ Try.underlying26 rfl (by kernel_rfl))) rfl ?_
  refine ⟨?_, hbel⟩
  rw [keyV, ← hC.out, ← Hsl.out]; rfl

theorem own_srcQ {w : World} {base : Nat} {e : TypeId} {size : Nat} {v : Value} {n : Nat} {xs : List Value} (h : w.ownsRow base e size v n xs) : ∃ a c, v = .slice a n c ∧ Src w size a n c xs := by
  rcases h.2 with ⟨rfl, rfl⟩ | ⟨g, cap, cur, rfl, _⟩
  · refine ⟨none, 0, rfl, h.1, .inl ⟨rfl, rfl, rfl⟩⟩
  · exact ⟨_, cap, rfl, h.1, .inr ⟨_, rfl, fun j u hu => h.cells rfl j u hu⟩⟩

theorem srcQ_two {w : World} {a : Option Addr} {c : Nat} {l : List (Nat × List UInt8)} (h : Src w 2 a l.length c (encQ l)) (j : Nat) (x : Nat × List UInt8) (hx : l[j]? = some x) :
    ∃ ad, a = some ad ∧ w.cell? (ad.add (j * 2)) = some (.int .i64 (x.1 : Nat)) ∧ w.cell? ⟨(ad.add (j * 2)).block, (ad.add (j * 2)).off + 1, none⟩ = some (.string (mkS x.2)) := by
  rcases h.2 with ⟨rfl, h1, rfl⟩ | ⟨ad, rfl, hc⟩
  · have : l = [] := List.length_eq_zero_iff.mp h1
    subst this; simp at hx
  · obtain ⟨g1, g2⟩ := encQ_get l j x hx
    refine ⟨ad, rfl, hc _ _ g1, ?_⟩
    rw [← add_field ad (j * 2) 1 (by decide)]
    exact hc _ _ g2

set_option maxRecDepth 100000 in
set_option maxHeartbeats 2000000 in
theorem snapCuts_walk (lsn : Int) (s : ByteArray) (_hl : (Lit.int .i64 lsn).wf = true) (_hs : s.size ≤ 140737488351232) (w : World) :
    Calls Try.prog 3 #[.int .i64 lsn, .string s] w fun e w' => e = .returned (.bool true) ∧ Below w.heap.size w w' := by
  go_enter Try.func3, Try.ntmps3
  by_cases hbig : 3000 < (s.size : Int)
  · go_wp2
    go_ret
    exact ⟨rfl, Below.refl _ _⟩
  have K1 := fun W => keyof_any lsn s (by omega) W
  have K2 := fun W => rkeyof_any lsn s (by omega) W
  have C1 := fun W => cut_any s (by omega) W
  have C2 := fun W => rcut_any s (by omega) W
  obtain ⟨l, hl⟩ : ∃ l, Hid (l = pieces s.data.toList) := ⟨_, Lib.hid rfl⟩
  have hll : l.length ≤ 1000 := by rw [hl.out, pieces, some_len, ← size_toList]; omega
  rw [← hl.out] at C1 C2
  unfold keyV at K1 K2
  obtain ⟨n, hn⟩ : ∃ n, Hid (n = s.data.toList.length) := ⟨_, Lib.hid rfl⟩
  obtain ⟨m, hm⟩ : ∃ m, Hid (m = moreN 0 s.data.toList) := ⟨_, Lib.hid rfl⟩
  rw [← hn.out, ← hm.out] at K1 K2
  go_upto_region 5 with (first
    | (go_at_call 15; refine (K1 _).mono ?_; rintro y w1 ⟨rfl, hb1⟩)
    | (go_at_call 16; refine (K2 _).mono ?_; rintro y w2 ⟨rfl, hb2⟩)
    | (go_at_call 17; refine (C1 _).mono ?_; rintro y w3 ⟨v3, rfl, ho3, hv3, hb3⟩)
    | (go_at_call 18; refine (C2 _).mono ?_; rintro y w4 ⟨v4, rfl, ho4, hv4, hb4⟩))
  have hA1 : Below w2.heap.size w2 (w2.alloc (.cells #[.int .i64 lsn, .int .i64 (n : Nat), .int .u32 (m : Nat)] 24)) := (Below.refl _ _).alloc (Nat.le_refl _) _
  have r1 := RowV.new w2 [.int .i64 lsn, .int .i64 (n : Nat), .int .u32 (m : Nat)] 24
  have z1 : (w2.alloc (.cells #[.int .i64 lsn, .int .i64 (n : Nat), .int .u32 (m : Nat)] 24)).heap.size = w2.heap.size + 1 := by simp
  have r1' : RowV (w2.alloc (.cells #[.int .i64 lsn, .int .i64 (n : Nat), .int .u32 (m : Nat)] 24)) w2.heap.size [.int .i64 lsn, .int .i64 (n : Nat), .int .u32 (m : Nat)] := r1
  clear r1
  generalize (w2.alloc (.cells #[.int .i64 lsn, .int .i64 (n : Nat), .int .u32 (m : Nat)] 24)) = x1 at hA1 r1' z1 hv3 hb3
  have hA2 : Below x1.heap.size x1 (x1.alloc (.cells #[.int .i64 lsn, .int .i64 (n : Nat), .int .u32 (m : Nat)] 26)) := (Below.refl _ _).alloc (Nat.le_refl _) _
  have r2 : RowV (x1.alloc (.cells #[.int .i64 lsn, .int .i64 (n : Nat), .int .u32 (m : Nat)] 26)) x1.heap.size [.int .i64 lsn, .int .i64 (n : Nat), .int .u32 (m : Nat)] := RowV.new x1 [.int .i64 lsn, .int .i64 (n : Nat), .int .u32 (m : Nat)] 26
  generalize (x1.alloc (.cells #[.int .i64 lsn, .int .i64 (n : Nat), .int .u32 (m : Nat)] 26)) = x2 at hA2 r2 hv3 hb3
  have h34 := below_tr hb3 hb4
  have k1 := r1'.below (below_tr hA2 h34)
  have k2 := r2.below h34
  rw [z1] at k2
  have q0 := (k1 0 _ rfl).1
  have q1 := (k1 1 _ rfl).1
  have q2 := (k1 2 _ rfl).1
  have p0 := (k2 0 _ rfl).1
  have p1 := (k2 1 _ rfl).1
  have p2 := (k2 2 _ rfl).1
  have ho3' := (Chg.of_below (fun _ => False) hb4).owns ho3 (fun _ _ x => x)
  obtain ⟨a3, c3, rfl, g3⟩ := own_srcQ ho3'
  obtain ⟨a4, c4, rfl, g4⟩ := own_srcQ ho4
  have hB : Below w.heap.size w w4 := below_tr (below_tr (below_tr (below_tr hb1 hb2) hA1) hA2) h34
  clear hb1 hb2 hb3 hb4 hA1 hA2 h34 ho3 ho4 ho3' hv3 hv4 k1 k2 r1' r2 z1 K1 K2 C1 C2
  have hli : (l.length : Int) ≤ 1000 := by omega
  go_wp2
  go_loopw [9] (fun i wr => ∃ (j : Nat), j ≤ l.length ∧ i = .int .i64 j ∧ Below w4.heap.size w4 wr) (fun i _ => l.length - (intOf i).toNat)
  case atStart => exact ⟨0, by omega, rfl, Below.refl _ _⟩
  case round =>
    obtain ⟨j, hj, rfl, hb⟩ := hrel
    by_cases hlt : j < l.length
    · have hlti : (j : Int) < (l.length : Int) := by omega
      obtain ⟨⟨k, t⟩, hx⟩ : ∃ x, Hid (l[j]? = some x) := ⟨_, Lib.hid (List.getElem?_eq_getElem hlt)⟩
      have g1 := Src.keep (F := fun _ => False) g3 (Chg.of_below _ hb) (fun _ _ x => x)
      have g2 := Src.keep (F := fun _ => False) g4 (Chg.of_below _ hb) (fun _ _ x => x)
      obtain ⟨ad, rfl, k1, k2⟩ := srcQ_two g1 j _ hx.out
      obtain ⟨bd, rfl, k3, k4⟩ := srcQ_two g2 j _ hx.out
      go_upto_region 10 with (fail)
      go_quiet (fail)
      go_wp2
      go_roundw
      case rel => exact ⟨j + 1, by omega, by go_num, below_drewN hb _⟩
      case measure => simp [intOf]; omega
    · have hlti : ¬ (j : Int) < (l.length : Int) := by omega
      go_wp2
      go_ret
      exact ⟨rfl, below_tr hB hb⟩
end Go.Proofs.Ytmaebileagfdaaa
