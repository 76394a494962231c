/- Are frames the same; the law FrameReads. -/
import Derived.Test.YtmaebileagfdaaaScanP
import Derived.Test.YtmaebileagfdaaaFrameLaw
import Derived.Test.YtmaebileagfdaaaSlice
namespace Go.Proofs.Ytmaebileagfdaaa
open Go.RowKit Dig Crc Frm

theorem scanN_len : ∀ (f : Nat) (s : List UInt8), 5 * (scanN f s).1.length ≤ s.length := by
  intro f
  induction f with
  | zero => intro s; simp [scanN]
  | succ f ih =>
    intro s
    unfold scanN
    split
    · simp
    · split
      · simp
      · rename_i h1 h2
        have hg := get_n (s := s) (by omega)
        have := ih (s.drop (Frm.get s).2.2.1)
        rw [List.length_drop] at this
        simp only [List.length_cons]; omega
theorem own_src {w : World} {base : Nat} {e : TypeId} {size : Nat} {v : Value} {n : Nat} {xs : List Value} (h : w.ownsRow base e size v n xs) : ∃ a c, v = .slice a n c ∧ Src w size a n c xs := by
  rcases h.2 with ⟨rfl, rfl⟩ | ⟨g, cap, cur, rfl, _⟩
  · refine ⟨none, 0, rfl, h.1, .inl ⟨rfl, rfl, rfl⟩⟩
  · exact ⟨_, cap, rfl, h.1, .inr ⟨_, rfl, fun j u hu => h.cells rfl j u hu⟩⟩

theorem src_two {w : World} {a : Option Addr} {c : Nat} {l : List (Nat × List UInt8)} (h : Src w 2 a l.length c (encF l)) (j : Nat) (x : Nat × List UInt8) (hx : l[j]? = some x) :
    ∃ ad, a = some ad ∧ w.cell? (ad.add (j * 2)) = some (.int .i64 (x.1 : Nat)) ∧ w.cell? ⟨(ad.add (j * 2)).block, (ad.add (j * 2)).off + 1, none⟩ = some (.string (mkS x.2)) := by
  rcases h.2 with ⟨rfl, h1, rfl⟩ | ⟨ad, rfl, hc⟩
  · have : l = [] := List.length_eq_zero_iff.mp h1
    subst this; simp at hx
  · obtain ⟨g1, g2⟩ := encF_get l j x hx
    refine ⟨ad, rfl, hc _ _ g1, ?_⟩
    rw [← add_field ad (j * 2) 1 (by decide)]
    exact hc _ _ g2

set_option maxRecDepth 100000 in
set_option maxHeartbeats 2000000 in
theorem same_any (w : World) (a b : Option Addr) (c d : Nat) (l : List (Nat × List UInt8)) (h1 : Src w 2 a l.length c (encF l)) (h2 : Src w 2 b l.length d (encF l)) (hl : l.length ≤ 1000000000) :
    Calls Try.prog 30 #[.slice a l.length c, .slice b l.length d] w fun e w' => e = .returned (.bool true) ∧ Below w.heap.size w w' := by
  have hli : (l.length : Int) ≤ 1000000000 := by omega
  go_enter Try.func30, Try.ntmps30
  go_wp2
  go_loopw [5] (fun i wr => ∃ (j : Nat), j ≤ l.length ∧ i = .int .i64 j ∧ Below w.heap.size w wr) (fun i _ => l.length - (intOf i).toNat)
  case atStart => exact ⟨0, by omega, rfl, Below.refl _ _⟩
  case round =>
    obtain ⟨j, hj, rfl, hb⟩ := hrel
    by_cases hlt : j < l.length
    · have hlti : (j : Int) < (l.length : Int) := by omega
      obtain ⟨⟨k, t⟩, hx⟩ : ∃ x, Hid (l[j]? = some x) := ⟨_, Lib.hid (List.getElem?_eq_getElem hlt)⟩
      have g1 := Src.keep (F := fun _ => False) h1 (Chg.of_below _ hb) (fun _ _ x => x)
      have g2 := Src.keep (F := fun _ => False) h2 (Chg.of_below _ hb) (fun _ _ x => x)
      obtain ⟨ad, rfl, k1, k2⟩ := src_two g1 j _ hx.out
      obtain ⟨bd, rfl, k3, k4⟩ := src_two g2 j _ hx.out
      go_upto_region 6 with (fail)
      go_quiet (fail)
      go_wp2
      go_roundw
      case rel => exact ⟨j + 1, by omega, by go_num, below_drewN hb _⟩
      case measure => simp [intOf]; omega
    · have hlti : ¬ (j : Int) < (l.length : Int) := by omega
      go_wp2
      go_ret
      exact ⟨rfl, hb⟩

set_option maxRecDepth 100000 in
set_option maxHeartbeats 2000000 in
theorem frameReads_walk (s : ByteArray) (_hs : s.size ≤ 140737488351232) (w : World) :
    Calls Try.prog 8 #[.string s] w fun e w' => e = .returned (.bool true) ∧ Below w.heap.size w w' := by
  go_enter Try.func8, Try.ntmps8
  by_cases hbig : 5000 < (s.size : Int)
  · go_wp2
    go_ret
    exact ⟨rfl, Below.refl _ _⟩
  obtain ⟨S, hS⟩ : ∃ S, Hid (S = s.data.toList) := ⟨_, Lib.hid rfl⟩
  have G1 := fun W => fget_any s (by omega) W
  have G2 := fun W => rfget_any s (by omega) W
  have S1 := fun W => scan_any s (by omega) W
  have S2 := fun W => rscan_any s (by omega) W
  rcases hg : Frm.get s.data.toList with ⟨k, d, m, e⟩
  rw [fvals_of hg] at G1 G2
  rcases hsc : scan s.data.toList with ⟨l, n, f⟩
  rw [hsc] at S1 S2
  simp only at S1 S2
  have hl5 : 5 * l.length ≤ s.size := by
    have := scanN_len s.data.toList.length s.data.toList
    rw [show scanN s.data.toList.length s.data.toList = (l, n, f) from hsc, ← size_toList] at this
    exact this
  clear hg hsc
  go_upto_region 7 with (first
    | (go_at_call 26; refine (G1 _).mono ?_; rintro y w1 ⟨rfl, hb1⟩)
    | (go_at_call 27; refine (G2 _).mono ?_; rintro y w2 ⟨rfl, hb2⟩)
    | (go_at_call 28; refine (S1 _).mono ?_; rintro y w3 ⟨v3, rfl, ho3, hv3, hb3⟩)
    | (go_at_call 29; refine (S2 _).mono ?_; rintro y w4 ⟨v4, rfl, ho4, hv4, hb4⟩))
  have hA1 : Below w.heap.size w (w1.alloc (.cells #[.int .i64 (k : Nat), .string (mkS d)] 40)) := hb1.alloc hb1.size _
  have q0 : (w1.alloc (.cells #[.int .i64 (k : Nat), .string (mkS d)] 40)).cell? ⟨w1.heap.size, 0, none⟩ = some (.int .i64 (k : Nat)) := by simp
  have q1 : (w1.alloc (.cells #[.int .i64 (k : Nat), .string (mkS d)] 40)).cell? ⟨w1.heap.size, 1, none⟩ = some (.string (mkS d)) := by simp
  generalize (w1.alloc (.cells #[.int .i64 (k : Nat), .string (mkS d)] 40)) = x1 at hA1 q0 q1 hb2
  have hA2 : Below x1.heap.size x1 (w2.alloc (.cells #[.int .i64 (k : Nat), .string (mkS d)] 42)) := hb2.alloc hb2.size _
  have p0 : (w2.alloc (.cells #[.int .i64 (k : Nat), .string (mkS d)] 42)).cell? ⟨w2.heap.size, 0, none⟩ = some (.int .i64 (k : Nat)) := by simp
  have p1 : (w2.alloc (.cells #[.int .i64 (k : Nat), .string (mkS d)] 42)).cell? ⟨w2.heap.size, 1, none⟩ = some (.string (mkS d)) := by simp
  generalize (w2.alloc (.cells #[.int .i64 (k : Nat), .string (mkS d)] 42)) = x2 at hA2 p0 p1 hb3 hv3
  have h34 := below_tr hb3 hb4
  have h234 := below_tr hA2 h34
  have k0 := (Chg.of_below (fun _ => False) h234).cell q0 (fun x => x)
  have k1 := (Chg.of_below (fun _ => False) h234).cell q1 (fun x => x)
  have k2 := (Chg.of_below (fun _ => False) h34).cell p0 (fun x => x)
  have k3 := (Chg.of_below (fun _ => False) h34).cell p1 (fun x => x)
  have ho3' := (Chg.of_below (fun _ => False) hb4).owns ho3 (fun _ _ x => x)
  obtain ⟨a3, c3, rfl, g3⟩ := own_src ho3'
  obtain ⟨a4, c4, rfl, g4⟩ := own_src ho4
  have SM := same_any w4 a3 a4 c3 c4 l g3 g4 (by omega)
  have hB := below_tr hA1 h234
  clear q0 q1 p0 p1 hb1 hb2 hb3 hb4 hA1 hA2 h34 h234 ho3 ho4 ho3' hv3 hv4 g3 g4 S1 S2 G1 G2
  go_wp2_with (go_at_call 30; refine SM.mono ?_; rintro y w5 ⟨rfl, hb5⟩)
  go_ret
  exact ⟨rfl, below_tr hB hb5⟩
end Go.Proofs.Ytmaebileagfdaaa
