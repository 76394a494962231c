/- The program's scan of frames: the closure. -/
import Derived.Test.YtmaebileagfdaaaScanR
import Derived.Deep.RegionLaw
namespace Go.Proofs.Ytmaebileagfdaaa
open Go.RowKit Dig Crc Frm

theorem finfo : (Try.prog.info? 40).map (fun i => (i.zero, i.size, i.bytes)) = some (some (.agg #[.int .i64 0, .string { data := #[] }]), 2, 24) := by kernel_rfl

/-- What the closure has caught: the text, how far it is, the frames. -/
structure SInv (w : World) (a b c : Nat) (s : ByteArray) (n : Nat) (v : Value) (l : List (Nat × List UInt8)) : Prop where
  ca : w.cell? ⟨a, 0, none⟩ = some (.string s)
  cb : w.cell? ⟨b, 0, none⟩ = some (.int .i64 (n : Nat))
  cc : w.cell? ⟨c, 0, none⟩ = some v
  fb : w.frozen? ⟨b, 0, none⟩ = false
  fc : w.frozen? ⟨c, 0, none⟩ = false
  own : w.ownsRow 0 40 2 v l.length (encF l)
  ap : a ≠ b ∧ a ≠ c ∧ b ≠ c
  na : v.ownBlock ≠ some a ∧ v.ownBlock ≠ some b ∧ v.ownBlock ≠ some c

theorem SInv.keep {F : Nat → Prop} {w w' : World} {a b c : Nat} {s : ByteArray} {n : Nat} {v : Value} {l : List (Nat × List UInt8)} (h : SInv w a b c s n v l) (hc : Chg F w w') (hf : ¬ F a ∧ ¬ F b ∧ ¬ F c ∧ ∀ g, v.ownBlock = some g → ¬ F g) : SInv w' a b c s n v l := by
  have hb := World.block_lt_of_cell? w _ h.cb
  have hcc := World.block_lt_of_cell? w _ h.cc
  exact ⟨hc.cell h.ca hf.1, hc.cell h.cb hf.2.1, hc.cell h.cc hf.2.2.1, by rw [hc.frozen (a := ⟨b, 0, none⟩) hb hf.2.1]; exact h.fb, by rw [hc.frozen (a := ⟨c, 0, none⟩) hcc hf.2.2.1]; exact h.fc, hc.owns h.own hf.2.2.2, h.ap, h.na⟩

theorem SInv.appended {wr wa w1 : World} {a b c : Nat} {s : ByteArray} {n : Nat} {v v2 : Value} {l : List (Nat × List UInt8)} {x : Nat × List UInt8} (h : SInv wr a b c s n v l) (hwa : Chg (fun _ => False) wr wa) (hsz : wa.heap.size = wr.heap.size + 1)
    (hg : wa.grownBy w1 v.ownBlock) (ho : w1.ownsRow 0 40 2 v2 (l.length + 1) (encF l ++ [.int .i64 (x.1 : Nat), .string (mkS x.2)])) (hb : v2.ownBlock = v.ownBlock ∨ v2.ownBlock = some wa.heap.size) (m : Nat) :
    SInv ((w1.setCell ⟨c, 0, none⟩ v2).setCell ⟨b, 0, none⟩ (.int .i64 (m : Nat))) a b c s m v2 (l ++ [x]) ∧ Chg (fun k => k = b ∨ k = c ∨ v.ownBlock = some k) wr ((w1.setCell ⟨c, 0, none⟩ v2).setCell ⟨b, 0, none⟩ (.int .i64 (m : Nat))) ∧
      (∀ g, v2.ownBlock = some g → v.ownBlock = some g ∨ wr.heap.size ≤ g) ∧ w1.cell? ⟨c, 0, none⟩ = some v ∧ w1.frozen? ⟨c, 0, none⟩ = false ∧ w1.cell? ⟨b, 0, none⟩ = some (.int .i64 (n : Nat)) ∧ w1.frozen? ⟨b, 0, none⟩ = false := by
  have hc1 : Chg (fun k => v.ownBlock = some k) wr w1 := (hwa.mono (fun _ _ x => x.elim)).trans (Chg.grown hg) (fun b _ hb => hb.symm)
  have hcc := hc1.cell h.cc h.na.2.2
  have hcb := hc1.cell h.cb h.na.2.1
  have hbl := World.block_lt_of_cell? wr _ h.cb
  have hcl := World.block_lt_of_cell? wr _ h.cc
  have hal := World.block_lt_of_cell? wr _ h.ca
  have fcc : w1.frozen? ⟨c, 0, none⟩ = false := by rw [hc1.frozen (a := ⟨c, 0, none⟩) hcl h.na.2.2]; exact h.fc
  have fcb : w1.frozen? ⟨b, 0, none⟩ = false := by rw [hc1.frozen (a := ⟨b, 0, none⟩) hbl h.na.2.1]; exact h.fb
  obtain ⟨p1, p2, p3⟩ := h.ap
  have hfresh : ∀ g, v2.ownBlock = some g → v.ownBlock = some g ∨ wr.heap.size ≤ g := by
    intro g hgg
    rcases hb with hb | hb
    · exact .inl (by rw [← hb]; exact hgg)
    · rw [hb] at hgg; right
      have h9 := Option.some.inj hgg
      omega
  have hna : v2.ownBlock ≠ some a ∧ v2.ownBlock ≠ some b ∧ v2.ownBlock ≠ some c := by
    refine ⟨fun e => ?_, fun e => ?_, fun e => ?_⟩
    · rcases hfresh _ e with h9 | h9
      · exact h.na.1 h9
      · simp only at hal; omega
    · rcases hfresh _ e with h9 | h9
      · exact h.na.2.1 h9
      · simp only at hbl; omega
    · rcases hfresh _ e with h9 | h9
      · exact h.na.2.2 h9
      · simp only at hcl; omega
  have s1 : Chg (fun k => k = c) w1 (w1.setCell ⟨c, 0, none⟩ v2) := Chg.setCell w1 ⟨c, 0, none⟩ v2
  have s2 := Chg.setCell (w1.setCell ⟨c, 0, none⟩ v2) ⟨b, 0, none⟩ (.int .i64 (m : Nat))
  have s12 : Chg (fun k => k = b ∨ k = c) w1 ((w1.setCell ⟨c, 0, none⟩ v2).setCell ⟨b, 0, none⟩ (.int .i64 (m : Nat))) := (s1.mono (fun _ _ e => .inr e)).trans s2 (fun _ _ e => .inl e)
  have hcb1 := s1.cell hcb p3
  refine ⟨⟨s12.cell (hc1.cell h.ca h.na.1) (fun e => e.elim p1 p2), World.cell?_setCell_same _ _ _ hcb1, s2.cell (World.cell?_setCell_same _ _ _ hcc) (fun e => p3 e.symm), ?_, ?_, ?_, h.ap, hna⟩, ?_, hfresh, hcc, fcc, hcb, fcb⟩
  · rw [World.frozen?_setCell, World.frozen?_setCell]; exact fcb
  · rw [World.frozen?_setCell, World.frozen?_setCell]; exact fcc
  · rw [encF_snoc, List.length_append]
    exact s12.owns ho (fun g hgg e => by
      rcases e with rfl | rfl
      · exact hna.2.1 hgg
      · exact hna.2.2 hgg)
  · exact (hc1.mono (fun _ _ e => .inr (.inr e))).trans s12 (fun _ _ e => by
      rcases e with e | e
      · exact .inl e
      · exact .inr (.inl e))

structure NxOut (w : World) (a b c : Nat) (s : ByteArray) (n : Nat) (v : Value) (l : List (Nat × List UInt8)) (y : Ending) (w' : World) : Prop where
  ex : ∃ (k : Nat) (d : List UInt8) (m e : Nat), Hid (Frm.get (s.data.toList.drop n) = (k, d, m, e)) ∧ y = .returned (.int .i64 (e : Nat)) ∧ (∀ B, B ≤ w.heap.size → B ≤ b → B ≤ c → (∀ g, v.ownBlock = some g → B ≤ g) → Below B w w') ∧
    (e = 0 → ∃ v', SInv w' a b c s (n + m) v' (l ++ [(k, d)]) ∧ ∀ g, v'.ownBlock = some g → v.ownBlock = some g ∨ w.heap.size ≤ g) ∧ (e ≠ 0 → SInv w' a b c s n v l)

set_option maxRecDepth 100000 in
set_option maxHeartbeats 2000000 in
theorem next_any (w : World) (a b c : Nat) (s : ByteArray) (n : Nat) (v : Value) (l : List (Nat × List UInt8)) (hs : s.size ≤ 1000000000) (hn : n < s.size) (h : SInv w a b c s n v l) (hl : l.length ≤ 1000000000) :
    Calls Try.prog 49 #[.pointer (some ⟨a, 0, none⟩), .pointer (some ⟨b, 0, none⟩), .pointer (some ⟨c, 0, none⟩)] w (NxOut w a b c s n v l) := by
  obtain ⟨i0, hi, hz0, hz1, hz2⟩ := info_of finfo
  have hsS := size_toList s
  have hni : (n : Int) < (s.size : Int) := by omega
  have hn0 : (0 : Int) ≤ (n : Int) := by omega
  have hnle : (n : Int) ≤ (s.size : Int) := by omega
  have hex : s.extract n s.size = mkS (s.data.toList.drop n) := by
    have := extract_mkS s n (s.size - n)
    rw [show n + (s.size - n) = s.size from by omega] at this
    rw [this, List.take_of_length_le]
    rw [List.length_drop, ← hsS]; omega
  have G1 := fun W => fget_any (mkS (s.data.toList.drop n)) (by rw [mkS_size, List.length_drop, ← hsS]; omega) W
  rw [mkS_data] at G1
  have hgn := @get_n (s.data.toList.drop n)
  rw [List.length_drop, ← hsS] at hgn
  rcases hg : Frm.get (s.data.toList.drop n) with ⟨k, d, m, e⟩
  rw [hg] at hgn
  rw [fvals_eq hg] at G1
  simp only at hgn
  have HG := Lib.hid hg
  have HsS := Lib.hid hsS
  clear hg hsS
  obtain ⟨ca, cb, cc, fb, fc, own, ap, na⟩ := id h
  by_cases he : e = 0
  · subst he
    have hgn2 := hgn rfl
    clear hgn
    go_enter Try.func49, Try.ntmps49
    go_upto_region 3 with (go_at_call 26; refine (G1 _).mono ?_; rintro y w1 ⟨rfl, hb1⟩)
    have hbA : Below w.heap.size w (w1.alloc (.cells #[.int .i64 (k : Nat), .string (mkS d)] 40)) := hb1.alloc hb1.size _
    have h2 : SInv (w1.alloc (.cells #[.int .i64 (k : Nat), .string (mkS d)] 40)) a b c s n v l := h.keep (Chg.of_below (fun _ => False) hbA) ⟨fun x => x, fun x => x, fun x => x, fun _ _ x => x⟩
    have k0 : (w1.alloc (.cells #[.int .i64 (k : Nat), .string (mkS d)] 40)).cell? ⟨w1.heap.size, 0, none⟩ = some (.int .i64 (k : Nat)) := by simp
    have k1 : (w1.alloc (.cells #[.int .i64 (k : Nat), .string (mkS d)] 40)).cell? ⟨w1.heap.size, 1, none⟩ = some (.string (mkS d)) := by simp
    obtain ⟨F, hF⟩ : ∃ F, Hid (F = w1.heap.size) := ⟨_, Lib.hid rfl⟩
    rw [← hF.out] at k0 k1 ⊢
    generalize (w1.alloc (.cells #[.int .i64 (k : Nat), .string (mkS d)] 40)) = w2 at hbA h2 k0 k1 ⊢
    have hFl : F < w2.heap.size := World.block_lt_of_cell? w2 _ k0
    have hFl2 : F ≠ w2.heap.size := Nat.ne_of_lt hFl
    clear h ca cb cc fb fc own ap na hb1 G1
    obtain ⟨ca, cb, cc, fb, fc, own, ap, na⟩ := id h2
    have hal := World.block_lt_of_cell? w2 _ ca
    have hbl := World.block_lt_of_cell? w2 _ cb
    have hcl := World.block_lt_of_cell? w2 _ cc
    simp only at hal hbl hcl
    have hal2 : a ≠ w2.heap.size := Nat.ne_of_lt hal
    have hbl2 : b ≠ w2.heap.size := Nat.ne_of_lt hbl
    have hcl2 : c ≠ w2.heap.size := Nat.ne_of_lt hcl
    have hnews : ∀ W : World, ∀ (i : Nat) (u : Value), ([Value.int .i64 (k : Nat), .string (mkS d)] : List Value)[i]? = some u → (W.alloc (.cells #[.int .i64 (k : Nat), .string (mkS d)] 40)).cell? (Addr.add ⟨W.heap.size, 0, none⟩ i) = some u := by
      intro W i u hu
      match i, hu with
      | 0, hu => simp at hu; subst hu; simp [Addr.add]
      | 1, hu => simp at hu; subst hu; simp [Addr.add]
      | i + 2, hu => simp at hu
    have Hnews := Lib.hid hnews
    have hone : ∀ u ∈ ([Value.int .i64 (k : Nat), .string (mkS d)] : List Value), u.oneCell' = true := by
      intro u hu; simp at hu; rcases hu with rfl | rfl <;> rfl
    have Hone := Lib.hid hone
    have H63 : Hid (l.length + 1 ≤ maxLen) := Lib.hid (by unfold maxLen; omega)
    have Hby : Hid ((l.length + 1) * 24 ≤ 140737488355328) := Lib.hid (by omega)
    clear hnews hone
    have hwr : IntKind.i64.wrap ((n : Int) + (m : Int)) = ((n + m : Nat) : Int) := by rw [IntKind.wrap_i64]; omega
    have fin : ∀ (w4 : World) (v2 : Value), SInv w4 a b c s (n + m) v2 (l ++ [(k, d)]) → Chg (fun k => k = b ∨ k = c ∨ v.ownBlock = some k) w2 w4 → (∀ g, v2.ownBlock = some g → v.ownBlock = some g ∨ w2.heap.size ≤ g) → NxOut w a b c s n v l (.returned (.int .i64 0)) w4 := by
      intro w4 v2 h1 h3 h4
      have hsz := hbA.size
      refine ⟨k, d, m, 0, HG, rfl, fun B hB hBb hBc hBv => (hbA.mono hB).trans (h3.below (by omega) (fun k hk e => ?_)), fun _ => ⟨v2, h1, fun g hg => ?_⟩, fun e0 => absurd rfl e0⟩
      · rcases e with e | e | e
        · omega
        · omega
        · have := hBv k e; omega
      · rcases h4 g hg with e | e
        · exact .inl e
        · right; omega
    have Fin := Lib.hid fin
    have e1 : ((n + m : Nat) : Int) = (n : Int) + (m : Int) := by omega
    have E1 := Lib.hid e1
    clear fin e1
    go_region_law (refine step_append_fp rfl (.tmp 17) (.tmp 19) 67 rfl 0 40 i0 (.agg #[.int .i64 0, .string { data := #[] }]) 2 24 Try.underlying67 hi hz0 hz1 hz2 rfl (by decide) v l.length (encF l) (by first | rfl | simp [Act.eval]) (own.alloc _) ⟨w2.heap.size, 0, none⟩ 1 1 [.int .i64 (k : Nat), .string (mkS d)] (by first | rfl | simp [Act.eval]) rfl (Hnews.out w2) Hone.out H63.out Hby.out (Nat.zero_le _) ?_; intro v2 w3 ho hgr _ hbk; obtain ⟨g2, cap2, rfl, _, _⟩ := World.ownsRow.form ho (Nat.succ_pos _); obtain ⟨h1, h3, h4, h5, h6, h7, h8⟩ := h2.appended (x := (k, d)) ((Chg.alloc (fun _ => False) w2 _).trans (Chg.drew (fun _ => False) _) (fun _ _ x => x)) (by simp) hgr ho hbk (n + m))
    all_goals
      rw [E1.out] at h1 h3
      generalize ((w3.setCell ⟨c, 0, none⟩ _).setCell ⟨b, 0, none⟩ _) = w4 at h1 h3 ⊢
      go_wp2
      go_ret
      exact Fin.out _ _ h1 h3 h4
  · have hne : ((e : Int) == 0) = false := by rw [beq_eq_false_iff_ne]; omega
    clear hgn
    go_enter Try.func49, Try.ntmps49
    go_wp2_with (go_at_call 26; refine (G1 _).mono ?_; rintro y w1 ⟨rfl, hb1⟩)
    go_ret
    have hbA : Below w.heap.size w (w1.alloc (.cells #[.int .i64 (k : Nat), .string (mkS d)] 40)) := hb1.alloc hb1.size _
    exact ⟨k, d, m, e, HG, rfl, fun B hB _ _ _ => hbA.mono hB, fun e0 => absurd e0 he, fun _ => h.keep (Chg.of_below (fun _ => False) hbA) ⟨fun x => x, fun x => x, fun x => x, fun _ _ x => x⟩⟩
end Go.Proofs.Ytmaebileagfdaaa
