/- Contracts of the digits' functions, of the program and of the document. -/
import Derived.Test.YtjmcpdhfefcdgaaDoorBase
import Derived.Test.YtjmcpdhfefcdgaaDoorDig
import Derived.Test.YtjmcpdhfefcdgaaDoorDet
namespace Go.Proofs.YtjmcpdhfefcdgaaDoor
open Go.RowKit Dig

theorem drop_set_lt (L : List UInt8) (k : Nat) (hk : 1 ≤ k) (hl : k ≤ L.length) (y : UInt8) : (L.set (k - 1) y).drop (k - 1) = y :: L.drop k := by
  rw [List.drop_eq_getElem_cons (by simp; omega)]
  simp only [List.getElem_set_self]
  congr 1
  rw [show k - 1 + 1 = k from by omega, List.drop_set_of_lt (by omega)]

set_option maxRecDepth 100000 in
theorem slice9 (g k : Nat) (hk1 : 1 ≤ k) (hk : k ≤ 9) (W : World) : (Instr.sliceAt 85 (.pointer (some ⟨g, 0, none⟩)) (some (.int .i64 ((k : Int) - 1))) none none).run Tryd.prog W = .ok (.slice (some ⟨g, k - 1, none⟩) (9 - (k - 1)) (9 - (k - 1))) W := by
  have e1 : Tryd.prog.arrayLen 85 = 9 := by kernel_rfl
  have e2 : (sizeOf (Tryd.prog.elem 85)).run Tryd.prog W = .ok 1 W := by kernel_rfl
  rw [run_sliceAt_array_l W 85 _ (by kernel_rfl) .i64 ((k : Int) - 1) (by omega) (by rw [e1]; omega), e1, e2]
  have e3 : ((k : Int) - 1).toNat = k - 1 := by omega
  simp only [Result.andThen, slicedAt, e3]
  rw [if_neg (by omega)]
  congr 3
  unfold Addr.add
  split
  · have : k - 1 = 0 := by omega
    rw [this]
  · simp

theorem num_any (N : Nat) (hN : N < 18446744073709551616) (w : World) :
    Calls Tryd.prog 21 #[.int .u64 N] w fun e w' => e = .returned (.string (mkS (numB N))) ∧ Below w.heap.size w w' := by
  have HL := Lib.hid (dig_len8 N hN)
  go_enter Tryd.func21, Tryd.ntmps21
  go_wp2
  go_loopw [0, 4] (fun x i wr => ∃ (n k : Nat) (L : List UInt8), n < 18446744073709551616 ∧ x = .int .u64 n ∧ i = .int .i64 k ∧ k ≤ 9 ∧ L.length = 9 ∧ RowB wr w.heap.size L ∧ Hid (dig N = dig n ++ L.drop k) ∧ Below w.heap.size w wr) (fun x _ _ => (intOf x).toNat)
  case atStart =>
    refine ⟨N, 9, List.replicate 9 0, hN, rfl, rfl, by omega, by simp, ?_, Lib.hid (by simp), (Below.refl _ _).alloc (Nat.le_refl _) _⟩
    intro j b hj
    match j, hj with
    | 0, hj | 1, hj | 2, hj | 3, hj | 4, hj | 5, hj | 6, hj | 7, hj | 8, hj => simp at hj; subst hj; simp
    | j + 9, hj => simp at hj
  case round =>
    obtain ⟨n, k, L, hn, rfl, rfl, hk, hL, hr, hd, HB⟩ := hrel
    have hlen := congrArg List.length hd.out
    rw [List.length_append, List.length_drop, hL] at hlen
    have hl8 := HL.out
    by_cases hpos : 0 < n
    · have hn1 : 1 ≤ (dig n).length := by
        rcases Nat.eq_zero_or_pos (dig n).length with e | e
        · exact absurd (List.length_eq_zero_iff.mp e) (dig_ne_nil n hpos)
        · exact e
      have hk1 : 1 ≤ k := by omega
      obtain ⟨x, hcell, hfz⟩ := hr.some (k - 1) (by omega)
      obtain ⟨y, hy, hy2⟩ := mod_u8 n
      have HLL := Lib.hid hL
      clear hlen hl8 hL
      go_wp2
      go_roundw
      case rel =>
        refine ⟨n / 256, k - 1, L.set (k - 1) y, by omega, by go_num, by go_num, by omega, by simp [HLL.out], hr.set (k - 1) (by rw [HLL.out]; omega) y, Lib.hid ?_, below_setCell HB (Nat.le_refl _) _⟩
        rw [hd.out, drop_set_lt L k hk1 (by rw [HLL.out]; omega), dig_pos n hpos, hy2.out]
        simp
      case measure => simp [intOf]; omega
    · obtain rfl : n = 0 := by omega
      rw [dig_zero, List.length_nil, Nat.zero_add] at hlen
      have hk1 : 1 ≤ k := by omega
      obtain ⟨x, hcell, hfz⟩ := hr.some (k - 1) (by omega)
      obtain ⟨y, hy, hy2⟩ := mod_u8 (9 - k)
      have hy3 : 8 - ((k : Int) - 1) = ((y.toNat : Nat) : Int) := by omega
      have hs := hr.set (k - 1) (by rw [hL]; omega) y
      have hkc := run_bytes_string (P := Tryd.prog) (wr.setCell ⟨w.heap.size, k - 1, none⟩ (.int .u8 (y.toNat : Nat))) 49 9 5 ⟨w.heap.size, k - 1, none⟩ (9 - (k - 1)) (9 - (k - 1)) ((L.set (k - 1) y).drop (k - 1)) (by kernel_rfl) (by kernel_rfl) (by kernel_rfl) (by simp [hL]) (hs.bytesFrom (k - 1))
      have HE : Hid ((L.set (k - 1) y).drop (k - 1) = numB N) := Lib.hid (by
        have hd2 := hd.out
        rw [dig_zero, List.nil_append] at hd2
        rw [drop_set_lt L k hk1 (by rw [hL]; omega), numB, hd2, hy2.out, List.length_drop, hL])
      rw [HE.out] at hkc
      have hsl := slice9 w.heap.size k hk1 hk
      clear hlen hl8 hL hy hs HE
      go_wp2
      go_ret
      exact ⟨rfl, below_setCell HB (Nat.le_refl _) _⟩

set_option maxRecDepth 100000 in
set_option maxHeartbeats 1000000 in
theorem refdigits_any (n : Nat) : ∀ (w : World), n < 18446744073709551616 →
    Calls Tryd.prog 53 #[.int .u64 n] w fun e w' => e = .returned (.string (mkS (dig n))) ∧ Below w.heap.size w w' := by
  induction n using Nat.strongRecOn with
  | _ n ih0 =>
    intro w hn
    have ih : ∀ m, m < n → m < 18446744073709551616 → ∀ w, Calls Tryd.prog 53 #[.int .u64 m] w fun e w' => e = .returned (.string (mkS (dig m))) ∧ Below w.heap.size w w' := fun m h1 h2 w => ih0 m h1 w h2
    clear ih0
    have HB := Below.refl w.heap.size w
    by_cases h0 : n = 0
    · subst h0
      go_enter Tryd.func53, Tryd.ntmps53
      go_wp2
      go_ret
      exact ⟨by rw [dig_zero]; rfl, HB⟩
    · have hne : ((n : Int) == 0) = false := by rw [beq_eq_false_iff_ne]; omega
      have hl := dig_len8 (n / 256) (by omega)
      have hz : ¬ 9223372036854775807 < (mkS (dig (n / 256))).size + (mkS [UInt8.ofNat n]).size := by rw [mkS_size, mkS_size]; simp; omega
      have hE : Hid (mkS (dig (n / 256)) ++ mkS [UInt8.ofNat n] = mkS (dig n)) := Lib.hid (by rw [mkS_append, ← dig_pos n (by omega)])
      obtain ⟨y, hy, hy2⟩ := mod_u8 n
      rw [← hy2.out] at hz hE
      clear hl
      go_enter Tryd.func53, Tryd.ntmps53
      go_upto_region 3 with (fail)
      refine wp_region_det_list (by kernel_rfl) (by kernel_rfl) (SL [eqv (.int .u64 (n : Nat)), eqv (.int .u64 (n / 256 : Int)), eqv (.string (mkS (dig (n / 256)))), eqv (.int .u64 (n : Nat)), eqv (.int .u64 (n % 256 : Int)), eqv (.int .u8 (y.toNat : Nat)), cell0 1 1 (.int .u8 (y.toNat : Nat)), eqv (.string (mkS [y])), eqv (.string (mkS (dig (n / 256)) ++ mkS [y])), eqv (.string (mkS (dig (n / 256)) ++ mkS [y]))]) (fun W => Below w.heap.size w W) Grow ?hJ ?hX ?hop ?hend
      case hJ => exact HB.drew
      case hX => exact SL_mono _ ⟨mono_eqv _, mono_eqv _, mono_eqv _, mono_eqv _, mono_eqv _, mono_eqv _, mono_cell0 _ _ _, mono_eqv _, mono_eqv _, mono_eqv _, trivial⟩
      case hop =>
        refine ⟨fun vals W hJ hS => ?_, fun vals W hJ hS => ?_, fun vals W hJ hS => ?_, fun vals W hJ hS => ?_, fun vals W hJ hS => ?_, fun vals W hJ hS => ?_, fun vals W hJ hS => ?_, fun vals W hJ hS => ?_, fun vals W hJ hS => ?_, fun vals W hJ hS => ?_, trivial⟩
        · clear hS
          simp only [fillTo]
          go_wp2
          exact ⟨rfl, SL_eq rfl rfl, hJ, Below.refl _ _⟩
        · have h0 := SL_val rfl (hS 0 (by kernel_rfl))
          clear hS
          simp only [fillTo]
          go_simp
          generalize vals 0 = v0 at h0 ⊢
          subst h0
          go_wp2
          exact ⟨rfl, SL_eq rfl rfl, hJ, Below.refl _ _⟩
        · have h1 := SL_val rfl (hS 1 (by kernel_rfl))
          clear hS
          simp only [fillTo]
          go_simp
          generalize vals 1 = v1 at h1 ⊢
          subst h1
          go_wp2_with (go_at_call 53; refine (ih (n / 256) (by omega) (by omega) _).mono ?_; rintro e w' ⟨rfl, hb⟩)
          exact ⟨rfl, SL_eq rfl rfl, hJ.trans (hb.mono hJ.size), hb⟩
        · clear hS
          simp only [fillTo]
          go_simp
          go_wp2
          exact ⟨rfl, SL_eq rfl rfl, hJ, Below.refl _ _⟩
        · have h3 := SL_val rfl (hS 3 (by kernel_rfl))
          clear hS
          simp only [fillTo]
          go_simp
          generalize vals 3 = v3 at h3 ⊢
          subst h3
          go_wp2
          exact ⟨rfl, SL_eq rfl rfl, hJ, Below.refl _ _⟩
        · have h4 := SL_val rfl (hS 4 (by kernel_rfl))
          clear hS
          simp only [fillTo]
          go_simp
          generalize vals 4 = v4 at h4 ⊢
          subst h4
          go_wp2
          exact ⟨rfl, SL_eq rfl rfl, hJ, Below.refl _ _⟩
        · have h5 := SL_val rfl (hS 5 (by kernel_rfl))
          clear hS
          simp only [fillTo]
          go_simp
          generalize vals 5 = v5 at h5 ⊢
          subst h5
          go_wp2
          exact ⟨rfl, SL_at rfl ⟨_, rfl, by simp, by simp⟩, hJ.alloc hJ.size _, (Below.refl _ _).alloc (Nat.le_refl _) _⟩
        · obtain ⟨g, hv, hg, hcell⟩ := SL_get rfl (hS 6 (by kernel_rfl))
          have hkc := run_byte_string (P := Tryd.prog) 49 9 5 y (by kernel_rfl) (by kernel_rfl) (by kernel_rfl) W g 1 hcell
          clear hS
          simp only [fillTo]
          go_simp
          go_wp2
          exact ⟨rfl, SL_eq rfl rfl, hJ, Below.refl _ _⟩
        · have h2 := SL_val rfl (hS 2 (by kernel_rfl))
          have h7 := SL_val rfl (hS 7 (by kernel_rfl))
          clear hS
          simp only [fillTo]
          go_simp
          generalize vals 2 = v2 at h2 ⊢
          subst h2
          generalize vals 7 = v7 at h7 ⊢
          subst h7
          go_wp2
          exact ⟨rfl, SL_eq rfl rfl, hJ, Below.refl _ _⟩
        · have h8 := SL_val rfl (hS 8 (by kernel_rfl))
          clear hS
          simp only [fillTo]
          go_simp
          generalize vals 8 = v8 at h8 ⊢
          subst h8
          go_wp2
          exact ⟨rfl, SL_eq rfl rfl, hJ, Below.refl _ _⟩
      case hend =>
        intro vals W hJ hS
        have h9 := SL_val rfl (hS 9 (by decide))
        clear hS
        simp only [List.size_toArray, List.length_cons, List.length_nil, Nat.reduceAdd, fillTo]
        go_simp
        generalize vals 9 = v9 at h9 ⊢
        subst h9
        go_wp2
        go_ret
        exact ⟨ret_str hE.out, hJ⟩

theorem refnum_any (n : Nat) (hn : n < 18446744073709551616) (w : World) :
    Calls Tryd.prog 27 #[.int .u64 n] w fun e w' => e = .returned (.string (mkS (numB n))) ∧ Below w.heap.size w w' := by
  have HB := Below.refl w.heap.size w
  have hl := dig_len8 n hn
  obtain ⟨y, hy, hy2⟩ := mod_u8 (dig n).length
  have hsz := mkS_size (dig n)
  have hkc := run_byte_string (P := Tryd.prog) 49 9 5 y (by kernel_rfl) (by kernel_rfl) (by kernel_rfl)
  have hz : ¬ 9223372036854775807 < (mkS [y]).size + (dig n).length := by rw [mkS_size]; simp; omega
  have hE : Hid (mkS [y] ++ mkS (dig n) = mkS (numB n)) := Lib.hid (by rw [mkS_append, numB, hy2.out]; rfl)
  clear hl
  go_enter Tryd.func27, Tryd.ntmps27
  go_wp2_with (go_at_call 53; refine (refdigits_any n _ hn).mono ?_; rintro e w' ⟨rfl, hb⟩; replace HB := below_tr HB hb; clear hb)
  go_ret
  exact ⟨ret_str hE.out, HB.alloc HB.size _⟩

theorem str_cons (s : ByteArray) (c : UInt8) (rest : List UInt8) (h : s.data.toList = c :: rest) (h0 : 0 < s.size) : s[0] = c := by
  have : s.data.toList[0]'(by rw [h]; simp) = c := by simp [h]
  rw [← this]; rfl

theorem ret_num {l : List UInt8} {n k e : Nat} {x y z : Value} (h : getNum l = (n, k, e)) (hx : x = .int .u64 n) (hy : y = .int .i64 k) (hz : z = .int .i64 e) :
    Ending.returned (.tuple #[x, y, z]) = .returned (.tuple #[.int .u64 (getNum l).1, .int .i64 (getNum l).2.1, .int .i64 (getNum l).2.2]) := by rw [h, hx, hy, hz]

theorem shl_or (v : Nat) (hv : v < 256 ^ 7) (b : UInt8) : bits .or .u64 ((v : Int) * 256) (b.toNat : Int) = ((256 * v + b.toNat : Nat) : Int) := by
  have hb := b.toNat_lt
  have h7 : (256 : Nat) ^ 7 = 72057594037927936 := by decide
  have hk : ∀ n : Int, 0 ≤ n → n < 2 ^ 64 → IntKind.u64.wrap n = n := fun n h0 h1 => by simp [IntKind.wrap, IntKind.bits, IntKind.signed]; omega
  rw [bits_join .u64 64 (by decide) hk 8 ((v : Int) * 256) (b.toNat : Int) (by omega) (by omega) (by omega) (by omega) (by omega) (by omega)]
  omega
theorem wrap_u64_id (n : Int) (h0 : 0 ≤ n) (h1 : n < 18446744073709551616) : IntKind.u64.wrap n = n := by
  simp [IntKind.wrap, IntKind.bits, IntKind.signed]; omega
theorem shl_or_w (v : Nat) (hv : v < 256 ^ 7) (b : UInt8) : bits .or .u64 (IntKind.u64.wrap ((v : Int) * 256)) (IntKind.u64.wrap (b.toNat : Int)) = ((256 * v + b.toNat : Nat) : Int) := by
  have hb := b.toNat_lt
  have h7 : (256 : Nat) ^ 7 = 72057594037927936 := by decide
  rw [wrap_u64_id _ (by omega) (by omega), wrap_u64_id _ (by omega) (by omega), shl_or v hv b]

theorem val_take_lt (l : List UInt8) (j : Nat) (hj : j < 8) : val (l.take j) < 256 ^ 7 := by
  have h := val_lt (l.take j)
  have : 256 ^ (l.take j).length ≤ 256 ^ 7 := Nat.pow_le_pow_right (by decide) (by rw [List.length_take]; omega)
  omega

theorem head_get (l : List UInt8) (R : ByteArray) (hR : R.data.toList = l) (h : 0 < R.size) : l.head? = some (R[0]) := by
  subst hR
  have h0 : 0 < R.data.toList.length := by rw [← size_toList]; exact h
  rw [List.head?_eq_getElem?, List.getElem?_eq_getElem h0]
  rfl

theorem u8_beq0 (x : UInt8) : (((x.toNat : Nat) : Int) == 0) = decide (x = 0) := by
  by_cases h : x = 0
  · subst h; simp
  · have : x.toNat ≠ 0 := fun e => h (UInt8.toNat_inj.mp e)
    rw [decide_eq_false h, beq_eq_false_iff_ne]; omega

theorem getnum_any (s : ByteArray) (hs : s.size ≤ 9223372036854775807) (w : World) :
    Calls Tryd.prog 61 #[.string s] w fun e w' => e = .returned (.tuple #[.int .u64 (getNum s.data.toList).1, .int .i64 (getNum s.data.toList).2.1, .int .i64 (getNum s.data.toList).2.2]) ∧ Below w.heap.size w w' := by
  have HB := Below.refl w.heap.size w
  cases hl : s.data.toList with
  | nil =>
    have he := isEmpty_true hl
    have HL := Lib.hid hl
    clear hl
    go_enter Tryd.func61, Tryd.ntmps61
    go_wp2
    go_ret3
    exact ⟨rfl, HB⟩
  | cons c rest =>
    have hsz : s.size = rest.length + 1 := by rw [size_toList, hl]; rfl
    have h0 : 0 < s.size := by omega
    have hc := str_cons s c rest hl h0
    have hcl := c.toNat_lt
    obtain ⟨R, hR⟩ : ∃ R, s.extract 1 s.size = R := ⟨_, rfl⟩
    have hRl : R.data.toList = rest := by rw [← hR, extract_toList, hl, hsz]; simp
    have hRs : R.size = rest.length := by rw [size_toList, hRl]
    have HL := Lib.hid hl
    have HRl := Lib.hid hRl
    have HSZ := Lib.hid hsz
    have h1 : 1 ≤ s.size := h0
    have he := isEmpty_false h0
    clear hl hRl hsz
    by_cases h8 : 8 < c.toNat
    · have h8' : (8 : Int) < c.toNat := by omega
      go_enter Tryd.func61, Tryd.ntmps61
      go_upto_region 3 with (fail)
      go_quiet (fail)
      go_wp2
      go_ret3
      exact ⟨ret_num (n := 0) (k := 0) (e := 2) (by simp only [getNum, if_pos h8]) rfl rfl rfl, below_drewN HB _⟩
    have h8' : (c.toNat : Int) ≤ 8 := by omega
    by_cases hlen : rest.length < c.toNat
    · go_enter Tryd.func61, Tryd.ntmps61
      go_upto_region 3 with (fail)
      go_quiet (fail)
      go_wp2
      go_ret3
      exact ⟨ret_num (n := 0) (k := 0) (e := 1) (by simp only [getNum, if_neg h8, if_pos hlen]) rfl rfl rfl, below_drewN HB _⟩
    by_cases hz : 0 < c.toNat ∧ rest.head? = some 0
    · have hz1 := hz.1
      have hz2 : 0 < rest.length := by omega
      have hz3 : R[0]'(by omega) = 0 := by
        have := head_get rest R HRl.out (by omega)
        rw [hz.2] at this
        exact (Option.some.inj this).symm
      have Hz := Lib.hid hz
      clear hz
      go_enter Tryd.func61, Tryd.ntmps61
      go_upto_region 3 with (fail)
      go_quiet (fail)
      go_wp2
      go_ret3
      exact ⟨ret_num (n := 0) (k := 0) (e := 3) (by simp only [getNum, if_neg h8, if_neg hlen, if_pos Hz.out]) rfl rfl rfl, below_drewN HB _⟩
    have hg : getNum (c :: rest) = (val (rest.take c.toNat), c.toNat + 1, 0) := by
      simp only [getNum, if_neg h8, if_neg hlen, if_neg hz]
    have hlT : (R.extract 0 c.toNat).data.toList = rest.take c.toNat := by rw [extract_toList, HRl.out]; simp
    obtain ⟨T, hT⟩ : ∃ T, R.extract 0 c.toNat = T := ⟨_, rfl⟩
    rw [hT] at hlT
    have hTs : T.size = c.toNat := by rw [size_toList, hlT, List.length_take]; omega
    have hconv : ∀ W, _ := fun W => Lib.run_convert_string_bytes (P := Tryd.prog) (u := .string) W 9 49 5 T (by kernel_rfl) (by kernel_rfl) (by kernel_rfl)
    have htest : ∀ h : 0 < rest.length, 0 < c.toNat → (((R[0]'(by omega)).toNat : Int) == 0) = false := by
      intro h h2
      rw [u8_beq0]
      apply decide_eq_false
      intro e
      apply hz
      refine ⟨h2, ?_⟩
      rw [head_get rest R HRl.out (by omega), e]
    have Hz := Lib.hid hz
    have Hg := Lib.hid hg
    have HlT := Lib.hid hlT
    have HRs := Lib.hid hRs
    clear hz hg hlT
    go_enter Tryd.func61, Tryd.ntmps61
    go_upto_region 3 with (fail)
    go_quiet (fail)
    go_upto_region 12 with (fail)
    all_goals
      have hrow := bytesWorld_row (w.drewN nq) 5 T
      have HB2 := (below_drewN HB nq).trans ((bytesWorld_below (w.drewN nq) 5 T).mono (Nat.le_refl _))
      rw [HlT.out] at hrow
      generalize Lib.bytesWorld (w.drewN nq) 5 T = w1 at hrow HB2 ⊢
      clear hconv htest
      go_loop [7, 9, 38] (fun v _ i => ∃ j : Nat, j ≤ c.toNat ∧ i = .int .i64 j ∧ v = .int .u64 (val (rest.take j))) (fun _ _ i => c.toNat - (intOf i).toNat)
      case atStart => exact ⟨0, by omega, rfl, rfl⟩
      case round =>
        obtain ⟨j, hj, rfl, rfl⟩ := hrel
        by_cases hlt : j < c.toNat
        · have hjr : j < rest.length := by omega
          have hcell := (hrow j rest[j] (by rw [List.getElem?_take, if_pos hlt, List.getElem?_eq_getElem hjr])).1
          rw [show (w.drewN nq).heap.size = w.heap.size from rfl] at hcell
          go_wp2
          go_round
          case rel =>
            refine ⟨j + 1, by omega, by go_num, ?_⟩
            rw [List.take_succ_eq_append_getElem hjr, val_snoc]
            first
            | rw [shl_or_w _ (val_take_lt rest j (by omega))]
            | rw [shl_or _ (val_take_lt rest j (by omega))]
          case measure => simp [intOf]; omega
        · obtain rfl : j = c.toNat := by omega
          go_wp2
          go_ret3
          exact ⟨ret_num Hg.out rfl (by show Value.int .i64 (1 + (c.toNat : Int)) = _; congr 1; omega) rfl, HB2⟩
end Go.Proofs.YtjmcpdhfefcdgaaDoor
