/- Frames one behind the other, whole or cut off: plain. -/
import Derived.Test.YtmaebileagfdaaaScan
namespace Go.Proofs.Ytmaebileagfdaaa
open Go.RowKit Dig Crc
namespace Frm
def Ok (x : Nat × List UInt8) : Prop := (1 ≤ (x.1 : Int) ∧ (x.1 : Int) ≤ 255) ∧ x.2.length ≤ 65536
def putx (x : Nat × List UInt8) : List UInt8 := (put (x.1 : Nat) x.2).1
def puts (G : List (Nat × List UInt8)) : List UInt8 := (G.map putx).flatten
theorem puts_snoc (G : List (Nat × List UInt8)) (x : Nat × List UInt8) : puts (G ++ [x]) = puts G ++ putx x := by simp [puts]
theorem puts_append (G K : List (Nat × List UInt8)) : puts (G ++ K) = puts G ++ puts K := by simp [puts]
theorem puts_cons (x : Nat × List UInt8) (G : List (Nat × List UInt8)) : puts (x :: G) = putx x ++ puts G := by simp [puts]
theorem putx_pos (x : Nat × List UInt8) (h : Ok x) : 6 ≤ (putx x).length := by
  unfold putx; rw [put_len h.1 h.2]; simp [textB, numB]
theorem get_putx (x : Nat × List UInt8) (h : Ok x) (r : List UInt8) : get (putx x ++ r) = (x.1, x.2, (putx x).length, 0) := by
  have := get_put h.1 h.2 r
  unfold putx
  rw [this]; rfl

theorem scan_puts (G : List (Nat × List UInt8)) (h : ∀ x ∈ G, Ok x) (r : List UInt8) : scan (puts G ++ r) = (G ++ (scan r).1, (puts G).length + (scan r).2.1, (scan r).2.2) := by
  induction G with
  | nil => simp [puts]
  | cons x G ih =>
    have hx := h x (by simp)
    have h1 : puts (x :: G) = putx x ++ puts G := by simp [puts]
    have hp := putx_pos x hx
    have hg := get_putx x hx (puts G ++ r)
    have h0 : putx x ++ (puts G ++ r) ≠ [] := by
      intro e
      have := congrArg List.length e
      rw [List.length_append, List.length_nil] at this; omega
    rw [h1, List.append_assoc, scan_ok h0 (by rw [hg]), hg]
    simp only
    rw [List.drop_append_of_le_length (Nat.le_refl _), List.drop_length, List.nil_append, ih (fun y hy => h y (by simp [hy]))]
    simp [Nat.add_assoc]

theorem getNum_pre (n : Nat) (h : n < 18446744073709551616) (c : Nat) (hc : c < (numB n).length) : getNum ((numB n).take c) = (0, 0, 1) := getNum_cut n h c hc

/-- A text that is cut off is too short. -/
theorem getText_pre (d : List UInt8) (hd : d.length ≤ 65536) (c : Nat) (hc : c < (textB d).length) : getText ((textB d).take c) 65536 = ([], 0, 1) := by
  unfold textB at hc ⊢
  rw [List.length_append] at hc
  by_cases h : c < (numB d.length).length
  · rw [List.take_append_of_le_length (by omega)]
    unfold getText
    rw [getNum_cut d.length (by omega) c h]
    simp
  · rw [List.take_append, List.take_of_length_le (by omega)]
    unfold getText
    rw [getNum_numB d.length (by omega)]
    simp only
    rw [if_neg (by simp), if_neg (by omega), if_pos (by rw [List.length_append, List.length_take]; omega)]

theorem get_pre {k : Int} {d : List UInt8} (h : 1 ≤ k ∧ k ≤ 255) (hd : d.length ≤ 65536) (c : Nat) (hc0 : 0 < c) (hc : c < (put k d).1.length) : get ((put k d).1.take c) = (0, [], 0, 1) := by
  have hb0 : ¬ UInt8.ofNat k.toNat = 0 := by
    intro e
    have := congrArg UInt8.toNat e
    rw [UInt8.toNat_ofNat'] at this
    simp at this; omega
  have hl := put_len h hd
  rw [put_ok h hd] at hc ⊢
  rw [put_ok h hd] at hl
  simp only at hc hl ⊢
  obtain ⟨c', rfl⟩ : ∃ c', c = c' + 1 := ⟨c - 1, by omega⟩
  have e1 : (body k d ++ sumB (moreN 0 (body k d))).take (c' + 1) = UInt8.ofNat k.toNat :: (textB d ++ sumB (moreN 0 (body k d))).take c' := by simp [body]
  have hlen : ((body k d ++ sumB (moreN 0 (body k d))).take (c' + 1)).length = c' + 1 := by rw [List.length_take]; omega
  rw [e1] at hlen ⊢
  unfold get
  simp only
  rw [if_neg hb0]
  by_cases h1 : c' < (textB d).length
  · rw [List.take_append_of_le_length (by omega), getText_pre d hd c' h1]
    simp
  · have e2 : (textB d ++ sumB (moreN 0 (body k d))).take c' = textB d ++ (sumB (moreN 0 (body k d))).take (c' - (textB d).length) := by
      rw [List.take_append, List.take_of_length_le (by omega)]
    have hgt := getText_textB d ((sumB (moreN 0 (body k d))).take (c' - (textB d).length)) 65536 (by omega) (by omega)
    rw [e2] at hlen ⊢
    rw [hgt]
    simp only
    rw [if_neg (by simp), if_pos (by omega)]

/-- Where each frame ends. -/
def endAt (G : List (Nat × List UInt8)) (i : Nat) : Nat := (puts (G.take i)).length
theorem endAt_zero (G : List (Nat × List UInt8)) : endAt G 0 = 0 := by simp [endAt, puts]
theorem endAt_succ (G : List (Nat × List UInt8)) (i : Nat) (x : Nat × List UInt8) (h : G[i]? = some x) : endAt G (i + 1) = endAt G i + (putx x).length := by
  unfold endAt
  rw [List.take_add_one, h]
  simp only [Option.toList_some, puts_snoc, List.length_append]
theorem endAt_mono (G : List (Nat × List UInt8)) (i j : Nat) (h : i ≤ j) : endAt G i ≤ endAt G j := by
  unfold endAt
  have : G.take i = (G.take j).take i := by rw [List.take_take, Nat.min_eq_left h]
  rw [this]
  conv => rhs; rw [← List.take_append_drop i (G.take j)]
  rw [puts_append, List.length_append]; omega
theorem endAt_all (G : List (Nat × List UInt8)) : endAt G G.length = (puts G).length := by simp [endAt]

theorem scan_cut (G : List (Nat × List UInt8)) (h : ∀ x ∈ G, Ok x) (i cut : Nat) (hi : i < G.length) (h1 : endAt G i ≤ cut) (h2 : cut < endAt G (i + 1)) :
    scan ((puts G).take cut) = (G.take i, endAt G i, if cut = endAt G i then 0 else 1) := by
  have hx := List.getElem?_eq_getElem hi
  have he := endAt_succ G i _ hx
  have hok : Ok G[i] := h _ (List.getElem_mem hi)
  have hG : G = G.take i ++ G[i] :: G.drop (i + 1) := by rw [← List.drop_eq_getElem_cons hi, List.take_append_drop]
  have e1 : (puts G).take cut = puts (G.take i) ++ (putx G[i]).take (cut - endAt G i) := by
    have e0 : puts G = puts (G.take i) ++ (putx G[i] ++ puts (G.drop (i + 1))) := by
      have e9 : puts G = puts (G.take i ++ G[i] :: G.drop (i + 1)) := by rw [← hG]
      rw [e9, puts_append, puts_cons]
    rw [e0, List.take_append, List.take_of_length_le (by unfold endAt at h1; exact h1)]
    congr 1
    rw [List.take_append_of_le_length]
    · rfl
    · unfold endAt at *; omega
  rw [e1, scan_puts _ (fun x hx => h x (List.mem_of_mem_take hx))]
  by_cases hc : cut = endAt G i
  · rw [if_pos hc, hc, Nat.sub_self, List.take_zero, scan_nil]
    simp [endAt]
  · rw [if_neg hc]
    have hg : get ((putx G[i]).take (cut - endAt G i)) = (0, [], 0, 1) := get_pre hok.1 hok.2 _ (by omega) (by unfold putx at he; omega)
    have h0 : (putx G[i]).take (cut - endAt G i) ≠ [] := by
      intro e
      have := congrArg List.length e
      rw [List.length_take, List.length_nil] at this
      omega
    rw [scan_err h0 (by rw [hg]; simp), hg]
    simp [endAt]
end Frm
end Go.Proofs.Ytmaebileagfdaaa
