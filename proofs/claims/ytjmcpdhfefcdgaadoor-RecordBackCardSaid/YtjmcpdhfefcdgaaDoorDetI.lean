/- A region whose order the model draws, walked by one invariant of what is done, of the values, and of the world. -/
import Derived.Test.YtjmcpdhfefcdgaaDoorDet
namespace Go.Proofs.YtjmcpdhfefcdgaaDoor
open Go.RowKit

theorem wp_region_inv {P : Program} {id : Nat} {ops : Array Oper} {Q : Exit → Act → World → Prop} {a0 : Act} {w : World}
    (hm : P.follows .mixedOrders = true) (hok : detOk ops = true)
    (Inv : (Nat → Bool) → (Nat → Value) → World → Prop)
    (h0 : Inv (fun _ => false) (fun _ => undef) w.drew)
    (hop : ∀ i o, ops[i]? = some o → ∀ D vals W, Inv D vals W → D i = false → (∀ j, hangsOn ops i j = true → D j = true) → (∀ j k, D j = true → hangsOn ops j k = true → D k = true) →
      wpOp P ops (fun _ _ _ => False) i (fun a' W' => ∃ v, a' = (fillD ops a0 (fun j => decide (j < i)) vals).put o.dst v ∧ Inv (fun j => j == i || D j) (upd vals i v) W') (fillD ops a0 (fun j => decide (j < i)) vals) W)
    (hend : ∀ vals W, Inv (fun j => decide (j < ops.size)) vals W → Q .normal (fillD ops a0 (fun j => decide (j < ops.size)) vals) W) :
    (Code.region id ops true).wp P Q a0 w := by
  have hall := List.all_eq_true.mp hok
  have hat : ∀ (i : Nat) (o : Oper), ops[i]? = some o → (∀ e ∈ o.after, Region.binds .any e = true → e.on < i) ∧ (∀ d, o.dst = some d → ownerOf ops d = some i) ∧
      (∀ cs b, o.op ≠ .select cs b) ∧
      (∀ t ∈ o.looksAt ops, ∀ j, ownerOf ops t = some j → (hangsOn ops i j = true ∧ j < i) ∨ (hangsOn ops j i = true ∧ i < j)) := by
    intro i o hi
    have hlt : i < ops.size := (Array.getElem?_eq_some_iff.1 hi).1
    have h := hall i (List.mem_range.mpr hlt)
    simp only [hi, Bool.and_eq_true] at h
    obtain ⟨⟨⟨h1, h2⟩, h3⟩, h4⟩ := h
    refine ⟨?_, ?_, ?_, ?_⟩
    · intro e he hb
      have := Array.all_eq_true_iff_forall_mem.1 h1 e he
      simpa [hb] using this
    · intro d hd
      simpa [hd] using h2
    · intro cs b hs
      simp [hs] at h3
    · intro t ht j hj
      have := List.all_eq_true.1 h4 t ht
      simpa [hj] using this
  have hang : ∀ (i j : Nat) (o : Oper), ops[i]? = some o → hangsOn ops i j = true → ∃ e ∈ o.after, Region.binds .any e = true ∧ e.on = j := by
    intro i j o hi hh
    simp only [hangsOn, hi, Option.map_some, Option.getD_some] at hh
    obtain ⟨x, hx, h⟩ := Array.any_eq_true.1 hh
    simp only [Bool.and_eq_true, beq_iff_eq] at h
    exact ⟨o.after[x], Array.getElem_mem hx, h.1, h.2⟩
  refine wp_region_any hm ?_
  have main : ∀ fuel (listed : Array Bool) (vals : Nat → Value) (W : World), listed.size = ops.size → (listed.toList.filter (fun b => !b)).length ≤ fuel → Inv (fun j => listed.getD j false) vals W →
      (∀ (i : Nat) (o : Oper), ops[i]? = some o → listed.getD i false = true → ∀ e ∈ o.after, Region.binds .any e = true → listed.getD e.on false = true) →
      wpAny P .any ops Q fuel listed (fillD ops a0 (fun j => listed.getD j false) vals) W := by
    have hfull : ∀ (listed : Array Bool), listed.size = ops.size → Region.ready .any ops listed = [] → ∀ i, i < ops.size → listed.getD i false = true := by
      intro listed hsz hr i
      induction i using Nat.strongRecOn with
      | _ i ih =>
        intro hlt
        have ho : ops[i]? = some ops[i] := Array.getElem?_eq_getElem hlt
        have hnr : i ∉ Region.ready .any ops listed := by rw [hr]; simp
        rw [mem_ready] at hnr
        cases hb : listed.getD i false with
        | true => rfl
        | false =>
          exfalso
          apply hnr
          have hli : i < listed.size := by omega
          refine ⟨by simpa [Array.getD, hli] using hb, _, ho, fun e he hbd => ?_⟩
          have hon := (hat i _ ho).1 e he hbd
          exact ih e.on hon (by omega)
    have hdone : ∀ (listed : Array Bool) (vals : Nat → Value) (W : World), listed.size = ops.size → Inv (fun j => listed.getD j false) vals W →
        Region.ready .any ops listed = [] → Q .normal (fillD ops a0 (fun j => listed.getD j false) vals) W := by
      intro listed vals W hsz hI hr
      have hf := hfull listed hsz hr
      have : (fun j => listed.getD j false) = (fun j => decide (j < ops.size)) := by
        funext j
        by_cases hlt : j < ops.size
        · rw [hf j hlt]; simp [hlt]
        · have : ¬ j < listed.size := by omega
          simp [Array.getD, this, hlt]
      rw [this] at hI ⊢
      exact hend vals W hI
    intro fuel
    induction fuel with
    | zero =>
      intro listed vals W hsz hc hI hcl
      have hr : Region.ready .any ops listed = [] := by
        rw [List.eq_nil_iff_forall_not_mem]
        intro i hi
        obtain ⟨h1, o, ho, _⟩ := mem_ready.1 hi
        have hlt : i < ops.size := (Array.getElem?_eq_some_iff.1 ho).1
        have hli : i < listed.size := by omega
        have hm : listed[i] ∈ listed.toList.filter (fun b => !b) := by
          rw [List.mem_filter]
          refine ⟨by simp, ?_⟩
          simpa [Array.getD, hli] using h1
        have : 0 < (listed.toList.filter (fun b => !b)).length := List.length_pos_of_mem hm
        omega
      exact ⟨hr, hdone listed vals W hsz hI hr⟩
    | succ fuel ih =>
      intro listed vals W hsz hc hI hcl
      refine ⟨hdone listed vals W hsz hI, ?_⟩
      intro i hi
      obtain ⟨h1, o, ho, hdep⟩ := mem_ready.1 hi
      have hlt : i < ops.size := (Array.getElem?_eq_some_iff.1 ho).1
      have hli : i < listed.size := by omega
      have hfi : listed.getD i false = false := by simpa [Array.getD, hli] using h1
      obtain ⟨ha1, ha2, ha3, ha4⟩ := hat i o ho
      have hDd : ∀ j, hangsOn ops i j = true → listed.getD j false = true := by
        intro j hh
        obtain ⟨e, he, hb, rfl⟩ := hang i j o ho hh
        exact hdep e he hb
      have hDc : ∀ j k, listed.getD j false = true → hangsOn ops j k = true → listed.getD k false = true := by
        intro j k hj hh
        have hjl : j < ops.size := by
          rcases Nat.lt_or_ge j listed.size with h | h
          · omega
          · have : ¬ j < listed.size := by omega
            simp [Array.getD, this] at hj
        have hoj : ops[j]? = some ops[j] := Array.getElem?_eq_getElem hjl
        obtain ⟨e, he, hb, rfl⟩ := hang j k _ hoj hh
        exact hcl j _ hoj hj e he hb
      have hst := hop i o ho (fun j => listed.getD j false) vals W hI hfi hDd hDc
      have hlook := fill_looks (ops := ops) (a0 := a0) (D := fun j => listed.getD j false) (D' := fun j => decide (j < i)) (vals := vals) (o := o) (by
        intro t ht j hj
        rcases ha4 t ht j hj with ⟨hh, hji⟩ | ⟨hh, hij⟩
        · obtain ⟨e, he, hb, rfl⟩ := hang i j o ho hh
          have := hdep e he hb
          simp only [this, hji, decide_true]
        · obtain ⟨oj, hoj, _⟩ := owner_dst hj
          obtain ⟨e, he, hb, hon⟩ := hang j i oj hoj hh
          have hnj : listed.getD j false = false := by
            cases hb2 : listed.getD j false with
            | false => rfl
            | true =>
              have := hcl j oj hoj hb2 e he hb
              rw [hon, hfi] at this
              cases this
          have : ¬ j < i := by omega
          simp only [hnj, this, decide_false])
      have hex := execOp_congr o ha3 hlook.1
      have hn : o.dst = none → ∀ t, ownerOf ops t ≠ some i := by
        intro hd t ht
        obtain ⟨o', ho', hd'⟩ := owner_dst ht
        rw [ho] at ho'; cases ho'
        rw [hd] at hd'; cases hd'
      have hset : (fun j => (listed.setIfInBounds i true).getD j false) = (fun j => j == i || listed.getD j false) := by
        funext j
        by_cases hji : j = i
        · subst hji; simp [Array.getD, hli]
        · have hij : i ≠ j := fun e => hji e.symm
          rw [getD_set_ne false hij]; simp [hji]
      have next : ∀ v W', Inv (fun j => j == i || listed.getD j false) (upd vals i v) W' →
          wpAny P .any ops Q fuel (listed.setIfInBounds i true) ((fillD ops a0 (fun j => listed.getD j false) vals).put o.dst v) W' := by
        intro v W' hI'
        rw [fillD_put ops a0 _ vals i o ho v ha2 hn hfi, ← hset]
        refine ih (listed.setIfInBounds i true) (upd vals i v) W' (by simpa using hsz) ?_ (by rw [hset]; exact hI') ?_
        · have hl : listed.toList[i]? = some false := by
            rw [List.getElem?_eq_getElem (by simpa using hli)]
            simpa [Array.getD, hli] using h1
          have := count_set listed.toList i hl
          rw [Array.toList_setIfInBounds]
          omega
        · intro k ok hok2 hk e he hb
          have hk' : (k == i || listed.getD k false) = true := by rw [← congrFun hset k]; exact hk
          have goal : listed.getD e.on false = true := by
            by_cases hki : k = i
            · subst hki
              rw [ho] at hok2; cases hok2
              exact hdep e he hb
            · have hlk : listed.getD k false = true := by
                have : (k == i) = false := by simpa using hki
                rw [this, Bool.false_or] at hk'; exact hk'
              exact hcl k ok hok2 hlk e he hb
          exact getD_set_true goal
      unfold wpOp at hst ⊢
      simp only [ho] at hst ⊢
      rw [hlook.2]
      by_cases hw : Region.wanted o (yielded ops (fillD ops a0 (fun j => decide (j < i)) vals).tmps) = true
      · simp only [hw, if_true] at hst ⊢
        rcases hst with hst | ⟨_, hl⟩
        · refine .inl ?_
          unfold Oper.wp at hst ⊢
          rw [hex]
          have hsz2 : (fillD ops a0 (fun j => listed.getD j false) vals).tmps.size = (fillD ops a0 (fun j => decide (j < i)) vals).tmps.size := by simp [fillD]
          have conv : ∀ v W', (∃ v', (fillD ops a0 (fun j => decide (j < i)) vals).put o.dst v = (fillD ops a0 (fun j => decide (j < i)) vals).put o.dst v' ∧ Inv (fun j => j == i || listed.getD j false) (upd vals i v') W') →
              wpAny P .any ops Q fuel (listed.setIfInBounds i true) ((fillD ops a0 (fun j => listed.getD j false) vals).put o.dst v) W' := by
            rintro v W' ⟨v', he, h1⟩
            rw [put_transfer _ _ hsz2 _ _ _ he]
            exact next v' W' h1
          generalize (execOp (fillD ops a0 (fun j => decide (j < i)) vals).eval o).run P W = r at hst ⊢
          cases r with
          | ok n w' =>
            cases n <;> simp only [Oper.upon] at hst ⊢
            case value u => exact conv _ _ hst
            case skip => exact conv _ _ hst
            case defer d =>
              obtain ⟨v', he, _⟩ := hst
              have := congrArg (fun x : Act => x.defers.length) he
              exfalso
              revert this
              cases o.dst <;> simp [Act.put]
            case enter f args =>
              refine Calls.mono hst fun e w'' he => ?_
              cases e with
              | returned u => exact conv _ _ he
              | panicked c => exact he.elim
              | outgrown => obtain ⟨_, _, hf⟩ := he; exact hf.elim
            case row row args => exact Rows.mono hst fun u w'' he => conv _ _ he
          | halt x w' =>
            cases x <;> simp only [Oper.upon] at hst ⊢
        · obtain ⟨_, _, hf⟩ := hl; exact hf.elim
      · simp only [hw, Bool.false_eq_true, if_false] at hst ⊢
        obtain ⟨v', he, h1⟩ := hst
        have hsz2 : (fillD ops a0 (fun j => listed.getD j false) vals).tmps.size = (fillD ops a0 (fun j => decide (j < i)) vals).tmps.size := by simp [fillD]
        rw [put_transfer _ _ hsz2 _ _ _ he]
        exact next v' W h1
  have h1 := main ops.size (Array.replicate ops.size false) (fun _ => undef) w.drew (by simp) (by
    refine Nat.le_trans (List.length_filter_le _ _) (by simp)) (by
    have hz : (fun j => (Array.replicate ops.size false).getD j false) = fun _ => false := by
      funext j
      by_cases hlt : j < ops.size <;> simp [Array.getD, hlt]
    rw [hz]; exact h0) (by
    intro i o ho hj
    by_cases hlt : i < ops.size <;> simp [Array.getD, hlt] at hj)
  have hz : (fun j => (Array.replicate ops.size false).getD j false) = fun _ => false := by
    funext j
    by_cases hlt : j < ops.size <;> simp [Array.getD, hlt]
  rw [hz] at h1
  have hid : fillD ops a0 (fun _ => false) (fun _ => undef) = a0 := by
    cases a0 with
    | mk t d =>
      simp only [fillD, Bool.false_eq_true, if_false]
      congr 1
      apply Array.ext_getElem?
      intro k
      simp only [Array.getElem?_mapIdx]
      cases t[k]? with
      | none => rfl
      | some x => simp only [Option.map_some]; split <;> rfl
  rw [hid] at h1
  exact h1

/-- What is owed for each operation, one by one. -/
def InvGoal (P : Program) (ops : Array Oper) (Inv : (Nat → Bool) → (Nat → Value) → World → Prop) (a0 : Act) : List Oper → Nat → Prop
  | [], _ => True
  | o :: l, i => (∀ (D : Nat → Bool) (vals : Nat → Value) (W : World), Inv D vals W → D i = false → (∀ j, hangsOn ops i j = true → D j = true) → (∀ j k, D j = true → hangsOn ops j k = true → D k = true) →
      wpList P ops (stepQ o (fillTo ops vals a0 i) (fun v W' => Inv (fun j => j == i || D j) (upd vals i v) W') (fun _ => True) (fun _ _ => True) W) [o] (fillTo ops vals a0 i) W) ∧ InvGoal P ops Inv a0 l (i + 1)

theorem InvGoal.at {P : Program} {ops : Array Oper} {Inv : (Nat → Bool) → (Nat → Value) → World → Prop} {a0 : Act} : ∀ (l : List Oper) (k : Nat), InvGoal P ops Inv a0 l k →
    ∀ i o, l[i]? = some o → ∀ (D : Nat → Bool) (vals : Nat → Value) (W : World), Inv D vals W → D (k + i) = false → (∀ j, hangsOn ops (k + i) j = true → D j = true) → (∀ j k, D j = true → hangsOn ops j k = true → D k = true) →
      wpList P ops (stepQ o (fillTo ops vals a0 (k + i)) (fun v W' => Inv (fun j => j == (k + i) || D j) (upd vals (k + i) v) W') (fun _ => True) (fun _ _ => True) W) [o] (fillTo ops vals a0 (k + i)) W := by
  intro l
  induction l with
  | nil => intro k _ i o h; simp at h
  | cons x l ih =>
    intro k h i o hi
    cases i with
    | zero => simp only [List.getElem?_cons_zero, Option.some.injEq] at hi; subst hi; exact h.1
    | succ i =>
      have := ih (k + 1) h.2 i o (by simpa using hi)
      rw [show k + 1 + i = k + (i + 1) from by omega] at this
      exact this

theorem stepI {o : Oper} {a a' : Act} {S : Value → World → Prop} {W W' : World}
    (h : stepQ o a S (fun _ => True) (fun _ _ => True) W .normal a' W') : ∃ v, a' = a.put o.dst v ∧ S v W' := ⟨_, h.1, h.2.1⟩

theorem wp_region_inv_list {P : Program} {id : Nat} {ops : Array Oper} {Q : Exit → Act → World → Prop} {a0 : Act} {w : World}
    (hm : P.follows .mixedOrders = true) (hok : detOk ops = true)
    (Inv : (Nat → Bool) → (Nat → Value) → World → Prop)
    (h0 : Inv (fun _ => false) (fun _ => undef) w.drew)
    (hop : InvGoal P ops Inv a0 ops.toList 0)
    (hend : ∀ vals W, Inv (fun j => decide (j < ops.size)) vals W → Q .normal (fillTo ops vals a0 ops.size) W) :
    (Code.region id ops true).wp P Q a0 w := by
  have hown : ∀ (i : Nat) (o : Oper), ops[i]? = some o → ∀ d, o.dst = some d → ownerOf ops d = some i := by
    intro i o hi d hd
    have hlt : i < ops.size := (Array.getElem?_eq_some_iff.1 hi).1
    have h := (List.all_eq_true.mp hok) i (List.mem_range.mpr hlt)
    simp only [hi, Bool.and_eq_true] at h
    obtain ⟨⟨⟨h1, h2⟩, h3⟩, h4⟩ := h
    simpa [hd] using h2
  refine wp_region_inv hm hok Inv h0 ?_ ?_
  · intro i o hi D vals W hI hDi hDd hDc
    have hlt : i < ops.size := (Array.getElem?_eq_some_iff.1 hi).1
    have h := InvGoal.at ops.toList 0 hop i o (by simpa using hi) D vals W hI (by simpa using hDi) (by simpa using hDd) hDc
    simp only [Nat.zero_add] at h
    rw [fillTo_eq ops vals a0 hown i (by omega)]
    unfold wpOp
    simp only [hi]
    simp only [wpList] at h
    split at h
    · rename_i hw
      simp only [hw, if_true]
      rcases h with h | ⟨_, _, _, hf⟩
      · refine .inl ?_
        unfold Oper.wp at h ⊢
        revert h
        generalize (execOp (fillTo ops vals a0 i).eval o).run P W = r
        intro h
        cases r with
        | ok n w' =>
          cases n <;> simp only [Oper.upon] at h ⊢
          case value u => exact stepI h
          case skip => exact stepI h
          case defer d => exact stepI h
          case enter f args =>
            refine Calls.mono h fun e w'' he => ?_
            cases e with
            | returned u => exact stepI he
            | panicked c => exact he.elim
            | outgrown => obtain ⟨_, _, hf⟩ := he; exact hf.elim
          case row row args => exact Rows.mono h fun u w'' he => stepI he
        | halt x w' =>
          cases x <;> simp only [Oper.upon] at h ⊢
          exact h.elim
      · exact hf.elim
    · rename_i hw
      simp only [hw, Bool.false_eq_true, if_false]
      exact stepI h
  · intro vals W hI
    rw [fillTo_eq ops vals a0 hown _ (Nat.le_refl _)]
    exact hend vals W hI

end Go.Proofs.YtjmcpdhfefcdgaaDoor
