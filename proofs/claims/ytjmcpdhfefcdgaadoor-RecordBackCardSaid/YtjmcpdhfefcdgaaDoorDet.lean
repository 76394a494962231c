/- A region whose order the model draws, where each operation's result is told by what it reads alone: every order comes to one end. -/
import Derived.Test.YtjmcpdhfefcdgaaDoorProg
import Derived.Orders
import Derived.Below
import Derived.WalkKit
namespace Go.Proofs.YtjmcpdhfefcdgaaDoor
open Go.RowKit

/-- Which operation writes a slot. -/
def ownerOf (ops : Array Oper) (t : Tmp) : Option Nat := (List.range ops.size).find? fun j => ((ops[j]?).bind (·.dst)) == some t

def hangsOn (ops : Array Oper) (i j : Nat) : Bool := ((ops[i]?).map fun o => o.after.any fun e => Region.binds .any e && e.on == j).getD false

/-- The slots filled by those operations that are done. -/
def fillD (ops : Array Oper) (a0 : Act) (D : Nat → Bool) (vals : Nat → Value) : Act :=
  { a0 with tmps := a0.tmps.mapIdx fun t x => match ownerOf ops t with | some j => if D j then vals j else x | none => x }

def upd (vals : Nat → Value) (i : Nat) (v : Value) : Nat → Value := fun j => if j = i then v else vals j

/-- What is looked at once, of the text alone: no slot has two writers; an operation hangs on earlier ones; what it reads of this region was written ahead of it, or is written behind it, by edges. -/
def detOk (ops : Array Oper) : Bool :=
  (List.range ops.size).all fun i =>
    match ops[i]? with
    | none => false
    | some o =>
      (o.after.all fun e => !Region.binds .any e || decide (e.on < i)) &&
      (match o.dst with | some d => ownerOf ops d == some i | none => true) &&
      (match o.op with | .select .. => false | _ => true) &&
      ((o.looksAt ops).all fun t => match ownerOf ops t with | some j => (hangsOn ops i j && decide (j < i)) || (hangsOn ops j i && decide (i < j)) | none => true)

theorem fillD_get (ops : Array Oper) (a0 : Act) (D : Nat → Bool) (vals : Nat → Value) (t : Nat) :
    (fillD ops a0 D vals).tmps[t]? = (a0.tmps[t]?).map fun x => match ownerOf ops t with | some j => if D j then vals j else x | none => x := by
  simp [fillD]

theorem fillD_put (ops : Array Oper) (a0 : Act) (D : Nat → Bool) (vals : Nat → Value) (i : Nat) (o : Oper) (hi : ops[i]? = some o) (v : Value)
    (hd : ∀ d, o.dst = some d → ownerOf ops d = some i) (hn : o.dst = none → ∀ t, ownerOf ops t ≠ some i) (hD : D i = false) :
    (fillD ops a0 D vals).put o.dst v = fillD ops a0 (fun j => j == i || D j) (upd vals i v) := by
  have key : ∀ t : Nat, ((fillD ops a0 D vals).put o.dst v).tmps[t]? = (fillD ops a0 (fun j => j == i || D j) (upd vals i v)).tmps[t]? := by
    intro t
    cases hdst : o.dst with
    | none =>
      simp only [Act.put]
      rw [fillD_get, fillD_get]
      congr 1; funext x
      have hne := hn hdst t
      cases ho : ownerOf ops t with
      | none => rfl
      | some j =>
        have hj : j ≠ i := fun e => hne (by rw [ho, e])
        simp [upd, hj]
    | some d =>
      simp only [Act.put]
      rw [Array.getElem?_setIfInBounds]
      by_cases hdt : d = t
      · subst hdt
        rw [if_pos rfl, fillD_get, hd d hdst]
        simp only [upd, beq_self_eq_true, Bool.true_or, if_true]
        have hsz : (fillD ops a0 D vals).tmps.size = a0.tmps.size := by simp [fillD]
        rw [hsz]
        by_cases hlt : d < a0.tmps.size
        · simp [hlt]
        · simp [hlt]
      · rw [if_neg hdt, fillD_get, fillD_get]
        congr 1; funext x
        cases ho : ownerOf ops t with
        | none => rfl
        | some j =>
          have hj : j ≠ i := by
            intro e; subst e
            have h1 := hd d hdst
            have h2 := List.find?_some (by exact ho : (List.range ops.size).find? _ = some j)
            simp only [hi, Option.bind_some, hdst] at h2
            exact hdt (by simpa using h2)
          simp [upd, hj]
  have hdf : ((fillD ops a0 D vals).put o.dst v).defers = (fillD ops a0 (fun j => j == i || D j) (upd vals i v)).defers := by
    cases o.dst <;> rfl
  cases h1 : (fillD ops a0 D vals).put o.dst v with
  | mk t1 d1 =>
    cases h2 : fillD ops a0 (fun j => j == i || D j) (upd vals i v) with
    | mk t2 d2 =>
      rw [h1, h2] at hdf key
      have : t1 = t2 := Array.ext_getElem? key
      simp only at hdf
      rw [this, hdf]

theorem owner_dst {ops : Array Oper} {t j : Nat} (h : ownerOf ops t = some j) : ∃ o, ops[j]? = some o ∧ o.dst = some t := by
  have h2 := List.find?_some (by exact h : (List.range ops.size).find? _ = some j)
  cases ho : ops[j]? with
  | none => simp [ho] at h2
  | some o => exact ⟨o, rfl, by simpa [ho] using h2⟩

/-- Two fillings that agree where an operation looks are one to it. -/
theorem fill_looks {ops : Array Oper} {a0 : Act} {D D' : Nat → Bool} {vals : Nat → Value} {o : Oper}
    (h : ∀ t ∈ o.looksAt ops, ∀ j, ownerOf ops t = some j → D j = D' j) :
    (∀ x ∈ o.op.operands, (fillD ops a0 D vals).eval x = (fillD ops a0 D' vals).eval x) ∧
    Region.wanted o (yielded ops (fillD ops a0 D vals).tmps) = Region.wanted o (yielded ops (fillD ops a0 D' vals).tmps) := by
  have key : ∀ t ∈ o.looksAt ops, (fillD ops a0 D vals).tmps[t]? = (fillD ops a0 D' vals).tmps[t]? := by
    intro t ht
    rw [fillD_get, fillD_get]
    congr 1; funext x
    cases ho : ownerOf ops t with
    | none => rfl
    | some j => simp only [h t ht j ho]
  constructor
  · intro x hx
    cases x with
    | tmp t =>
      have ht : t ∈ o.looksAt ops := List.mem_append_left _ (List.mem_filterMap.2 ⟨.tmp t, by simpa using hx, rfl⟩)
      simp only [Act.eval, Array.getD_eq_getD_getElem?, key t ht]
    | _ => rfl
  · unfold Region.wanted
    cases hg : o.guard with
    | none => rfl
    | some gw =>
      obtain ⟨g, want⟩ := gw
      have hy : yielded ops (fillD ops a0 D vals).tmps g = yielded ops (fillD ops a0 D' vals).tmps g := by
        unfold yielded
        cases ht : (ops[g]?).bind (·.dst) with
        | none => rfl
        | some t =>
          have hm : t ∈ o.looksAt ops := by simp [Oper.looksAt, hg, ht]
          simp only [Option.bind_some, key t hm]
      simp only [hy]

/-- What one operation has to do: from the slots that the operations ahead of it in the text have filled. -/
def stepQ (o : Oper) (a : Act) (S : Value → World → Prop) (J : World → Prop) (X : World → World → Prop) (W : World) : Exit → Act → World → Prop
  | .normal, a', W' => a' = a.put o.dst (match o.dst with | some d => a'.tmps.getD d undef | none => undef) ∧
      S (match o.dst with | some d => a'.tmps.getD d undef | none => undef) W' ∧ J W' ∧ X W W'
  | _, _, _ => False

theorem count_set (l : List Bool) (i : Nat) (h : l[i]? = some false) : ((l.set i true).filter (fun b => !b)).length + 1 = (l.filter (fun b => !b)).length := by
  induction l generalizing i with
  | nil => simp at h
  | cons b l ih =>
    cases i with
    | zero => simp at h; subst h; simp
    | succ i =>
      simp only [List.getElem?_cons_succ] at h
      have := ih i h
      simp only [List.set_cons_succ, List.filter_cons]
      split
      · simp only [List.length_cons]; omega
      · exact this

theorem put_transfer (a a' : Act) (hs : a'.tmps.size = a.tmps.size) (dst : Option Tmp) (v v' : Value) (h : a.put dst v = a.put dst v') : a'.put dst v = a'.put dst v' := by
  cases dst with
  | none => rfl
  | some d =>
    by_cases hlt : d < a.tmps.size
    · have h1 := congrArg (fun x : Act => x.tmps[d]?) h
      simp [Act.put, hlt] at h1
      rw [h1]
    · have hlt' : ¬ d < a'.tmps.size := fun h => hlt (hs ▸ h)
      simp [Act.put, Array.setIfInBounds, hlt']

theorem wp_region_det {P : Program} {id : Nat} {ops : Array Oper} {Q : Exit → Act → World → Prop} {a0 : Act} {w : World}
    (hm : P.follows .mixedOrders = true) (hok : detOk ops = true)
    (S : Nat → Value → World → Prop) (J : World → Prop) (X : World → World → Prop)
    (hJ : J w.drew) (hX : ∀ j v W W', S j v W → X W W' → S j v W')
    (hop : ∀ i o, ops[i]? = some o → ∀ vals W, J W → (∀ j, hangsOn ops i j = true → S j (vals j) W) →
      wpOp P ops (fun _ _ _ => False) i (fun a' W' => ∃ v, a' = (fillD ops a0 (fun j => decide (j < i)) vals).put o.dst v ∧ S i v W' ∧ J W' ∧ X W W') (fillD ops a0 (fun j => decide (j < i)) vals) W)
    (hend : ∀ vals W, J W → (∀ j, j < ops.size → S j (vals j) W) → Q .normal (fillD ops a0 (fun j => decide (j < ops.size)) vals) W) :
    (Code.region id ops true).wp P Q a0 w := by
  have hall := List.all_eq_true.mp hok
  have hat : ∀ (i : Nat) (o : Oper), ops[i]? = some o → (∀ e ∈ o.after, Region.binds .any e = true → e.on < i) ∧ (∀ d, o.dst = some d → ownerOf ops d = some i) ∧
      (∀ cs b, o.op ≠ .select cs b) ∧
      (∀ t ∈ o.looksAt ops, ∀ j, ownerOf ops t = some j → (hangsOn ops i j = true ∧ j < i) ∨ (hangsOn ops j i = true ∧ i < j)) := by
    intro i o hi
    have hlt : i < ops.size := (Array.getElem?_eq_some_iff.1 hi).1
    have h := hall i (List.mem_range.mpr hlt)
    simp only [hi, Bool.and_eq_true] at h
    obtain ⟨⟨⟨h1, h2⟩, h3⟩, h4⟩ := h
    refine ⟨?_, ?_, ?_, ?_⟩
    · intro e he hb
      have := Array.all_eq_true_iff_forall_mem.1 h1 e he
      simpa [hb] using this
    · intro d hd
      simpa [hd] using h2
    · intro cs b hs
      simp [hs] at h3
    · intro t ht j hj
      have := List.all_eq_true.1 h4 t ht
      simpa [hj] using this
  have hang : ∀ (i j : Nat) (o : Oper), ops[i]? = some o → hangsOn ops i j = true → ∃ e ∈ o.after, Region.binds .any e = true ∧ e.on = j := by
    intro i j o hi hh
    simp only [hangsOn, hi, Option.map_some, Option.getD_some] at hh
    obtain ⟨x, hx, h⟩ := Array.any_eq_true.1 hh
    simp only [Bool.and_eq_true, beq_iff_eq] at h
    exact ⟨o.after[x], Array.getElem_mem hx, h.1, h.2⟩
  refine wp_region_any hm ?_
  have main : ∀ fuel (listed : Array Bool) (vals : Nat → Value) (W : World), listed.size = ops.size → (listed.toList.filter (fun b => !b)).length ≤ fuel → J W →
      (∀ j, listed.getD j false = true → S j (vals j) W) →
      (∀ (i : Nat) (o : Oper), ops[i]? = some o → listed.getD i false = true → ∀ e ∈ o.after, Region.binds .any e = true → listed.getD e.on false = true) →
      wpAny P .any ops Q fuel listed (fillD ops a0 (fun j => listed.getD j false) vals) W := by
    have hfull : ∀ (listed : Array Bool), listed.size = ops.size → Region.ready .any ops listed = [] → ∀ i, i < ops.size → listed.getD i false = true := by
      intro listed hsz hr i
      induction i using Nat.strongRecOn with
      | _ i ih =>
        intro hlt
        have ho : ops[i]? = some ops[i] := Array.getElem?_eq_getElem hlt
        have hnr : i ∉ Region.ready .any ops listed := by rw [hr]; simp
        rw [mem_ready] at hnr
        cases hb : listed.getD i false with
        | true => rfl
        | false =>
          exfalso
          apply hnr
          have hli : i < listed.size := by omega
          refine ⟨by simpa [Array.getD, hli] using hb, _, ho, fun e he hbd => ?_⟩
          have hon := (hat i _ ho).1 e he hbd
          exact ih e.on hon (by omega)
    have hdone : ∀ (listed : Array Bool) (vals : Nat → Value) (W : World), listed.size = ops.size → J W → (∀ j, listed.getD j false = true → S j (vals j) W) →
        Region.ready .any ops listed = [] → Q .normal (fillD ops a0 (fun j => listed.getD j false) vals) W := by
      intro listed vals W hsz hJW hS hr
      have hf := hfull listed hsz hr
      have : (fun j => listed.getD j false) = (fun j => decide (j < ops.size)) := by
        funext j
        by_cases hlt : j < ops.size
        · rw [hf j hlt]; simp [hlt]
        · have : ¬ j < listed.size := by omega
          simp [Array.getD, this, hlt]
      rw [this]
      exact hend vals W hJW (fun j hj => hS j (hf j hj))
    intro fuel
    induction fuel with
    | zero =>
      intro listed vals W hsz hc hJW hS hcl
      have hr : Region.ready .any ops listed = [] := by
        rw [List.eq_nil_iff_forall_not_mem]
        intro i hi
        obtain ⟨h1, o, ho, _⟩ := mem_ready.1 hi
        have hlt : i < ops.size := (Array.getElem?_eq_some_iff.1 ho).1
        have hli : i < listed.size := by omega
        have hm : listed[i] ∈ listed.toList.filter (fun b => !b) := by
          rw [List.mem_filter]
          refine ⟨by simp, ?_⟩
          simpa [Array.getD, hli] using h1
        have : 0 < (listed.toList.filter (fun b => !b)).length := List.length_pos_of_mem hm
        omega
      exact ⟨hr, hdone listed vals W hsz hJW hS hr⟩
    | succ fuel ih =>
      intro listed vals W hsz hc hJW hS hcl
      refine ⟨hdone listed vals W hsz hJW hS, ?_⟩
      intro i hi
      obtain ⟨h1, o, ho, hdep⟩ := mem_ready.1 hi
      have hlt : i < ops.size := (Array.getElem?_eq_some_iff.1 ho).1
      have hli : i < listed.size := by omega
      have hfi : listed.getD i false = false := by simpa [Array.getD, hli] using h1
      obtain ⟨ha1, ha2, ha3, ha4⟩ := hat i o ho
      have hSd : ∀ j, hangsOn ops i j = true → S j (vals j) W := by
        intro j hh
        obtain ⟨e, he, hb, rfl⟩ := hang i j o ho hh
        exact hS _ (hdep e he hb)
      have hst := hop i o ho vals W hJW hSd
      have hlook := fill_looks (ops := ops) (a0 := a0) (D := fun j => listed.getD j false) (D' := fun j => decide (j < i)) (vals := vals) (o := o) (by
        intro t ht j hj
        rcases ha4 t ht j hj with ⟨hh, hji⟩ | ⟨hh, hij⟩
        · obtain ⟨e, he, hb, rfl⟩ := hang i j o ho hh
          have := hdep e he hb
          simp only [this, hji, decide_true]
        · obtain ⟨oj, hoj, _⟩ := owner_dst hj
          obtain ⟨e, he, hb, hon⟩ := hang j i oj hoj hh
          have hnj : listed.getD j false = false := by
            cases hb2 : listed.getD j false with
            | false => rfl
            | true =>
              have := hcl j oj hoj hb2 e he hb
              rw [hon, hfi] at this
              cases this
          have : ¬ j < i := by omega
          simp only [hnj, this, decide_false])
      have hex := execOp_congr o ha3 hlook.1
      have hn : o.dst = none → ∀ t, ownerOf ops t ≠ some i := by
        intro hd t ht
        obtain ⟨o', ho', hd'⟩ := owner_dst ht
        rw [ho] at ho'; cases ho'
        rw [hd] at hd'; cases hd'
      have hset : (fun j => (listed.setIfInBounds i true).getD j false) = (fun j => j == i || listed.getD j false) := by
        funext j
        by_cases hji : j = i
        · subst hji; simp [Array.getD, hli]
        · have hij : i ≠ j := fun e => hji e.symm
          rw [getD_set_ne false hij]; simp [hji]
      have next : ∀ v W', S i v W' → J W' → X W W' →
          wpAny P .any ops Q fuel (listed.setIfInBounds i true) ((fillD ops a0 (fun j => listed.getD j false) vals).put o.dst v) W' := by
        intro v W' hSi hJ' hXX
        rw [fillD_put ops a0 _ vals i o ho v ha2 hn hfi, ← hset]
        refine ih (listed.setIfInBounds i true) (upd vals i v) W' (by simpa using hsz) ?_ hJ' ?_ ?_
        · have hl : listed.toList[i]? = some false := by
            rw [List.getElem?_eq_getElem (by simpa using hli)]
            simpa [Array.getD, hli] using h1
          have := count_set listed.toList i hl
          rw [Array.toList_setIfInBounds]
          omega
        · intro j hj
          have hj' : (j == i || listed.getD j false) = true := by rw [← congrFun hset j]; exact hj
          by_cases hji : j = i
          · subst hji; simpa [upd] using hSi
          · have hlj : listed.getD j false = true := by
              have : (j == i) = false := by simpa using hji
              rw [this, Bool.false_or] at hj'; exact hj'
            simp only [upd, if_neg hji]
            exact hX _ _ _ _ (hS j hlj) hXX
        · intro k ok hok2 hk e he hb
          have hk' : (k == i || listed.getD k false) = true := by rw [← congrFun hset k]; exact hk
          have goal : listed.getD e.on false = true := by
            by_cases hki : k = i
            · subst hki
              rw [ho] at hok2; cases hok2
              exact hdep e he hb
            · have hlk : listed.getD k false = true := by
                have : (k == i) = false := by simpa using hki
                rw [this, Bool.false_or] at hk'; exact hk'
              exact hcl k ok hok2 hlk e he hb
          exact getD_set_true goal
      unfold wpOp at hst ⊢
      simp only [ho] at hst ⊢
      rw [hlook.2]
      by_cases hw : Region.wanted o (yielded ops (fillD ops a0 (fun j => decide (j < i)) vals).tmps) = true
      · simp only [hw, if_true] at hst ⊢
        rcases hst with hst | ⟨_, hl⟩
        · refine .inl ?_
          unfold Oper.wp at hst ⊢
          rw [hex]
          have hsz2 : (fillD ops a0 (fun j => listed.getD j false) vals).tmps.size = (fillD ops a0 (fun j => decide (j < i)) vals).tmps.size := by simp [fillD]
          have conv : ∀ v W', (∃ v', (fillD ops a0 (fun j => decide (j < i)) vals).put o.dst v = (fillD ops a0 (fun j => decide (j < i)) vals).put o.dst v' ∧ S i v' W' ∧ J W' ∧ X W W') →
              wpAny P .any ops Q fuel (listed.setIfInBounds i true) ((fillD ops a0 (fun j => listed.getD j false) vals).put o.dst v) W' := by
            rintro v W' ⟨v', he, h1, h2, h3⟩
            rw [put_transfer _ _ hsz2 _ _ _ he]
            exact next v' W' h1 h2 h3
          generalize (execOp (fillD ops a0 (fun j => decide (j < i)) vals).eval o).run P W = r at hst ⊢
          cases r with
          | ok n w' =>
            cases n <;> simp only [Oper.upon] at hst ⊢
            case value u => exact conv _ _ hst
            case skip => exact conv _ _ hst
            case defer d =>
              obtain ⟨v', he, _⟩ := hst
              have := congrArg (fun x : Act => x.defers.length) he
              exfalso
              revert this
              cases o.dst <;> simp [Act.put]
            case enter f args =>
              refine Calls.mono hst fun e w'' he => ?_
              cases e with
              | returned u => exact conv _ _ he
              | panicked c => exact he.elim
              | outgrown => obtain ⟨_, _, hf⟩ := he; exact hf.elim
            case row row args => exact Rows.mono hst fun u w'' he => conv _ _ he
          | halt x w' =>
            cases x <;> simp only [Oper.upon] at hst ⊢
        · obtain ⟨_, _, hf⟩ := hl; exact hf.elim
      · simp only [hw, Bool.false_eq_true, if_false] at hst ⊢
        obtain ⟨v', he, h1, h2, h3⟩ := hst
        have hsz2 : (fillD ops a0 (fun j => listed.getD j false) vals).tmps.size = (fillD ops a0 (fun j => decide (j < i)) vals).tmps.size := by simp [fillD]
        rw [put_transfer _ _ hsz2 _ _ _ he]
        exact next v' W h1 h2 h3
  have h0 := main ops.size (Array.replicate ops.size false) (fun _ => undef) w.drew (by simp) (by
    refine Nat.le_trans (List.length_filter_le _ _) (by simp)) hJ (by
    intro j hj
    by_cases hlt : j < ops.size <;> simp [Array.getD, hlt] at hj) (by
    intro i o ho hj
    by_cases hlt : i < ops.size <;> simp [Array.getD, hlt] at hj)
  have hz : (fun j => (Array.replicate ops.size false).getD j false) = fun _ => false := by
    funext j
    by_cases hlt : j < ops.size <;> simp [Array.getD, hlt]
  rw [hz] at h0
  have hid : fillD ops a0 (fun _ => false) (fun _ => undef) = a0 := by
    cases a0 with
    | mk t d =>
      simp only [fillD, Bool.false_eq_true, if_false]
      congr 1
      apply Array.ext_getElem?
      intro k
      simp only [Array.getElem?_mapIdx]
      cases t[k]? with
      | none => rfl
      | some x => simp only [Option.map_some]; split <;> rfl
  rw [hid] at h0
  exact h0

/-- The slots filled one by one, in the text's order. -/
def fillTo (ops : Array Oper) (vals : Nat → Value) (a0 : Act) : Nat → Act
  | 0 => a0
  | k + 1 => (fillTo ops vals a0 k).put ((ops[k]?).bind (·.dst)) (vals k)

theorem fillTo_eq (ops : Array Oper) (vals : Nat → Value) (a0 : Act)
    (hown : ∀ (i : Nat) (o : Oper), ops[i]? = some o → ∀ d, o.dst = some d → ownerOf ops d = some i) : ∀ k, k ≤ ops.size → fillD ops a0 (fun j => decide (j < k)) vals = fillTo ops vals a0 k := by
  intro k
  induction k with
  | zero =>
    intro _
    cases a0 with
    | mk t d =>
      simp only [fillD, fillTo, Nat.not_lt_zero, decide_false, Bool.false_eq_true, if_false]
      congr 1
      apply Array.ext_getElem?
      intro k
      simp only [Array.getElem?_mapIdx]
      cases t[k]? with
      | none => rfl
      | some x => simp only [Option.map_some]; split <;> rfl
  | succ k ih =>
    intro hk
    have ho : ops[k]? = some ops[k] := Array.getElem?_eq_getElem (by omega)
    have hn : ops[k].dst = none → ∀ t, ownerOf ops t ≠ some k := by
      intro hd t ht
      obtain ⟨o', ho', hd'⟩ := owner_dst ht
      rw [ho] at ho'; cases ho'
      rw [hd] at hd'; cases hd'
    rw [fillTo, ← ih (by omega), ho, Option.bind_some]
    have := fillD_put ops a0 (fun j => decide (j < k)) vals k _ ho (vals k) (hown k _ ho) hn (by simp)
    rw [this]
    have h1 : (fun j => decide (j < k + 1)) = (fun j => j == k || decide (j < k)) := by
      funext j
      by_cases h : j = k
      · subst h; simp
      · have : (j == k) = false := by simpa using h
        rw [this, Bool.false_or]
        by_cases h2 : j < k
        · simp [h2]; omega
        · simp [h2]; omega
    have h2 : upd vals k (vals k) = vals := by
      funext j; unfold upd; split
      · rename_i h; rw [h]
      · rfl
    rw [h1, h2]

/-- What is owed for each operation, one by one. -/
def OpsGoal (P : Program) (ops : Array Oper) (S : Nat → Value → World → Prop) (J : World → Prop) (X : World → World → Prop) (a0 : Act) : List Oper → Nat → Prop
  | [], _ => True
  | o :: l, i => (∀ (vals : Nat → Value) (W : World), J W → (∀ j, hangsOn ops i j = true → S j (vals j) W) → wpList P ops (stepQ o (fillTo ops vals a0 i) (S i) J X W) [o] (fillTo ops vals a0 i) W) ∧ OpsGoal P ops S J X a0 l (i + 1)

theorem OpsGoal.at {P : Program} {ops : Array Oper} {S : Nat → Value → World → Prop} {J : World → Prop} {X : World → World → Prop} {a0 : Act} : ∀ (l : List Oper) (k : Nat), OpsGoal P ops S J X a0 l k →
    ∀ i o, l[i]? = some o → ∀ (vals : Nat → Value) (W : World), J W → (∀ j, hangsOn ops (k + i) j = true → S j (vals j) W) → wpList P ops (stepQ o (fillTo ops vals a0 (k + i)) (S (k + i)) J X W) [o] (fillTo ops vals a0 (k + i)) W := by
  intro l
  induction l with
  | nil => intro k _ i o h; simp at h
  | cons x l ih =>
    intro k h i o hi
    cases i with
    | zero => simp only [List.getElem?_cons_zero, Option.some.injEq] at hi; subst hi; exact h.1
    | succ i =>
      have := ih (k + 1) h.2 i o (by simpa using hi)
      rw [show k + 1 + i = k + (i + 1) from by omega] at this
      exact this

/-- One operation more, its number written out. -/
theorem OpsGoal.more {P : Program} {ops : Array Oper} {S : Nat → Value → World → Prop} {J : World → Prop} {X : World → World → Prop} {a0 : Act} {o : Oper} {l : List Oper} (i k : Nat) (hk : i + 1 = k)
    (h : ∀ (vals : Nat → Value) (W : World), J W → (∀ j, hangsOn ops i j = true → S j (vals j) W) → wpList P ops (stepQ o (fillTo ops vals a0 i) (S i) J X W) [o] (fillTo ops vals a0 i) W) (t : OpsGoal P ops S J X a0 l k) : OpsGoal P ops S J X a0 (o :: l) i := by subst hk; exact ⟨h, t⟩
theorem stepQ_ex {o : Oper} {a a' : Act} {S : Value → World → Prop} {J : World → Prop} {X : World → World → Prop} {W W' : World}
    (h : stepQ o a S J X W .normal a' W') : ∃ v, a' = a.put o.dst v ∧ S v W' ∧ J W' ∧ X W W' := ⟨_, h⟩

theorem wp_region_det_list {P : Program} {id : Nat} {ops : Array Oper} {Q : Exit → Act → World → Prop} {a0 : Act} {w : World}
    (hm : P.follows .mixedOrders = true) (hok : detOk ops = true)
    (S : Nat → Value → World → Prop) (J : World → Prop) (X : World → World → Prop)
    (hJ : J w.drew) (hX : ∀ j v W W', S j v W → X W W' → S j v W')
    (hop : OpsGoal P ops S J X a0 ops.toList 0)
    (hend : ∀ vals W, J W → (∀ j, j < ops.size → S j (vals j) W) → Q .normal (fillTo ops vals a0 ops.size) W) :
    (Code.region id ops true).wp P Q a0 w := by
  have hown : ∀ (i : Nat) (o : Oper), ops[i]? = some o → ∀ d, o.dst = some d → ownerOf ops d = some i := by
    intro i o hi d hd
    have hlt : i < ops.size := (Array.getElem?_eq_some_iff.1 hi).1
    have h := (List.all_eq_true.mp hok) i (List.mem_range.mpr hlt)
    simp only [hi, Bool.and_eq_true] at h
    obtain ⟨⟨⟨h1, h2⟩, h3⟩, h4⟩ := h
    simpa [hd] using h2
  refine wp_region_det hm hok S J X hJ hX ?_ ?_
  · intro i o hi vals W hJW hS
    have hlt : i < ops.size := (Array.getElem?_eq_some_iff.1 hi).1
    have h := OpsGoal.at ops.toList 0 hop i o (by simpa using hi) vals W hJW (by simpa using hS)
    rw [Nat.zero_add] at h
    rw [fillTo_eq ops vals a0 hown i (by omega)]
    unfold wpOp
    simp only [hi]
    simp only [wpList] at h
    split at h
    · rename_i hw
      simp only [hw, if_true]
      rcases h with h | ⟨_, _, _, hf⟩
      · refine .inl ?_
        unfold Oper.wp at h ⊢
        revert h
        generalize (execOp (fillTo ops vals a0 i).eval o).run P W = r
        intro h
        cases r with
        | ok n w' =>
          cases n <;> simp only [Oper.upon] at h ⊢
          case value u => exact stepQ_ex h
          case skip => exact stepQ_ex h
          case defer d => exact stepQ_ex h
          case enter f args =>
            refine Calls.mono h fun e w'' he => ?_
            cases e with
            | returned u => exact stepQ_ex he
            | panicked c => exact he.elim
            | outgrown => obtain ⟨_, _, hf⟩ := he; exact hf.elim
          case row row args => exact Rows.mono h fun u w'' he => stepQ_ex he
        | halt x w' =>
          cases x <;> simp only [Oper.upon] at h ⊢
          exact h.elim
      · exact hf.elim
    · rename_i hw
      simp only [hw, Bool.false_eq_true, if_false]
      exact stepQ_ex h
  · intro vals W hJW hS
    rw [fillTo_eq ops vals a0 hown _ (Nat.le_refl _)]
    exact hend vals W hJW hS

/-- The value is this one. -/
def eqv (c : Value) : Value → World → Prop := fun v _ => v = c
/-- Whatever it is. -/
def anyv : Value → World → Prop := fun _ _ => True
def SL (l : List (Value → World → Prop)) : Nat → Value → World → Prop := fun j => l.getD j anyv
/-- World upon world: what was there is there. -/
def Grow (W W' : World) : Prop := Below W.heap.size W W'
def Mono (p : Value → World → Prop) : Prop := ∀ v W W', p v W → Grow W W' → p v W'
def MonoL : List (Value → World → Prop) → Prop
  | [] => True
  | p :: l => Mono p ∧ MonoL l
theorem mono_eqv (c : Value) : Mono (eqv c) := fun _ _ _ h _ => h
theorem mono_anyv : Mono anyv := fun _ _ _ _ _ => trivial
theorem SL_mono : ∀ (l : List (Value → World → Prop)), MonoL l → ∀ j v W W', SL l j v W → Grow W W' → SL l j v W' := by
  intro l
  induction l with
  | nil => intro _ j v W W' _ _; simp [SL, anyv]
  | cons p l ih =>
    intro h j v W W' hp hg
    cases j with
    | zero => exact h.1 v W W' hp hg
    | succ j => exact ih h.2 j v W W' hp hg
/-- A new block: its first cell is this one. -/
def cell0 (n c : Nat) (x : Value) : Value → World → Prop := fun v W => ∃ g, v = .slice (some ⟨g, 0, none⟩) n c ∧ g < W.heap.size ∧ W.cell? ⟨g, 0, none⟩ = some x
theorem mono_cell0 (n c : Nat) (x : Value) : Mono (cell0 n c x) := by
  rintro v W W' ⟨g, h1, h2, h3⟩ hg
  exact ⟨g, h1, Nat.lt_of_lt_of_le h2 hg.size, by rw [hg.cell (p := ⟨g, 0, none⟩) h2]; exact h3⟩
theorem SL_eq {l : List (Value → World → Prop)} {j : Nat} {c v : Value} {W : World} (h : l[j]? = some (eqv c)) (hv : v = c) : SL l j v W := by
  simp [SL, List.getD, h]; exact hv
theorem SL_at {l : List (Value → World → Prop)} {j : Nat} {p : Value → World → Prop} {v : Value} {W : World} (h : l[j]? = some p) (hv : p v W) : SL l j v W := by
  simp [SL, List.getD, h]; exact hv
theorem SL_val {l : List (Value → World → Prop)} {j : Nat} {c v : Value} {W : World} (h : l[j]? = some (eqv c)) (hs : SL l j v W) : v = c := by
  simp [SL, List.getD, h] at hs; exact hs
theorem SL_get {l : List (Value → World → Prop)} {j : Nat} {p : Value → World → Prop} {v : Value} {W : World} (h : l[j]? = some p) (hs : SL l j v W) : p v W := by
  simp [SL, List.getD, h] at hs; exact hs
end Go.Proofs.YtjmcpdhfefcdgaaDoor
