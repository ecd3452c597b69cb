/- A statement whose order is open, by one invariant: what holds when these operations are over, whichever came first. -/
import Derived.Orders
import Derived.Test.YtbahdcebgcgeeaaDoorI
namespace Go.Proofs.YtbahdcebgcgeeaaDoor
open Go.RowKit

/-- Which operations are over, one more. -/
def setL (L : Nat → Bool) (i : Nat) : Nat → Bool := fun j => if j = i then true else L j
theorem setL_same (L : Nat → Bool) (i : Nat) : setL L i i = true := by simp [setL]
theorem setL_true (L : Nat → Bool) (i j : Nat) (h : L j = true) : setL L i j = true := by unfold setL; split <;> simp [h]
theorem setL_ne (L : Nat → Bool) (i j : Nat) (h : j ≠ i) : setL L i j = L j := by simp [setL, h]

/-- Each operation waits for earlier ones alone. -/
def risesB (ops : Array Oper) : Bool := ops.toList.zipIdx.all fun (o, i) => o.after.all fun e => !Region.binds .any e || decide (e.on < i)
theorem rises_of {ops : Array Oper} (h : risesB ops = true) (i : Nat) (o : Oper) (ho : ops[i]? = some o) (e : Edge) (he : e ∈ o.after) (hb : Region.binds .any e = true) : e.on < i := by
  unfold risesB at h
  rw [List.all_eq_true] at h
  have hm : (o, i) ∈ ops.toList.zipIdx := by
    rw [List.mk_mem_zipIdx_iff_getElem?]; simpa using ho
  have h2 := h _ hm
  simp only [Array.all_eq_true_iff_forall_mem] at h2
  have h3 := h2 e he
  rw [hb] at h3
  simpa using h3

section
variable {P : Program} {ops : Array Oper} {Q : Exit → Act → World → Prop}

theorem all_listed (hr : risesB ops = true) (listed : Array Bool) (hs : listed.size = ops.size) (hn : Region.ready .any ops listed = []) : ∀ i, i < ops.size → listed.getD i false = true := by
  intro i
  induction i using Nat.strongRecOn with
  | _ i ih =>
    intro hi
    apply Classical.byContradiction
    intro hc
    have hc' : listed.getD i false = false := by simpa using hc
    have hmem : i ∈ Region.ready .any ops listed := by
      rw [mem_ready]
      refine ⟨?_, ops[i], Array.getElem?_eq_getElem hi, fun e he hb => ?_⟩
      · have hlt : i < listed.size := by omega
        simp only [Array.getD, hlt, dite_true] at hc' ⊢
        exact hc'
      · have := rises_of hr i _ (Array.getElem?_eq_getElem hi) e he hb
        exact ih e.on this (by omega)
    rw [hn] at hmem
    cases hmem

/-- How many are not over. -/
def falses (l : List Bool) : Nat := (l.filter (! ·)).length
theorem falses_set : ∀ (l : List Bool) (i : Nat), l[i]? = some false → falses (l.set i true) + 1 = falses l
  | [], i, h => by simp at h
  | x :: l, 0, h => by simp at h; subst h; simp [falses]
  | x :: l, i + 1, h => by
    have ih := falses_set l i (by simpa using h)
    unfold falses at ih ⊢
    rw [List.set_cons_succ]
    cases x <;> simp <;> omega
theorem falses_zero : ∀ (l : List Bool) (i : Nat), falses l = 0 → i < l.length → l[i]? = some true
  | [], i, _, h => by simp at h
  | x :: l, 0, h, _ => by cases x <;> simp [falses] at h ⊢
  | x :: l, i + 1, h, hi => by
    have : falses l = 0 := by cases x <;> simp [falses] at h ⊢; exact h
    simpa using falses_zero l i this (by simpa using hi)

theorem getD_arr (l : Array Bool) (i : Nat) (b c : Bool) (h : i < l.size) (hb : l.getD i b = c) : l.toList[i]? = some c := by
  simp only [Array.getD, h, dite_true] at hb
  rw [Array.getElem?_toList, Array.getElem?_eq_getElem h]
  exact congrArg some hb

theorem wpAny_inv (hr : risesB ops = true) (Inv : (Nat → Bool) → Act → World → Prop)
    (step : ∀ (L : Nat → Bool) (a : Act) (w : World) (i : Nat) (o : Oper), ops[i]? = some o → L i = false → (∀ e ∈ o.after, Region.binds .any e = true → L e.on = true) → Inv L a w → wpOp P ops Q i (Inv (setL L i)) a w)
    (done : ∀ (L : Nat → Bool) (a : Act) (w : World), (∀ i, i < ops.size → L i = true) → Inv L a w → Q .normal a w) :
    ∀ (fuel : Nat) (listed : Array Bool) (a : Act) (w : World), listed.size = ops.size → falses listed.toList ≤ fuel → Inv (fun j => listed.getD j false) a w →
      wpAny P .any ops Q fuel listed a w := by
  intro fuel
  induction fuel with
  | zero =>
    intro listed a w hs hc hI
    have hall : ∀ i, i < ops.size → listed.getD i false = true := fun i hi => by
      have hlt : i < listed.size := by omega
      have := falses_zero listed.toList i (by omega) (by simpa using hlt)
      rw [Array.getElem?_toList, Array.getElem?_eq_getElem hlt] at this
      simp only [Array.getD, hlt, dite_true]
      exact Option.some.inj this
    refine ⟨?_, done _ a w hall hI⟩
    apply List.eq_nil_iff_forall_not_mem.2
    intro i hi
    obtain ⟨h1, o, ho, _⟩ := mem_ready.1 hi
    have hlt : i < ops.size := (Array.getElem?_eq_some_iff.1 ho).1
    have h2 := hall i hlt
    have hlt' : i < listed.size := by omega
    simp only [Array.getD, hlt', dite_true] at h1 h2
    rw [h1] at h2
    cases h2
  | succ fuel ih =>
    intro listed a w hs hc hI
    refine ⟨fun hn => done _ a w (all_listed hr listed hs hn) hI, fun i hi => ?_⟩
    obtain ⟨h1, o, ho, he⟩ := mem_ready.1 hi
    have hlt : i < ops.size := (Array.getElem?_eq_some_iff.1 ho).1
    have hlt' : i < listed.size := by omega
    have hv := getD_arr listed i true false hlt' h1
    have h1' : listed.getD i false = false := by
      simp only [Array.getD, hlt', dite_true] at h1 ⊢
      exact h1
    have hfun : setL (fun j => listed.getD j false) i = fun j => (listed.setIfInBounds i true).getD j false := by
      funext j
      unfold setL
      by_cases hj : j = i
      · subst hj; simp [hlt']
      · have hj' : ¬ i = j := fun e => hj e.symm
        simp [hj, hj']
    have hcount := falses_set listed.toList i hv
    refine wpOp_mono (fun a' w' h' => ih _ a' w' (by simpa using hs) ?_ (by rw [← hfun]; exact h')) (step _ a w i o ho h1' he hI)
    rw [Array.toList_setIfInBounds]
    omega

/-- A statement whose order is open: by an invariant. -/
theorem wp_region_inv {id : Nat} {a : Act} {w : World} (hm : P.follows .mixedOrders = true) (hr : risesB ops = true) (Inv : (Nat → Bool) → Act → World → Prop)
    (h0 : Inv (fun _ => false) a w.drew)
    (step : ∀ (L : Nat → Bool) (a : Act) (w : World) (i : Nat) (o : Oper), ops[i]? = some o → L i = false → (∀ e ∈ o.after, Region.binds .any e = true → L e.on = true) → Inv L a w → wpOp P ops Q i (Inv (setL L i)) a w)
    (done : ∀ (L : Nat → Bool) (a : Act) (w : World), (∀ i, i < ops.size → L i = true) → Inv L a w → Q .normal a w) : (Code.region id ops true).wp P Q a w := by
  refine wp_region_any hm (wpAny_inv hr Inv step done ops.size _ a _ (by simp) ?_ ?_)
  · unfold falses
    exact Nat.le_trans (List.length_filter_le _ _) (by simp)
  · have : (fun j => (Array.replicate ops.size false).getD j false) = fun _ => false := by
      funext j
      by_cases hj : j < ops.size <;> simp [hj]
    rw [this]; exact h0

/-- .. where no operation is guarded. -/
def openB (ops : Array Oper) : Bool := ops.all fun o => o.guard.isNone
theorem wp_region_open {id : Nat} {a : Act} {w : World} (hm : P.follows .mixedOrders = true) (hr : risesB ops = true) (hn : openB ops = true) (Inv : (Nat → Bool) → Act → World → Prop)
    (h0 : Inv (fun _ => false) a w.drew)
    (step : ∀ (L : Nat → Bool) (a : Act) (w : World) (i : Nat) (o : Oper), ops[i]? = some o → L i = false → (∀ e ∈ o.after, Region.binds .any e = true → L e.on = true) → Inv L a w → o.wp P a w (Inv (setL L i)) Q)
    (done : ∀ (L : Nat → Bool) (a : Act) (w : World), (∀ i, i < ops.size → L i = true) → Inv L a w → Q .normal a w) : (Code.region id ops true).wp P Q a w := by
  refine wp_region_inv hm hr Inv h0 (fun L a w i o ho hl he hI => ?_) done
  have hg : o.guard = none := by
    have := Array.all_eq_true_iff_forall_mem.1 hn o (Array.mem_of_getElem? ho)
    simpa using this
  unfold wpOp
  simp only [ho, Region.wanted, hg, if_true]
  exact .inl (step L a w i o ho hl he hI)

/-! ### The operations -/
variable {o : Oper} {a : Act} {w : World} {K : Act → World → Prop}
theorem wpOp_of {i : Nat} (ho : ops[i]? = some o) (hg : o.guard = none) (h : o.wp P a w K Q) : wpOp P ops Q i K a w := by
  unfold wpOp
  simp only [ho, Region.wanted, hg, if_true]
  exact .inl h
theorem wp_alloc_zero (t : TypeId) (ho : o.op = .alloc t) (cs : Array Value) (hz : (zeroValue t).run P w = .ok (.agg cs) w)
    (h : K (a.put o.dst (.pointer (some ⟨w.heap.size, 0, none⟩))) (w.alloc (.cells cs t))) : o.wp P a w K Q := by
  unfold Oper.wp execOp
  simp only [ho]
  simp [Instr.alloc, newVar, newRow, newObj, Sem.run_bind, hz, go_sem, Value.cells]
  exact h
theorem wp_call_fn (f : FuncId) (fo : Operand) (args : Array Operand) (tys : Array TypeId) (ho : o.op = .call { callee := .value fo, args := args, argTypes := tys }) (cap : Array Value) (hf : a.eval fo = .func (.func f) #[] cap)
    (ent : ∀ args w, (callFunc f args).run P w = .ok (.enter f args) w) (vs : Array Value) (hv : args.map a.eval = vs) (R : Ending → World → Prop) (hc : Calls P f (vs ++ cap) w R)
    (h : ∀ e w', R e w' → ∃ v, e = .returned v ∧ K (a.put o.dst v) w') : o.wp P a w K Q := by
  unfold Oper.wp execOp
  simp only [ho, resolve, hf, Deferred.ofValue, Sem.run_bind, Sem.run_pure, Result.andThen_ok, invoke, hv]
  rw [Array.empty_append, ent, Oper.upon_enter]
  refine hc.mono fun e w' hr => ?_
  obtain ⟨v, rfl, hk⟩ := h e w' hr
  exact hk
end

/-- A frame told by a function on its slots. -/
def mkA (n : Nat) (s : Nat → Value) : Act := { tmps := ((List.range n).map s).toArray, defers := [] }
def updS (s : Nat → Value) (d : Nat) (v : Value) : Nat → Value := fun t => if t = d then v else s t
theorem mkA_put (n : Nat) (s : Nat → Value) (d : Nat) (v : Value) : (mkA n s).put (some d) v = mkA n (updS s d v) := by
  unfold mkA Act.put
  simp only
  congr 1
  apply Array.ext_getElem?
  intro j
  rw [Array.getElem?_setIfInBounds]
  by_cases hj : j < n
  · by_cases e : d = j
    · subst e; simp [hj, updS]
    · have e' : ¬ j = d := fun h => e h.symm
      simp [e, updS, e', hj]
  · by_cases e : d = j
    · subst e; simp [hj]
    · simp [e, hj]
theorem mkA_eval (n : Nat) (s : Nat → Value) (t : Nat) (h : t < n) : (mkA n s).eval (.tmp t) = s t := by
  simp [mkA, Act.eval, h]

end Go.Proofs.YtbahdcebgcgeeaaDoor
