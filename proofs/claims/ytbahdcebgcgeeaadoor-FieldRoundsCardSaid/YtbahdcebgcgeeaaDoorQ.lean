/- The first statement of FieldRounds: three calls and three new variables, in whatever order. -/
import Derived.Test.YtbahdcebgcgeeaaDoorP
namespace Go.Proofs.YtbahdcebgcgeeaaDoor
open Go.RowKit

/-- The slots that the statement leaves alone. -/
def fixedQ (t : Nat) : Bool := !([7, 8, 9, 15, 16, 17, 18, 19, 20, 21, 22, 23] : List Nat).contains t
theorem upd_fixed {s s0 : Nat → Value} (d : Nat) (v : Value) (hd : fixedQ d = false) (k : ∀ t, fixedQ t = true → s t = s0 t) : ∀ t, fixedQ t = true → updS s d v t = s0 t := fun t ht => by
  have hne : t ≠ d := fun e => by subst e; rw [hd] at ht; cases ht
  rw [updS, if_neg hne]; exact k t ht

/-- What holds when the operations of L are over. -/
structure QInv (f ky ot : Nat → Nat) (W0 : World) (s0 : Nat → Value) (L : Nat → Bool) (a : Act) (w' : World) : Prop where
  below : Below W0.heap.size W0 w'
  frame : ∃ s g7 g8 g9, a = mkA 125 s ∧ (∀ t, fixedQ t = true → s t = s0 t)
    ∧ (L 0 = true → s 15 = .agg (arr 16 f))
    ∧ (L 1 = true → s 16 = .agg (arr 16 ky))
    ∧ (L 2 = true → s 17 = .agg (arr 16 (rnd mixF f ky)))
    ∧ (L 3 = true → s 18 = .agg (arr 16 f))
    ∧ (L 4 = true → s 19 = .agg (arr 16 ot))
    ∧ (L 5 = true → s 20 = .agg (arr 16 (rnd mixF f ot)))
    ∧ (L 6 = true → s 21 = .agg (arr 16 f))
    ∧ (L 7 = true → s 22 = .agg (arr 16 ky))
    ∧ (L 8 = true → s 23 = .agg (arr 16 (rnd sameF f ky)))
    ∧ (L 9 = true → s 7 = .pointer (some ⟨g7, 0, none⟩) ∧ W0.heap.size ≤ g7 ∧ Blk w' g7 38 16 (if L 12 = true then (rnd mixF f ky) else fun _ => 0))
    ∧ (L 10 = true → s 8 = .pointer (some ⟨g8, 0, none⟩) ∧ W0.heap.size ≤ g8 ∧ Blk w' g8 38 16 (if L 13 = true then (rnd mixF f ot) else fun _ => 0))
    ∧ (L 11 = true → s 9 = .pointer (some ⟨g9, 0, none⟩) ∧ W0.heap.size ≤ g9 ∧ Blk w' g9 38 16 (if L 14 = true then (rnd sameF f ky) else fun _ => 0))
    ∧ (L 9 = true → L 10 = true → g7 ≠ g8) ∧ (L 9 = true → L 11 = true → g7 ≠ g9) ∧ (L 10 = true → L 11 = true → g8 ≠ g9)
    ∧ (L 12 = true → L 9 = true) ∧ (L 13 = true → L 10 = true) ∧ (L 14 = true → L 11 = true)

/-- The statement's operations. -/
noncomputable def q_ops : Array Oper := match Tryd.f8.body with
  | some (.seq _ (.seq (.region _ ops _) _)) => ops
  | _ => #[]
/-- What a walk asks of an operation: what it is, where it writes, for whom it waits. -/
def told (o : Oper) : Op × Option Nat × List Nat := (o.op, o.dst, (o.after.toList.filter fun e => Region.binds .any e).map (·.on))
theorem told_of {ops : Array Oper} {i : Nat} {o : Oper} {x : Op} {d : Option Nat} {js : List Nat} {L : Nat → Bool} (h : ops[i]? = some o) (ht : (ops[i]?).map told = some (x, d, js))
    (hed : ∀ e ∈ o.after, Region.binds .any e = true → L e.on = true) : o.op = x ∧ o.dst = d ∧ ∀ j ∈ js, L j = true := by
  rw [h] at ht
  simp only [Option.map_some, told, Option.some.injEq, Prod.mk.injEq] at ht
  obtain ⟨h1, h2, h3⟩ := ht
  refine ⟨h1, h2, fun j hj => ?_⟩
  rw [← h3, List.mem_map] at hj
  obtain ⟨e, he, rfl⟩ := hj
  rw [List.mem_filter] at he
  exact hed e (Array.mem_toList_iff.1 he.1) he.2


set_option maxRecDepth 100000 in
set_option maxHeartbeats 2000000 in
theorem q_step (f ky ot : Nat → Nat) (hf : ∀ i, f i < 256) (hky : ∀ i, ky i < 256) (hot : ∀ i, ot i < 256) (W0 : World) (g3 g4 g5 : Nat) (b3 : Blk W0 g3 38 16 f) (b4 : Blk W0 g4 38 16 ky) (b5 : Blk W0 g5 38 16 ot)
    (s0 : Nat → Value) (s3 : s0 3 = .pointer (some ⟨g3, 0, none⟩)) (s4 : s0 4 = .pointer (some ⟨g4, 0, none⟩)) (s5 : s0 5 = .pointer (some ⟨g5, 0, none⟩)) (Q : Exit → Act → World → Prop)
    (L : Nat → Bool) (a : Act) (w1 : World) (i : Nat) (o : Oper) (ho1 : q_ops[i]? = some o) (hLi : L i = false) (hed : ∀ e ∈ o.after, Region.binds .any e = true → L e.on = true) (hI : QInv f ky ot W0 s0 L a w1) : o.wp Tryd.prog a w1 (QInv f ky ot W0 s0 (setL L i)) Q := by
  obtain ⟨hB, s, g7, g8, g9, rfl, hfix, k15, k16, k17, k18, k19, k20, k21, k22, k23, a7, a8, a9, n1, n2, n3, q9, q10, q11⟩ := hI
  have hz : q_ops.size = 15 := by kernel_rfl
  have hi : i < 15 := by rw [← hz]; exact (Array.getElem?_eq_some_iff.1 ho1).1
  clear hz
  rcases (by omega : i = 0 ∨ i = 1 ∨ i = 2 ∨ i = 3 ∨ i = 4 ∨ i = 5 ∨ i = 6 ∨ i = 7 ∨ i = 8 ∨ i = 9 ∨ i = 10 ∨ i = 11 ∨ i = 12 ∨ i = 13 ∨ i = 14) with rfl | rfl | rfl | rfl | rfl | rfl | rfl | rfl | rfl | rfl | rfl | rfl | rfl | rfl | rfl
  · -- 0: a load
    obtain ⟨ho, hd, hw⟩ := told_of ho1 (show (q_ops[0]?).map told = some (.load 38 (.tmp 3), some 15, []) by kernel_rfl) hed
    refine wp_load_row 38 (.tmp 3) ho g3 ((mkA_eval 125 s 3 (by decide)).trans ((hfix 3 rfl).trans s3)) 38 (arr 16 f) (0, 0) _ (b3.below hB b3.lt) Tryd.underlying38 rfl (size38 f) ?_
    rw [hd, mkA_put]
    exact ⟨hB, _, g7, g8, g9, rfl, upd_fixed 15 _ rfl hfix, fun _ => rfl, fun h => k16 h, fun h => k17 h, fun h => k18 h, fun h => k19 h, fun h => k20 h, fun h => k21 h, fun h => k22 h, fun h => k23 h, fun h => a7 h, fun h => a8 h, fun h => a9 h, fun h h2 => n1 h h2, fun h h2 => n2 h h2, fun h h2 => n3 h h2, fun h => q9 h, fun h => q10 h, fun h => q11 h⟩
  · -- 1: a load
    obtain ⟨ho, hd, hw⟩ := told_of ho1 (show (q_ops[1]?).map told = some (.load 38 (.tmp 4), some 16, []) by kernel_rfl) hed
    refine wp_load_row 38 (.tmp 4) ho g4 ((mkA_eval 125 s 4 (by decide)).trans ((hfix 4 rfl).trans s4)) 38 (arr 16 ky) (0, 0) _ (b4.below hB b4.lt) Tryd.underlying38 rfl (size38 ky) ?_
    rw [hd, mkA_put]
    exact ⟨hB, _, g7, g8, g9, rfl, upd_fixed 16 _ rfl hfix, fun h => k15 h, fun _ => rfl, fun h => k17 h, fun h => k18 h, fun h => k19 h, fun h => k20 h, fun h => k21 h, fun h => k22 h, fun h => k23 h, fun h => a7 h, fun h => a8 h, fun h => a9 h, fun h h2 => n1 h h2, fun h h2 => n2 h h2, fun h h2 => n3 h h2, fun h => q9 h, fun h => q10 h, fun h => q11 h⟩
  · -- 2: a call
    obtain ⟨ho, hd, hw⟩ := told_of ho1 (show (q_ops[2]?).map told = some (.call { callee := .value (.func 22), args := #[.tmp 15, .tmp 16], argTypes := #[38, 38] }, some 17, [0, 1]) by kernel_rfl) hed
    have e1 := k15 (hw 0 (by simp))
    have e2 := k16 (hw 1 (by simp))
    refine wp_call_fn 22 (.func 22) #[.tmp 15, .tmp 16] #[38, 38] ho #[] rfl (enters_of Tryd.func22 (by kernel_rfl) rfl) #[.agg (arr 16 f), .agg (arr 16 ky)] (by simp [mkA_eval, e1, e2]) _ (Round_any f ky hf hky w1) ?_
    rintro e w' ⟨rfl, hb⟩
    refine ⟨_, rfl, ?_⟩
    rw [hd, mkA_put]
    exact ⟨hB.trans (hb.mono hB.size), _, g7, g8, g9, rfl, upd_fixed 17 _ rfl hfix, fun h => k15 h, fun h => k16 h, fun _ => rfl, fun h => k18 h, fun h => k19 h, fun h => k20 h, fun h => k21 h, fun h => k22 h, fun h => k23 h, fun h => ⟨(a7 h).1, (a7 h).2.1, (a7 h).2.2.grown hb⟩, fun h => ⟨(a8 h).1, (a8 h).2.1, (a8 h).2.2.grown hb⟩, fun h => ⟨(a9 h).1, (a9 h).2.1, (a9 h).2.2.grown hb⟩, fun h h2 => n1 h h2, fun h h2 => n2 h h2, fun h h2 => n3 h h2, fun h => q9 h, fun h => q10 h, fun h => q11 h⟩
  · -- 3: a load
    obtain ⟨ho, hd, hw⟩ := told_of ho1 (show (q_ops[3]?).map told = some (.load 38 (.tmp 3), some 18, []) by kernel_rfl) hed
    refine wp_load_row 38 (.tmp 3) ho g3 ((mkA_eval 125 s 3 (by decide)).trans ((hfix 3 rfl).trans s3)) 38 (arr 16 f) (0, 0) _ (b3.below hB b3.lt) Tryd.underlying38 rfl (size38 f) ?_
    rw [hd, mkA_put]
    exact ⟨hB, _, g7, g8, g9, rfl, upd_fixed 18 _ rfl hfix, fun h => k15 h, fun h => k16 h, fun h => k17 h, fun _ => rfl, fun h => k19 h, fun h => k20 h, fun h => k21 h, fun h => k22 h, fun h => k23 h, fun h => a7 h, fun h => a8 h, fun h => a9 h, fun h h2 => n1 h h2, fun h h2 => n2 h h2, fun h h2 => n3 h h2, fun h => q9 h, fun h => q10 h, fun h => q11 h⟩
  · -- 4: a load
    obtain ⟨ho, hd, hw⟩ := told_of ho1 (show (q_ops[4]?).map told = some (.load 38 (.tmp 5), some 19, []) by kernel_rfl) hed
    refine wp_load_row 38 (.tmp 5) ho g5 ((mkA_eval 125 s 5 (by decide)).trans ((hfix 5 rfl).trans s5)) 38 (arr 16 ot) (0, 0) _ (b5.below hB b5.lt) Tryd.underlying38 rfl (size38 ot) ?_
    rw [hd, mkA_put]
    exact ⟨hB, _, g7, g8, g9, rfl, upd_fixed 19 _ rfl hfix, fun h => k15 h, fun h => k16 h, fun h => k17 h, fun h => k18 h, fun _ => rfl, fun h => k20 h, fun h => k21 h, fun h => k22 h, fun h => k23 h, fun h => a7 h, fun h => a8 h, fun h => a9 h, fun h h2 => n1 h h2, fun h h2 => n2 h h2, fun h h2 => n3 h h2, fun h => q9 h, fun h => q10 h, fun h => q11 h⟩
  · -- 5: a call
    obtain ⟨ho, hd, hw⟩ := told_of ho1 (show (q_ops[5]?).map told = some (.call { callee := .value (.func 22), args := #[.tmp 18, .tmp 19], argTypes := #[38, 38] }, some 20, [3, 4, 2]) by kernel_rfl) hed
    have e1 := k18 (hw 3 (by simp))
    have e2 := k19 (hw 4 (by simp))
    refine wp_call_fn 22 (.func 22) #[.tmp 18, .tmp 19] #[38, 38] ho #[] rfl (enters_of Tryd.func22 (by kernel_rfl) rfl) #[.agg (arr 16 f), .agg (arr 16 ot)] (by simp [mkA_eval, e1, e2]) _ (Round_any f ot hf hot w1) ?_
    rintro e w' ⟨rfl, hb⟩
    refine ⟨_, rfl, ?_⟩
    rw [hd, mkA_put]
    exact ⟨hB.trans (hb.mono hB.size), _, g7, g8, g9, rfl, upd_fixed 20 _ rfl hfix, fun h => k15 h, fun h => k16 h, fun h => k17 h, fun h => k18 h, fun h => k19 h, fun _ => rfl, fun h => k21 h, fun h => k22 h, fun h => k23 h, fun h => ⟨(a7 h).1, (a7 h).2.1, (a7 h).2.2.grown hb⟩, fun h => ⟨(a8 h).1, (a8 h).2.1, (a8 h).2.2.grown hb⟩, fun h => ⟨(a9 h).1, (a9 h).2.1, (a9 h).2.2.grown hb⟩, fun h h2 => n1 h h2, fun h h2 => n2 h h2, fun h h2 => n3 h h2, fun h => q9 h, fun h => q10 h, fun h => q11 h⟩
  · -- 6: a load
    obtain ⟨ho, hd, hw⟩ := told_of ho1 (show (q_ops[6]?).map told = some (.load 38 (.tmp 3), some 21, []) by kernel_rfl) hed
    refine wp_load_row 38 (.tmp 3) ho g3 ((mkA_eval 125 s 3 (by decide)).trans ((hfix 3 rfl).trans s3)) 38 (arr 16 f) (0, 0) _ (b3.below hB b3.lt) Tryd.underlying38 rfl (size38 f) ?_
    rw [hd, mkA_put]
    exact ⟨hB, _, g7, g8, g9, rfl, upd_fixed 21 _ rfl hfix, fun h => k15 h, fun h => k16 h, fun h => k17 h, fun h => k18 h, fun h => k19 h, fun h => k20 h, fun _ => rfl, fun h => k22 h, fun h => k23 h, fun h => a7 h, fun h => a8 h, fun h => a9 h, fun h h2 => n1 h h2, fun h h2 => n2 h h2, fun h h2 => n3 h h2, fun h => q9 h, fun h => q10 h, fun h => q11 h⟩
  · -- 7: a load
    obtain ⟨ho, hd, hw⟩ := told_of ho1 (show (q_ops[7]?).map told = some (.load 38 (.tmp 4), some 22, []) by kernel_rfl) hed
    refine wp_load_row 38 (.tmp 4) ho g4 ((mkA_eval 125 s 4 (by decide)).trans ((hfix 4 rfl).trans s4)) 38 (arr 16 ky) (0, 0) _ (b4.below hB b4.lt) Tryd.underlying38 rfl (size38 ky) ?_
    rw [hd, mkA_put]
    exact ⟨hB, _, g7, g8, g9, rfl, upd_fixed 22 _ rfl hfix, fun h => k15 h, fun h => k16 h, fun h => k17 h, fun h => k18 h, fun h => k19 h, fun h => k20 h, fun h => k21 h, fun _ => rfl, fun h => k23 h, fun h => a7 h, fun h => a8 h, fun h => a9 h, fun h h2 => n1 h h2, fun h h2 => n2 h h2, fun h h2 => n3 h h2, fun h => q9 h, fun h => q10 h, fun h => q11 h⟩
  · -- 8: a call
    obtain ⟨ho, hd, hw⟩ := told_of ho1 (show (q_ops[8]?).map told = some (.call { callee := .value (.func 24), args := #[.tmp 21, .tmp 22], argTypes := #[38, 38] }, some 23, [6, 7, 5]) by kernel_rfl) hed
    have e1 := k21 (hw 6 (by simp))
    have e2 := k22 (hw 7 (by simp))
    refine wp_call_fn 24 (.func 24) #[.tmp 21, .tmp 22] #[38, 38] ho #[] rfl (enters_of Tryd.func24 (by kernel_rfl) rfl) #[.agg (arr 16 f), .agg (arr 16 ky)] (by simp [mkA_eval, e1, e2]) _ (Last_any f ky hf hky w1) ?_
    rintro e w' ⟨rfl, hb⟩
    refine ⟨_, rfl, ?_⟩
    rw [hd, mkA_put]
    exact ⟨hB.trans (hb.mono hB.size), _, g7, g8, g9, rfl, upd_fixed 23 _ rfl hfix, fun h => k15 h, fun h => k16 h, fun h => k17 h, fun h => k18 h, fun h => k19 h, fun h => k20 h, fun h => k21 h, fun h => k22 h, fun _ => rfl, fun h => ⟨(a7 h).1, (a7 h).2.1, (a7 h).2.2.grown hb⟩, fun h => ⟨(a8 h).1, (a8 h).2.1, (a8 h).2.2.grown hb⟩, fun h => ⟨(a9 h).1, (a9 h).2.1, (a9 h).2.2.grown hb⟩, fun h h2 => n1 h h2, fun h h2 => n2 h h2, fun h h2 => n3 h h2, fun h => q9 h, fun h => q10 h, fun h => q11 h⟩
  · -- 9: a variable is laid
    obtain ⟨ho, hd, hw⟩ := told_of ho1 (show (q_ops[9]?).map told = some (.alloc 38, some 7, []) by kernel_rfl) hed
    refine wp_alloc_zero 38 ho (arr 16 fun _ => 0) (zero38 w1) ?_
    rw [hd, mkA_put]
    refine ⟨hB.alloc hB.size _, _, w1.heap.size, g8, g9, rfl, upd_fixed 7 _ rfl hfix, fun h => k15 h, fun h => k16 h, fun h => k17 h, fun h => k18 h, fun h => k19 h, fun h => k20 h, fun h => k21 h, fun h => k22 h, fun h => k23 h, fun _ => ⟨rfl, hB.size, ?_⟩, fun h => ⟨(a8 h).1, (a8 h).2.1, (a8 h).2.2.alloc _⟩, fun h => ⟨(a9 h).1, (a9 h).2.1, (a9 h).2.2.alloc _⟩, (fun _ h2 => by have := (a8 h2).2.2.lt; omega), (fun _ h2 => by have := (a9 h2).2.2.lt; omega), fun h h2 => n3 h h2, fun _ => rfl, fun h => q10 h, fun h => q11 h⟩
    have hn : ¬ (setL L 9 12 = true) := fun h => by have h2 := q9 h; rw [hLi] at h2; cases h2
    rw [if_neg hn]
    exact Blk.new w1 38 16 _
  · -- 10: a variable is laid
    obtain ⟨ho, hd, hw⟩ := told_of ho1 (show (q_ops[10]?).map told = some (.alloc 38, some 8, []) by kernel_rfl) hed
    refine wp_alloc_zero 38 ho (arr 16 fun _ => 0) (zero38 w1) ?_
    rw [hd, mkA_put]
    refine ⟨hB.alloc hB.size _, _, g7, w1.heap.size, g9, rfl, upd_fixed 8 _ rfl hfix, fun h => k15 h, fun h => k16 h, fun h => k17 h, fun h => k18 h, fun h => k19 h, fun h => k20 h, fun h => k21 h, fun h => k22 h, fun h => k23 h, fun h => ⟨(a7 h).1, (a7 h).2.1, (a7 h).2.2.alloc _⟩, fun _ => ⟨rfl, hB.size, ?_⟩, fun h => ⟨(a9 h).1, (a9 h).2.1, (a9 h).2.2.alloc _⟩, (fun h _ => by have := (a7 h).2.2.lt; omega), fun h h2 => n2 h h2, (fun _ h2 => by have := (a9 h2).2.2.lt; omega), fun h => q9 h, fun _ => rfl, fun h => q11 h⟩
    have hn : ¬ (setL L 10 13 = true) := fun h => by have h2 := q10 h; rw [hLi] at h2; cases h2
    rw [if_neg hn]
    exact Blk.new w1 38 16 _
  · -- 11: a variable is laid
    obtain ⟨ho, hd, hw⟩ := told_of ho1 (show (q_ops[11]?).map told = some (.alloc 38, some 9, []) by kernel_rfl) hed
    refine wp_alloc_zero 38 ho (arr 16 fun _ => 0) (zero38 w1) ?_
    rw [hd, mkA_put]
    refine ⟨hB.alloc hB.size _, _, g7, g8, w1.heap.size, rfl, upd_fixed 9 _ rfl hfix, fun h => k15 h, fun h => k16 h, fun h => k17 h, fun h => k18 h, fun h => k19 h, fun h => k20 h, fun h => k21 h, fun h => k22 h, fun h => k23 h, fun h => ⟨(a7 h).1, (a7 h).2.1, (a7 h).2.2.alloc _⟩, fun h => ⟨(a8 h).1, (a8 h).2.1, (a8 h).2.2.alloc _⟩, fun _ => ⟨rfl, hB.size, ?_⟩, fun h h2 => n1 h h2, (fun h _ => by have := (a7 h).2.2.lt; omega), (fun h _ => by have := (a8 h).2.2.lt; omega), fun h => q9 h, fun h => q10 h, fun _ => rfl⟩
    have hn : ¬ (setL L 11 14 = true) := fun h => by have h2 := q11 h; rw [hLi] at h2; cases h2
    rw [if_neg hn]
    exact Blk.new w1 38 16 _
  · -- 12: a store
    obtain ⟨ho, hd, hw⟩ := told_of ho1 (show (q_ops[12]?).map told = some (.store 38 (.tmp 7) (.tmp 17), none, [9, 2, 8, 0, 1, 2, 9, 10, 11]) by kernel_rfl) hed
    have hA := a7 (hw 9 (by simp))
    have hV := k17 (hw 2 (by simp))
    refine wp_store_row 38 (.tmp 7) (.tmp 17) ho g7 (arr 16 (rnd mixF f ky)) ((mkA_eval 125 s 7 (by decide)).trans hA.1) ((mkA_eval 125 s 17 (by decide)).trans hV) 38 _ hA.2.2 (size38 _) (arr_sizes 16 _ _) (arr_one _ _) ?_
    exact ⟨below_setRow hB hA.2.1, s, g7, g8, g9, by rw [hd]; rfl, hfix, fun h => k15 h, fun h => k16 h, fun h => k17 h, fun h => k18 h, fun h => k19 h, fun h => k20 h, fun h => k21 h, fun h => k22 h, fun h => k23 h, fun h => ⟨(a7 h).1, (a7 h).2.1, blk_setRow (a7 h).2.2⟩, fun h => ⟨(a8 h).1, (a8 h).2.1, blk_setRow_other (a8 h).2.2 (n1 (hw 9 (by simp)) h).symm⟩, fun h => ⟨(a9 h).1, (a9 h).2.1, blk_setRow_other (a9 h).2.2 (n2 (hw 9 (by simp)) h).symm⟩, fun h h2 => n1 h h2, fun h h2 => n2 h h2, fun h h2 => n3 h h2, fun _ => hw 9 (by simp), fun h => q10 h, fun h => q11 h⟩
  · -- 13: a store
    obtain ⟨ho, hd, hw⟩ := told_of ho1 (show (q_ops[13]?).map told = some (.store 38 (.tmp 8) (.tmp 20), none, [10, 5, 12, 0, 1, 2, 3, 4, 5, 9, 10, 11, 12]) by kernel_rfl) hed
    have hA := a8 (hw 10 (by simp))
    have hV := k20 (hw 5 (by simp))
    refine wp_store_row 38 (.tmp 8) (.tmp 20) ho g8 (arr 16 (rnd mixF f ot)) ((mkA_eval 125 s 8 (by decide)).trans hA.1) ((mkA_eval 125 s 20 (by decide)).trans hV) 38 _ hA.2.2 (size38 _) (arr_sizes 16 _ _) (arr_one _ _) ?_
    exact ⟨below_setRow hB hA.2.1, s, g7, g8, g9, by rw [hd]; rfl, hfix, fun h => k15 h, fun h => k16 h, fun h => k17 h, fun h => k18 h, fun h => k19 h, fun h => k20 h, fun h => k21 h, fun h => k22 h, fun h => k23 h, fun h => ⟨(a7 h).1, (a7 h).2.1, blk_setRow_other (a7 h).2.2 (n1 h (hw 10 (by simp)))⟩, fun h => ⟨(a8 h).1, (a8 h).2.1, blk_setRow (a8 h).2.2⟩, fun h => ⟨(a9 h).1, (a9 h).2.1, blk_setRow_other (a9 h).2.2 (n3 (hw 10 (by simp)) h).symm⟩, fun h h2 => n1 h h2, fun h h2 => n2 h h2, fun h h2 => n3 h h2, fun h => q9 h, fun _ => hw 10 (by simp), fun h => q11 h⟩
  · -- 14: a store
    obtain ⟨ho, hd, hw⟩ := told_of ho1 (show (q_ops[14]?).map told = some (.store 38 (.tmp 9) (.tmp 23), none, [11, 8, 13, 0, 1, 2, 3, 4, 5, 6, 7, 8, 9, 10, 11, 12, 13]) by kernel_rfl) hed
    have hA := a9 (hw 11 (by simp))
    have hV := k23 (hw 8 (by simp))
    refine wp_store_row 38 (.tmp 9) (.tmp 23) ho g9 (arr 16 (rnd sameF f ky)) ((mkA_eval 125 s 9 (by decide)).trans hA.1) ((mkA_eval 125 s 23 (by decide)).trans hV) 38 _ hA.2.2 (size38 _) (arr_sizes 16 _ _) (arr_one _ _) ?_
    exact ⟨below_setRow hB hA.2.1, s, g7, g8, g9, by rw [hd]; rfl, hfix, fun h => k15 h, fun h => k16 h, fun h => k17 h, fun h => k18 h, fun h => k19 h, fun h => k20 h, fun h => k21 h, fun h => k22 h, fun h => k23 h, fun h => ⟨(a7 h).1, (a7 h).2.1, blk_setRow_other (a7 h).2.2 (n2 h (hw 11 (by simp)))⟩, fun h => ⟨(a8 h).1, (a8 h).2.1, blk_setRow_other (a8 h).2.2 (n3 h (hw 11 (by simp)))⟩, fun h => ⟨(a9 h).1, (a9 h).2.1, blk_setRow (a9 h).2.2⟩, fun h h2 => n1 h h2, fun h h2 => n2 h h2, fun h h2 => n3 h h2, fun h => q9 h, fun h => q10 h, fun _ => hw 11 (by simp)⟩

end Go.Proofs.YtbahdcebgcgeeaaDoor
