/- Arrays of bytes compared; a statement whose order is open, whose operations read and whose callees lay new blocks alone: one walk serves every order. -/
import Derived.Laws.StructEq
import Derived.Deep.QuietTactic
import Derived.BigQuiet
import Derived.Test.YtbahdcebgcgeeaaDoorP
namespace Go.Proofs.YtbahdcebgcgeeaaDoor
open Go.RowKit

theorem run_part_byte (cs : Array Value) (i : Nat) (v : Value) (h : cs[i]? = some v) (w : World) : (part 5 cs (i * 1)).run Tryd.prog w = .ok v w := by
  simp [part, Tryd.isAgg5, h, Sem.run_bind]

theorem run_equalIn_row (d t n : Nat) (hu : Tryd.prog.underlying t = some (.array n 5)) (f : Nat → Nat) (w : World) :
    (Op.equalIn (d + 2) t (.agg (arr n f)) (.agg (arr n f))).run Tryd.prog w = .ok true w := by
  have hb : ∀ (a : Int) w, (Op.equalIn (d + 1) 5 (.int .u8 a) (.int .u8 a)).run Tryd.prog w = .ok true w := fun a w => by
    rw [run_equalIn_int w d 5 .u8 .u8 a a Tryd.underlying5]; simp
  rw [Op.equalIn.eq_def]
  simp only [Sem.run_bind, run_underlying hu, Result.andThen_ok, Tryd.sizeOf5]
  generalize hd : d + 1 = d1 at hb ⊢
  clear hd
  have key : ∀ (l : List Nat), (∀ i ∈ l, i < n) → ∀ w, (forIn l ((none, ()) : Option Bool × Unit) fun i _ => do
        let x ← part 5 (arr n f) (i * 1)
        let y ← part 5 (arr n f) (i * 1)
        let r ← Op.equalIn d1 5 x y
        if (!r) = true then pure (ForInStep.done (some false, ())) else pure (ForInStep.yield (none, ()))).run Tryd.prog w = .ok (none, ()) w := by
    intro l
    induction l with
    | nil => intro _ w; rfl
    | cons i l ih =>
      intro hl w
      have hi := hl i (by simp)
      rw [List.forIn_cons]
      simp only [Sem.run_bind, run_part_byte _ i _ (arr_at n f i hi), Result.andThen_ok, hb]
      have h := ih (fun j hj => hl j (by simp [hj])) w
      simp only [Bool.not_true, Bool.false_eq_true, if_false, Sem.run_pure, Result.andThen_ok]
      exact h
  rw [Std.Legacy.Range.forIn_eq_forIn_range']
  rw [key _ (fun i hi => by simp at hi; omega)]
  rfl

theorem run_eq37 (f : Nat → Nat) (w : World) : (Op.equalIn 10000 37 (.agg (arr 4 f)) (.agg (arr 4 f))).run Tryd.prog w = .ok true w := run_equalIn_row 9998 37 4 Tryd.underlying37 f w
theorem run_eq38 (f : Nat → Nat) (w : World) : (Op.equalIn 10000 38 (.agg (arr 16 f)) (.agg (arr 16 f))).run Tryd.prog w = .ok true w := run_equalIn_row 9998 38 16 Tryd.underlying38 f w
theorem run_eq28 (f : Nat → Nat) (w : World) : (Op.equalIn 10000 28 (.agg (arr 256 f)) (.agg (arr 256 f))).run Tryd.prog w = .ok true w := run_equalIn_row 9998 28 256 Tryd.underlying28 f w
theorem plain37 : Tryd.prog.eqGuardType Tryd.prog.depth 37 = false := by kernel_rfl
theorem plain38 : Tryd.prog.eqGuardType Tryd.prog.depth 38 = false := by kernel_rfl
theorem plain28 : Tryd.prog.eqGuardType Tryd.prog.depth 28 = false := by kernel_rfl

/-- A world in which W's blocks lie as they lay. -/
structure InC (W : World) where
  w : World
  h : Below W.heap.size W w
instance (W : World) : Nonempty (InC W) := ⟨⟨W, Below.refl _ _⟩⟩
theorem Blk.inC {W : World} {g t n : Nat} {f : Nat → Nat} (h : Blk W g t n f) (x : InC W) : Blk x.w g t n f := h.grown x.h

section
variable {P : Program} {Q : Exit → Act → World → Prop} {W : World}
theorem wp_region_below {id : Nat} {l : List Oper} {a : Act} (hm : P.follows .mixedOrders = true) (hB : Region.lexB .any l.toArray = true)
    (h : wpQuiet P l.toArray (fun w' => ∃ x : InC W, w' = x.w) (fun a' => ∀ w', (∃ x : InC W, w' = x.w) → Q .normal a' w') l a) : (Code.region id l.toArray true).wp P Q a W :=
  wp_region_quiet (C := fun w' => ∃ x : InC W, w' = x.w) hm hB ⟨⟨W.drew, below_drew W⟩, rfl⟩ (by simpa using h)
theorem InC.call {f : FuncId} {args : Array Value} {v : Value} (x : InC W) (h : Calls P f args x.w fun e w' => e = .returned v ∧ Below x.w.heap.size x.w w') :
    Calls P f args x.w fun e w'' => e = .returned v ∧ ∃ y : InC W, w'' = y.w :=
  h.mono fun _ w' ⟨he, hb⟩ => ⟨he, ⟨w', x.h.trans (hb.mono x.h.size)⟩, rfl⟩
theorem InC.call_same {f : FuncId} {args : Array Value} {v : Value} (x : InC W) (h : Calls P f args x.w fun e w' => e = .returned v ∧ x.w = w') :
    Calls P f args x.w fun e w'' => e = .returned v ∧ ∃ y : InC W, w'' = y.w :=
  h.mono fun _ _ ⟨he, hb⟩ => ⟨he, x, hb.symm⟩
/-- A whole variable is read. -/
theorem quiet_load_row {o : Oper} {a : Act} {K : Act → Prop} (t : TypeId) (x : Operand) (ho : o.op = .load t x) (g : Nat) (cs : Array Value) (n e : Nat) (hx : a.eval x = .pointer (some ⟨g, 0, none⟩))
    (hh : ∀ y : InC W, y.w.heap[g]? = some (.cells cs t (0, 0))) (hu : P.underlying t = some (.array n e)) (hi : (P.info? t).map (·.size) = some cs.size) (hk : K (a.put o.dst (.agg cs))) :
    o.quiet P a (fun w' => ∃ y : InC W, w' = y.w) K := by
  refine ⟨.agg cs, ?_, hk⟩
  rintro w ⟨y, rfl⟩
  unfold Oper.quietAt
  have hr : (execOp a.eval o).run P y.w = .ok (.value (.agg cs)) y.w := by
    unfold execOp
    simp only [ho, hx, Instr.loadAt, Instr.sureAddr, Sem.run_bind, Sem.run_pure, Result.andThen_ok, run_loadVar_row y.w g t t cs (0, 0) _ (hh y) hu rfl hi]
  rw [hr]
  exact ⟨rfl, rfl⟩
end

end Go.Proofs.YtbahdcebgcgeeaaDoor
