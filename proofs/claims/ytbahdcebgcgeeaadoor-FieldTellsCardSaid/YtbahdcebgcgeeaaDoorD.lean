/- The contracts of field.Box and field.Back. -/
import Derived.Test.YtbahdcebgcgeeaaDoorA
import Derived.Test.YtbahdcebgcgeeaaDoorT
import Derived.Deep.WholeRow
namespace Go.Proofs.YtbahdcebgcgeeaaDoor
open Go.RowKit

def boxA : Array Value := (boxL.map fun x : Nat => Value.int .u8 (x : Int)).toArray
def zeroA (n : Nat) : Array Value := Array.replicate n (.int .u8 0)

theorem info28 : (Tryd.prog.info? 28).map (fun i => (i.zero, i.size)) = some (some (.agg (zeroA 256)), 256) := by kernel_rfl
theorem size28 : (Tryd.prog.info? 28).map (·.size) = some 256 := (zero_of_info info28).2
theorem zero28 (w : World) : (zeroValue 28).run Tryd.prog w = .ok (.agg (zeroA 256)) w := (zero_of_info info28).1 w
theorem boxA_size : boxA.size = 256 := by decide +kernel
theorem boxA_one : boxA.all (·.oneCell') = true := by decide +kernel
theorem size28b : (Tryd.prog.info? 28).map (·.size) = some boxA.size := by rw [boxA_size]; exact size28
theorem zeroA_boxA : (zeroA 256).size = boxA.size := by rw [boxA_size]; exact Array.size_replicate
theorem zeroA_size (n : Nat) : (zeroA n).size = n := by simp [zeroA]

section
variable {P : Program}
theorem wpList_build_as {ops : Array Oper} {rest : List Oper} {o : Oper} {a : Act} {w : World} {Q : Exit → Act → World → Prop} (hg : o.guard = none) (t : TypeId) (parts : Array (Nat × Operand)) (ho : o.op = .build t parts)
    (cells : Array Value) (hf : P.built t (parts.map fun (i, x) => (i, a.eval x)).toList = some cells)
    (h : wpList P ops Q rest (a.put o.dst (.agg cells)) w) : wpList P ops Q (o :: rest) a w := by
  refine wpList_build hg t parts ho (by rw [hf]; rfl) ?_
  rw [hf]; exact h
theorem wpList_store_new {ops : Array Oper} {rest : List Oper} {o : Oper} {a : Act} {w : World} {Q : Exit → Act → World → Prop} (hgd : o.guard = none) (ty : TypeId) (x y : Operand) (ho : o.op = .store ty x y)
    (old cells : Array Value) (hx : a.eval x = .pointer (some ⟨w.heap.size, 0, none⟩)) (hy : a.eval y = .agg cells)
    (hi : (P.info? ty).map (·.size) = some cells.size) (hold : old.size = cells.size) (h1 : cells.all (·.oneCell') = true)
    (h : wpList P ops Q rest (a.put o.dst undef) (w.alloc (.cells cells ty))) : wpList P ops Q (o :: rest) a (w.alloc (.cells old ty)) := by
  refine wpList_store_row hgd ty x y ho w.heap.size cells hx hy ty old (heap_alloc_last w _) hi hold h1 ?_
  rw [World.setRow_alloc_new]; exact h
end

set_option maxRecDepth 100000 in
theorem box_any (w : World) :
    Calls Tryd.prog 12 #[] w fun e w' => e = .returned (.agg boxA) ∧ Below w.heap.size w w' := by
  have hz := zero28
  go_enter Tryd.func12, Tryd.ntmps12
  go_wp2_with (first | (refine wpList_build_as rfl 28 _ rfl boxA (by kernel_rfl) ?_) | (refine wpList_store_new rfl 28 _ _ rfl (zeroA 256) boxA rfl rfl size28b zeroA_boxA boxA_one ?_))
  exact bodyPost_ret (results_cell_row rfl _ _ w.heap.size 28 boxA (0, 0) _ rfl (heap_alloc_last w _) Tryd.underlying28 rfl size28b) rfl ⟨rfl, (Below.refl _ _).alloc (Nat.le_refl _) _⟩

end Go.Proofs.YtbahdcebgcgeeaaDoor
