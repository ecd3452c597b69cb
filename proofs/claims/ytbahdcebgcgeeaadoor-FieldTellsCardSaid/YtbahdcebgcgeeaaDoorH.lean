/- Arrays of bytes in the program's memory, told by a function on indexes. -/
import Derived.Test.YtbahdcebgcgeeaaDoorE
namespace Go.Proofs.YtbahdcebgcgeeaaDoor
open Go.RowKit

/-- The array of the n bytes f 0, f 1, .. -/
def arr (n : Nat) (f : Nat → Nat) : Array Value := ((List.range n).map fun i => Value.int .u8 (f i : Int)).toArray
/-- f, but v at i. -/
def upd (f : Nat → Nat) (i v : Nat) : Nat → Nat := fun j => if j = i then v else f j

theorem arr_size (n : Nat) (f : Nat → Nat) : (arr n f).size = n := by simp [arr]
theorem arr_at (n : Nat) (f : Nat → Nat) (i : Nat) (h : i < n) : (arr n f)[i]? = some (.int .u8 (f i : Int)) := by simp [arr, h]
theorem arr_one (n : Nat) (f : Nat → Nat) : (arr n f).all (·.oneCell') = true := by
  refine Array.all_eq_true_iff_forall_mem.2 fun x hx => ?_
  simp only [arr, List.mem_toArray, List.mem_map] at hx
  obtain ⟨i, _, rfl⟩ := hx
  rfl
theorem arr_congr {n : Nat} {f g : Nat → Nat} (h : ∀ i, i < n → f i = g i) : arr n f = arr n g := by
  unfold arr
  congr 1
  apply List.map_congr_left
  intro i hi
  rw [h i (by simpa using hi)]
theorem arr_set (n : Nat) (f : Nat → Nat) (i v : Nat) : (arr n f).setIfInBounds i (.int .u8 (v : Int)) = arr n (upd f i v) := by
  apply Array.ext_getElem?
  intro j
  rw [Array.getElem?_setIfInBounds]
  by_cases hj : j < n
  · rw [arr_at n _ j hj, arr_at n _ j hj]
    by_cases e : i = j
    · subst e; simp [arr_size, hj, upd]
    · have e' : ¬ j = i := fun h => e h.symm
      simp [e, upd, e']
  · have h1 : (arr n f)[j]? = none := by simp [arr_size]; omega
    have h2 : (arr n (upd f i v))[j]? = none := by simp [arr_size]; omega
    rw [h1, h2]
    by_cases e : i = j
    · subst e; simp [arr_size, hj]
    · simp [e]
theorem zeroA_arr (n : Nat) : zeroA n = arr n (fun _ => 0) := by
  apply Array.ext_getElem?
  intro j
  by_cases hj : j < n
  · rw [arr_at n _ j hj]; simp [zeroA, hj]
  · have h2 : (arr n (fun _ => 0))[j]? = none := by simp [arr_size]; omega
    rw [h2]; simp [zeroA]; omega
theorem boxA_arr : boxA = arr 256 bx := by
  apply Array.ext_getElem?
  intro j
  by_cases hj : j < 256
  · rw [arr_at 256 _ j hj, boxA_at j hj]
  · have h1 : boxA[j]? = none := by simp [boxA_size]; omega
    have h2 : (arr 256 bx)[j]? = none := by simp [arr_size]; omega
    rw [h1, h2]

/-- Block g of type t holds the n bytes of f. -/
def Blk (W : World) (g t n : Nat) (f : Nat → Nat) : Prop := W.heap[g]? = some (.cells (arr n f) t (0, 0))

theorem Blk.cell {W : World} {g t n : Nat} {f : Nat → Nat} (h : Blk W g t n f) (i : Nat) (hi : i < n) : W.cell? ⟨g, i, none⟩ = some (.int .u8 (f i : Int)) := by
  rw [cell_of_row _ _ _ _ _ _ h, arr_at n f i hi]
theorem Blk.frozen {W : World} {g t n : Nat} {f : Nat → Nat} (h : Blk W g t n f) (i : Nat) : W.frozen? ⟨g, i, none⟩ = false := frozen_of_row _ _ i _ _ h
theorem Blk.lt {W : World} {g t n : Nat} {f : Nat → Nat} (h : Blk W g t n f) : g < W.heap.size := (Array.getElem?_eq_some_iff.1 h).1
theorem Blk.set {W : World} {g t n : Nat} {f : Nat → Nat} (h : Blk W g t n f) (i v : Nat) : Blk (W.setCell ⟨g, i, none⟩ (.int .u8 (v : Int))) g t n (upd f i v) := by
  unfold Blk
  rw [heap_setCell_same _ _ _ _ _ _ h, arr_set]
theorem Blk.other {W : World} {g t n : Nat} {f : Nat → Nat} (h : Blk W g t n f) (a : Addr) (v : Value) (hne : g ≠ a.block) : Blk (W.setCell a v) g t n f := by
  unfold Blk
  rw [heap_setCell_other _ _ _ _ hne]; exact h
theorem Blk.alloc {W : World} {g t n : Nat} {f : Nat → Nat} (h : Blk W g t n f) (o : Obj) : Blk (W.alloc o) g t n f := by
  unfold Blk
  rw [Below.heap_alloc _ _ _ h.lt]; exact h
theorem Blk.below {W W' : World} {g t n : Nat} {f : Nat → Nat} (h : Blk W g t n f) {B : Nat} (hb : Below B W W') (hg : g < B) : Blk W' g t n f := (hb.block g hg).trans h
theorem Blk.grown {W W' : World} {g t n : Nat} {f : Nat → Nat} (h : Blk W g t n f) (hb : Below W.heap.size W W') : Blk W' g t n f := h.below hb h.lt
theorem Blk.new (W : World) (t n : Nat) (f : Nat → Nat) : Blk (W.alloc (.cells (arr n f) t)) W.heap.size t n f := heap_alloc_new W _
theorem Blk.congr {W : World} {g t n : Nat} {f f' : Nat → Nat} (h : Blk W g t n f) (he : ∀ i, i < n → f i = f' i) : Blk W g t n f' := by
  unfold Blk; rw [← arr_congr he]; exact h

theorem size37 (f : Nat → Nat) : (Tryd.prog.info? 37).map (·.size) = some (arr 4 f).size := by rw [arr_size]; kernel_rfl
theorem size38 (f : Nat → Nat) : (Tryd.prog.info? 38).map (·.size) = some (arr 16 f).size := by rw [arr_size]; kernel_rfl
theorem size28a (f : Nat → Nat) : (Tryd.prog.info? 28).map (·.size) = some (arr 256 f).size := by rw [arr_size]; exact size28
theorem size49 (f : Nat → Nat) : (Tryd.prog.info? 49).map (·.size) = some (arr 16 f).size := by rw [arr_size]; kernel_rfl

/-- A whole array read out of its block. -/
theorem Blk.load {W : World} {g t n : Nat} {f : Nat → Nat} (h : Blk W g t n f) (ty k e : Nat) (hu : Tryd.prog.underlying ty = some (.array k e)) (hi : (Tryd.prog.info? ty).map (·.size) = some (arr n f).size) :
    (Instr.loadAt ty (.pointer (some ⟨g, 0, none⟩))).run Tryd.prog W = .ok (.agg (arr n f)) W := by
  simp only [Instr.loadAt, Instr.sureAddr, Sem.run_bind, Sem.run_pure, Result.andThen]
  exact run_loadVar_row W g t ty _ (0, 0) _ h hu rfl hi
theorem zero37 (w : World) : (zeroValue 37).run Tryd.prog w = .ok (.agg (arr 4 fun _ => 0)) w := by
  rw [← zeroA_arr]; exact Tryd.zeroValue37 w
theorem zero38 (w : World) : (zeroValue 38).run Tryd.prog w = .ok (.agg (arr 16 fun _ => 0)) w := by
  rw [← zeroA_arr]; exact Tryd.zeroValue38 w

/-- A store of a whole array into the last block, another block right below it. -/
theorem wpList_store_last {P : Program} {ops : Array Oper} {rest : List Oper} {o : Oper} {a : Act} {w : World} {Q : Exit → Act → World → Prop} (hgd : o.guard = none) (ty : TypeId) (x y : Operand) (ho : o.op = .store ty x y)
    (old cells : Array Value) (ob : Obj) (hx : a.eval x = .pointer (some ⟨w.heap.size + 1, 0, none⟩)) (hy : a.eval y = .agg cells)
    (hi : (P.info? ty).map (·.size) = some cells.size) (hold : old.size = cells.size) (h1 : cells.all (·.oneCell') = true)
    (h : wpList P ops Q rest (a.put o.dst undef) ((w.alloc ob).alloc (.cells cells ty))) : wpList P ops Q (o :: rest) a ((w.alloc ob).alloc (.cells old ty)) := by
  refine wpList_store_new hgd ty x y ho old cells ?_ hy hi hold h1 h
  rw [hx]; simp
theorem arr_sizes (n : Nat) (f g : Nat → Nat) : (arr n f).size = (arr n g).size := by rw [arr_size, arr_size]

end Go.Proofs.YtbahdcebgcgeeaaDoor
